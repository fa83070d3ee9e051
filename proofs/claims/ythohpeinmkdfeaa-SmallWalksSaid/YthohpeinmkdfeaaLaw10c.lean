/-
  The walk of the statement WideCopies.
-/
import Derived.Test.YthohpeinmkdfeaaWide12
namespace Go.Proofs.Ythohpeinmkdfeaa
open Go.RowKit
set_option linter.unusedVariables false

theorem wpList_min {w : World} {ops : Array Oper} {rest : List Oper} {o : Oper} {a : Act} {Q : Exit → Act → World → Prop} (hgd : o.guard = none) (s x : Operand) (t : TypeId)
    (ho : o.op = .call { callee := .builtin .min, args := #[s, x], argTypes := #[t, t] }) (n k m : Int) (hs : a.eval s = .int .i64 n) (hx : a.eval x = .int .i64 k) (hm : (if k < n then k else n) = m)
    (h : wpList Try.prog ops Q rest (a.put o.dst (.int .i64 m)) w) : wpList Try.prog ops Q (o :: rest) a w := by
  refine wpList_plain hgd fun K hK => ?_
  have hrun := run_min_int2 (P := Try.prog) (w := w) #[t, t] o.type .i64 .i64 n k
  rw [hm] at hrun
  unfold Oper.wp
  simp [execOp, ho, resolve, invoke, builtin, hs, hx, hrun, Result.andThen]
  exact hK _ _ h

theorem zeros27 : Try.zeroCells27.toList = List.replicate 256 (.bool false) := by kernel_rfl
theorem zero27 (c : Nat) (hc : c < 256) : Try.zeroCells27[c]? = some (.bool false) := by
  obtain ⟨n, hn⟩ : ∃ n, n = 256 := ⟨_, rfl⟩
  have h := zeros27
  rw [← hn] at h
  rw [← Array.getElem?_toList, h, List.getElem?_replicate, if_pos (by omega)]

/-- a step that came in -/
structure Stp where
  drop : Bool
  b : Nat
  many : Nat
  x : Int

/-- steps that came in -/
structure RawS (w : World) (p : Option Addr) (n c : Nat) (ss : List Stp) : Prop where
  cap : n ≤ c
  big : c ≤ 9223372036854775807
  len : ss.length = n
  small : ∀ s ∈ ss, s.b < 256 ∧ s.many < 256 ∧ -9223372036854775808 ≤ s.x ∧ s.x ≤ 9223372036854775807
  cells : 0 < n → ∃ b o, p = some ⟨b, o, none⟩ ∧ ∀ (i : Nat) (s : Stp), ss[i]? = some s → w.cell? ⟨b, o + i * 4, none⟩ = some (.bool s.drop) ∧ w.cell? ⟨b, o + i * 4 + 1, none⟩ = some (.int .u8 s.b) ∧
    w.cell? ⟨b, o + i * 4 + 2, none⟩ = some (.int .u8 s.many) ∧ w.cell? ⟨b, o + i * 4 + 3, none⟩ = some (.int .i64 s.x)

def hasF (h : Nat → Bool) : Nat → Option Int := fun c => if h c then some (c : Int) else none
def setB (h : Nat → Bool) (b : Nat) (v : Bool) : Nat → Bool := fun c => if c = b then v else h c

theorem hasF_set (h : Nat → Bool) (b : Nat) : updF (hasF h) b (some b) = hasF (setB h b true) := by
  funext c
  unfold updF hasF setB
  by_cases e : c = b
  · subst e; simp
  · simp [e]
theorem hasF_drop (h : Nat → Bool) (b : Nat) : updF (hasF h) b none = hasF (setB h b false) := by
  funext c
  unfold updF hasF setB
  by_cases e : c = b
  · subst e; simp
  · simp [e]
theorem hasF_gone (h : Nat → Bool) (b : Nat) (hn : hasF h b = none) : hasF h = hasF (setB h b false) := by
  funext c
  unfold hasF setB at *
  by_cases e : c = b
  · subst e
    cases hc : h c with
    | true => rw [hc] at hn; simp at hn
    | false => simp
  · simp [e]

theorem cntF_lt (f : Nat → Option Int) (b : Nat) (hb : b < 256) (hf : f b = none) : cntF f ≠ 256 := by
  intro h
  unfold cntF at h
  have h1 := List.length_filter_eq_length_iff.1 (show ((List.range 256).filter fun b => (f b).isSome).length = (List.range 256).length by rw [h, List.length_range])
  have := h1 b (List.mem_range.2 hb)
  rw [hf] at this
  cases this

/-- what the loop over the steps knows of the board -/
structure Inv1 (w wr : World) (hb : Nat) (h : Nat → Bool) (U : Nat) (fp : List Nat) : Prop where
  bd : BdE wr w.heap.size w.heap.size 256 (hasF h) U fp
  far : hb ∉ fp
  has : ∀ c, c < 256 → Var wr hb c (.bool (h c))
  below : Below w.heap.size w wr
  old : w.heap.size < hb

theorem Inv1.drewN {w wr : World} {hb : Nat} {h : Nat → Bool} {U : Nat} {fp : List Nat} (k : Inv1 w wr hb h U fp) (z : Nat) : Inv1 w (wr.drewN z) hb h U fp :=
  ⟨k.bd.drewN z, k.far, fun c hc => (k.has c hc).drewN z, below_drewN k.below z, k.old⟩
theorem Inv1.lt {w wr : World} {hb : Nat} {h : Nat → Bool} {U : Nat} {fp : List Nat} (k : Inv1 w wr hb h U fp) : hb < wr.heap.size := (k.has 0 (by decide)).lt
theorem Inv1.alloc {w wr : World} {hb : Nat} {h : Nat → Bool} {U : Nat} {fp : List Nat} (k : Inv1 w wr hb h U fp) (o : Obj) : Inv1 w (wr.alloc o) hb h U fp :=
  ⟨k.bd.step ((Below.refl _ _).alloc (Nat.le_refl _) _), k.far, fun c hc => (k.has c hc).alloc o, k.below.alloc k.below.size o, k.old⟩

/-- a board that was turned in its own blocks; the array is as it was -/
theorem Inv1.turn {w wr w' : World} {hb : Nat} {h h' : Nat → Bool} {U U' : Nat} {fp fp' : List Nat} (k : Inv1 w wr hb h U fp) (hE : BdE w' w.heap.size w.heap.size 256 (hasF h') U' fp') (hX : Exc fp wr w') (hfp : ∀ k ∈ fp', k ∈ fp ∨ wr.heap.size ≤ k) (v : Bool) (b : Nat)
    (hh : h' = setB h b v) : Inv1 w (w'.setCell ⟨hb, b, none⟩ (.bool v)) hb h' U' fp' := by
  have hl := k.lt
  have hf : hb ∉ fp' := fun hm => by
    rcases hfp hb hm with h | h
    · exact k.far h
    · omega
  refine ⟨hE.keep (S := [hb]) ((Exc.refl _ _).set (p := ⟨hb, b, none⟩) (by simp) _) (fun x hx hm => by simp at hm; subst hm; exact hf hx), hf, fun c hc => ?_, ?_, k.old⟩
  · have v1 : Var w' hb c (.bool (h c)) := ⟨hX.cell (k.has c hc).cell k.far, hX.frozen (k.has c hc).cell (k.has c hc).free k.far⟩
    rw [hh]
    unfold setB
    by_cases e : c = b
    · subst e; rw [if_pos rfl]; exact v1.set
    · rw [if_neg e]; exact v1.off e
  · refine (hX.below k.below (fun x hx => (k.bd.fp_lt x hx).1) k.below.size).setCell ?_ _
    exact Nat.le_of_lt k.old

/-- what a Set of the loop leaves -/
theorem Inv1.set {w wr w' : World} {hb : Nat} {h : Nat → Bool} {U : Nat} {fp : List Nat} (k : Inv1 w wr hb h U fp) {b : Nat} (hb6 : b < 256) {e : Ending} (hr : SetR wr w' w.heap.size w.heap.size 256 (hasF h) U fp b (b : Int) e) :
    ∃ v, e = .returned v ∧ ∃ U' fp', BdE w' w.heap.size w.heap.size 256 (hasF (setB h b true)) U' fp' ∧ Exc fp wr w' ∧ (∀ k ∈ fp', k ∈ fp ∨ wr.heap.size ≤ k) := by
  rcases hr with ⟨h1, h2, _⟩ | ⟨_, he, U', fp', hE, hX, hfp, _⟩
  · exact absurd h2 (cntF_lt _ b hb6 h1)
  · exact ⟨_, he, U', fp', by rw [← hasF_set]; exact hE, hX, hfp⟩
theorem Inv1.drop {w wr w' : World} {hb : Nat} {h : Nat → Bool} {U : Nat} {fp : List Nat} (k : Inv1 w wr hb h U fp) {b : Nat} {e : Ending} (hr : DropR wr w' w.heap.size w.heap.size 256 (hasF h) U fp b e) :
    ∃ v, e = .returned v ∧ ∃ U' fp', BdE w' w.heap.size w.heap.size 256 (hasF (setB h b false)) U' fp' ∧ Exc fp wr w' ∧ (∀ k ∈ fp', k ∈ fp ∨ wr.heap.size ≤ k) := by
  rcases hr with ⟨h1, he, hw⟩ | ⟨_, he, fp', hE, hX, hfp⟩
  · refine ⟨_, he, U, fp, ?_, by rw [hw]; exact Exc.refl _ _, fun k hk => Or.inl hk⟩
    rw [hw, ← hasF_gone h b h1]
    exact k.bd
  · exact ⟨_, he, U, fp', by rw [← hasF_drop]; exact hE, hX, hfp⟩

def cntH (h : Nat → Bool) (n : Nat) : Nat := ((List.range n).filter h).length
theorem cntH_succ (h : Nat → Bool) (n : Nat) : cntH h (n + 1) = cntH h n + (if h n then 1 else 0) := by
  unfold cntH
  rw [List.range_succ, List.filter_append, List.length_append]
  cases hn : h n <;> simp [hn]
theorem cntH_le (h : Nat → Bool) (n : Nat) : cntH h n ≤ n := by
  unfold cntH
  have := List.length_filter_le h (List.range n)
  rwa [List.length_range] at this
theorem cntH_F (h : Nat → Bool) : cntF (hasF h) = cntH h 256 := by
  unfold cntF cntH
  congr 1
  refine List.filter_congr fun b _ => ?_
  unfold hasF
  cases h b <;> simp

/-- the step's copy, beside the board -/
structure Cop (wr : World) (b9 : Nat) (sd : Bool) (sb : Nat) (fp : List Nat) : Prop where
  c0 : wr.cell? ⟨b9, 0, none⟩ = some (.bool sd)
  c1 : wr.cell? ⟨b9, 1, none⟩ = some (.int .u8 sb)
  far : b9 ∉ fp

theorem Cop.turn {wr w' : World} {b9 hb b : Nat} {sd v : Bool} {sb : Nat} {fp fp' : List Nat} (k : Cop wr b9 sd sb fp) (hX : Exc fp wr w') (hfp : ∀ k ∈ fp', k ∈ fp ∨ wr.heap.size ≤ k) (hne : ¬ b9 = hb) : Cop (w'.setCell ⟨hb, b, none⟩ (.bool v)) b9 sd sb fp' :=
  ⟨set_keep (hX.cell k.c0 k.far) hne, set_keep (hX.cell k.c1 k.far) hne, fun hm => by
    have hl : b9 < wr.heap.size := block_lt_of_cell k.c0
    rcases hfp b9 hm with h | h
    · exact k.far h
    · omega⟩
theorem Cop.mid {wr w' : World} {b9 : Nat} {sd : Bool} {sb : Nat} {fp : List Nat} (k : Cop wr b9 sd sb fp) (hX : Exc fp wr w') : w'.cell? ⟨b9, 0, none⟩ = some (.bool sd) := hX.cell k.c0 k.far

/-- what the loop over what is done with the copy knows -/
structure Inv2 (w wr : World) (hb : Nat) (h : Nat → Bool) (U : Nat) (fp : List Nat) (g2 : Nat) (f2 : Nat → Option Int) (U2 : Nat) (fp2 : List Nat) : Prop where
  inv : Inv1 w wr hb h U fp
  cpy : BdE wr w.heap.size g2 256 f2 U2 fp2
  far : hb ∉ fp2
  apart : ∀ x ∈ fp, x ∉ fp2

theorem Inv2.alloc {w wr : World} {hb : Nat} {h : Nat → Bool} {U : Nat} {fp : List Nat} {g2 : Nat} {f2 : Nat → Option Int} {U2 : Nat} {fp2 : List Nat} (k : Inv2 w wr hb h U fp g2 f2 U2 fp2) (o : Obj) : Inv2 w (wr.alloc o) hb h U fp g2 f2 U2 fp2 :=
  ⟨k.inv.alloc o, k.cpy.step ((Below.refl _ _).alloc (Nat.le_refl _) _), k.far, k.apart⟩

theorem Inv2.turn {w wr w' : World} {hb : Nat} {h : Nat → Bool} {U : Nat} {fp : List Nat} {g2 : Nat} {f2 f3 : Nat → Option Int} {U2 U3 : Nat} {fp2 fp3 : List Nat} (k : Inv2 w wr hb h U fp g2 f2 U2 fp2)
    (hE : BdE w' w.heap.size g2 256 f3 U3 fp3) (hX : Exc fp2 wr w') (hfp : ∀ k ∈ fp3, k ∈ fp2 ∨ wr.heap.size ≤ k) : Inv2 w w' hb h U fp g2 f3 U3 fp3 := by
  have hl := k.inv.lt
  refine ⟨⟨k.inv.bd.keep hX (fun x hx => k.apart x hx), k.inv.far, fun c hc => hX.var (k.inv.has c hc) k.far, hX.below k.inv.below (fun x hx => (k.cpy.fp_lt x hx).1) k.inv.below.size, k.inv.old⟩, hE, fun hm => ?_, fun x hx hm => ?_⟩
  · rcases hfp hb hm with h | h
    · exact k.far h
    · omega
  · rcases hfp x hm with h | h
    · exact k.apart x hx h
    · have := (k.inv.bd.fp_lt x hx).2; omega

theorem Inv2.set {w wr w' : World} {hb : Nat} {h : Nat → Bool} {U : Nat} {fp : List Nat} {g2 : Nat} {f2 : Nat → Option Int} {U2 : Nat} {fp2 : List Nat} (k : Inv2 w wr hb h U fp g2 f2 U2 fp2) {b : Nat} {x : Int} {e : Ending} (hr : SetR wr w' w.heap.size g2 256 f2 U2 fp2 b x e) :
    ∃ v, e = .returned v ∧ Exc fp2 wr w' ∧ ∃ f3 U3 fp3, Inv2 w w' hb h U fp g2 f3 U3 fp3 ∧ (∀ k ∈ fp3, k ∈ fp2 ∨ wr.heap.size ≤ k) := by
  rcases hr with ⟨h1, h2, he, z, hw⟩ | ⟨_, he, U', fp', hE, hX, hfp, _⟩
  · refine ⟨_, he, by rw [hw]; exact (Exc.refl _ _).drewN z, f2, U2, fp2, ?_, fun k hk => Or.inl hk⟩
    rw [hw]
    exact ⟨k.inv.drewN z, k.cpy.drewN z, k.far, k.apart⟩
  · exact ⟨_, he, hX, _, _, _, k.turn hE hX hfp, hfp⟩
theorem Inv2.drop {w wr w' : World} {hb : Nat} {h : Nat → Bool} {U : Nat} {fp : List Nat} {g2 : Nat} {f2 : Nat → Option Int} {U2 : Nat} {fp2 : List Nat} (k : Inv2 w wr hb h U fp g2 f2 U2 fp2) {b : Nat} {e : Ending} (hr : DropR wr w' w.heap.size g2 256 f2 U2 fp2 b e) :
    ∃ v, e = .returned v ∧ Exc fp2 wr w' ∧ ∃ f3 U3 fp3, Inv2 w w' hb h U fp g2 f3 U3 fp3 ∧ (∀ k ∈ fp3, k ∈ fp2 ∨ wr.heap.size ≤ k) := by
  rcases hr with ⟨h1, he, hw⟩ | ⟨_, he, fp', hE, hX, hfp⟩
  · refine ⟨_, he, by rw [hw]; exact Exc.refl _ _, f2, U2, fp2, by rw [hw]; exact k, fun k hk => Or.inl hk⟩
  · exact ⟨_, he, hX, _, _, _, k.turn hE hX hfp, hfp⟩

theorem Cop.over {wr w' : World} {b9 : Nat} {sd : Bool} {sb : Nat} {fp fp' : List Nat} (k : Cop wr b9 sd sb fp) (hX : Exc fp wr w') (hfp : ∀ k ∈ fp', k ∈ fp ∨ wr.heap.size ≤ k) : Cop w' b9 sd sb fp' :=
  ⟨hX.cell k.c0 k.far, hX.cell k.c1 k.far, fun hm => by
    have hl : b9 < wr.heap.size := block_lt_of_cell k.c0
    rcases hfp b9 hm with h | h
    · exact k.far h
    · omega⟩

set_option maxRecDepth 100000 in
set_option maxHeartbeats 1600000 in
theorem copies_walk (p q : Option Addr) (n c m d : Nat) (w : World) (ss ts : List Stp) (w0 : RawS w p n c ss) (w1 : RawS w q m d ts) :
    Calls Try.prog 3 #[.slice p n c, .slice q m d] w fun e w' => e = .returned (.bool true) ∧ Below w.heap.size w w' := by
  have hcap := w0.cap
  have hbig := w0.big
  have hcap2 := w1.cap
  have hbig2 := w1.big
  have HR := Lib.hid w0
  have HR2 := Lib.hid w1
  clear w0 w1
  obtain ⟨k1, hk1, hk1n, hk1b⟩ : ∃ k1 : Nat, (if (30 : Int) < (n : Int) then (30 : Int) else (n : Int)) = (k1 : Int) ∧ k1 ≤ n ∧ k1 ≤ 30 := by
    by_cases h : n ≤ 30
    · exact ⟨n, by rw [if_neg (by omega)], by omega, h⟩
    · exact ⟨30, by rw [if_pos (by omega)]; rfl, by omega, by omega⟩
  have HK1 := Lib.hid hk1
  obtain ⟨k2, hk2, hk2n, hk2b⟩ : ∃ k2 : Nat, (if (30 : Int) < (m : Int) then (30 : Int) else (m : Int)) = (k2 : Int) ∧ k2 ≤ m ∧ k2 ≤ 30 := by
    by_cases h : m ≤ 30
    · exact ⟨m, by rw [if_neg (by omega)], by omega, h⟩
    · exact ⟨30, by rw [if_pos (by omega)]; rfl, by omega, by omega⟩
  have HK2 := Lib.hid hk2
  clear hk1 hk2
  go_enter Try.func3, Try.ntmps3
  go_wp2_with fail
  refine (new12_yes w.heap.size 256 w (Or.inr rfl) (Nat.le_refl _)).mono ?_
  rintro e w1 ⟨rfl, hE, hB⟩
  have HE := Lib.hid hE
  have HB := Lib.hid hB
  clear hE hB
  go_wp2_with (refine wpList_min rfl _ _ 3 (by rfl) n 30 k1 (by rfl) (by rfl) HK1.out ?_; refine stop ?_)
  refine unhid ?_
  have hmz : (0 : Int) ≤ (k1 : Int) := by omega
  have hmc : (k1 : Int) ≤ (c : Int) := by omega
  have hinv : Inv1 w (w1.alloc (.cells Try.zeroCells27 27)) w1.heap.size (fun _ => false) 0 [w.heap.size] := by
    have hl := HE.out.fp_lt w.heap.size (by simp)
    refine ⟨HE.out.step ((Below.refl _ _).alloc (Nat.le_refl _) _), by simp; omega, fun c hc => ?_, HB.out.alloc HB.out.size _, by omega⟩
    exact Var.new rfl (zero27 c hc)
  have HINV := Lib.hid hinv
  clear hinv
  go_wp2_with fail
  go_loopw [32] (fun t wr => ∃ (k : Nat) (h : Nat → Bool) (U : Nat) (fp : List Nat), t = .int .i64 k ∧ k ≤ k1 ∧ Hid (Inv1 w wr w1.heap.size h U fp)) (fun t _ => k1 - (intOf t).toNat)
  case atStart => exact ⟨0, _, _, _, rfl, by omega, HINV⟩
  case round =>
    obtain ⟨k, h, U, fp, rfl, hk, hinv⟩ := hrel
    by_cases hlt : k < k1
    · obtain ⟨bs, o, rfl, hc⟩ := HR.out.cells (by omega)
      obtain ⟨⟨sd, sb, sm, sx⟩, hst⟩ : ∃ s, ss[k]? = some s := ⟨ss[k]'(by rw [HR.out.len]; omega), List.getElem?_eq_getElem (by rw [HR.out.len]; omega)⟩
      obtain ⟨g0, g1, g2, g3⟩ := hc k _ hst
      obtain ⟨sm1, sm2, _, _⟩ := HR.out.small _ (List.mem_of_getElem? hst)
      simp only at g0 g1 g2 g3 sm1 sm2
      have hbl : bs < w.heap.size := block_lt_of_cell g0
      rw [← hinv.out.below.cell (p := ⟨bs, _, none⟩) hbl] at g0 g1 g2 g3
      have d0 : decide ((k : Int) < (k1 : Int)) = true := by simp; omega
      obtain ⟨r, hr, hr7⟩ : ∃ r : Nat, (sm : Int) % 70 = (r : Int) ∧ r < 70 := ⟨sm % 70, by omega, by omega⟩
      clear hc hst
      go_wp2_with fail
      obtain ⟨b9, hb9⟩ : ∃ b9, b9 = wr.heap.size := ⟨_, rfl⟩
      obtain ⟨W2, hW2⟩ : ∃ W2, W2 = wr.alloc (.cells #[.bool sd, .int .u8 sb, .int .u8 sm, .int .i64 sx] 29) := ⟨_, rfl⟩
      rw [← hW2, ← hb9]
      have i2 : Inv1 w W2 w1.heap.size h U fp := by rw [hW2]; exact hinv.out.alloc _
      have k2 : Cop W2 b9 sd sb fp := by
        rw [hW2, hb9]
        exact ⟨(Var.new rfl rfl).cell, (Var.new rfl rfl).cell, fun hm => by have := (hinv.out.bd.fp_lt _ hm).2; omega⟩
      have hne9 : ¬ b9 = w1.heap.size := by have := hinv.out.lt; omega
      have I2 := Lib.hid i2
      have K2 := Lib.hid k2
      have NE9 := Lib.hid hne9
      clear hW2 hb9 i2 k2 hne9 g0 g1 g2 g3 hinv
      go_loopw [40] (fun t wr2 => ∃ (i : Nat) (h : Nat → Bool) (U : Nat) (fp : List Nat), t = .int .i64 i ∧ i ≤ r ∧ Hid (Inv1 w wr2 w1.heap.size h U fp) ∧ Hid (Cop wr2 b9 sd sb fp)) (fun t _ => r - (intOf t).toNat)
      case atStart => exact ⟨0, _, _, _, rfl, by omega, I2, K2⟩
      case round =>
        clear I2 K2 h U fp
        obtain ⟨i, h, U, fp, rfl, hi, hinv, hcop⟩ := hrel
        by_cases hli : i < r
        · have d1 : decide ((i : Int) < (r : Int)) = true := by simp; omega
          have q0 : IntKind.u8.wrap (i : Int) = (i : Int) := IntWalk.u8_in _ (by omega)
          obtain ⟨bb, hbb, hb6⟩ : ∃ bb : Nat, IntKind.u8.wrap ((sb : Int) + (i : Int)) = (bb : Int) ∧ bb < 256 := by
            refine ⟨(sb + i) % 256, ?_, by omega⟩
            rw [IntKind.wrap_u8]; omega
          have c0 := hcop.out.c0
          have c1 := hcop.out.c1
          have b0 : (0 : Int) ≤ (bb : Int) := by omega
          have b1 : (bb : Int) < 256 := by omega
          have q2 : IntKind.i64.wrap (bb : Int) = (bb : Int) := IntWalk.i64_in _ (by omega)
          cases sd with
          | true =>
            go_wp2_with fail
            refine (dropBd hinv.out.bd hinv.out.below.size bb hb6).mono ?_
            rintro e w3 hr
            obtain ⟨v, rfl, U', fp', hE, hX, hfp⟩ := hinv.out.drop hr
            have m0 := hcop.out.mid hX
            have hv := hX.cell (hinv.out.has bb hb6).cell hinv.out.far
            have hv2 := hX.frozen (hinv.out.has bb hb6).cell (hinv.out.has bb hb6).free hinv.out.far
            have I3 := Lib.hid (hinv.out.turn hE hX hfp false bb rfl)
            have K3 := Lib.hid (hcop.out.turn (hb := w1.heap.size) (b := bb) (v := false) hX hfp NE9.out)
            clear hr hE hX hfp c0 c1
            go_wp2_with fail
            go_roundw
            case rel => exact ⟨i + 1, _, _, _, by go_num, by omega, I3, K3⟩
            case measure => simp [intOf]; omega
          | false =>
            go_wp2_with fail
            refine (setBd hinv.out.bd hinv.out.below.size bb hb6 bb).mono ?_
            rintro e w3 hr
            obtain ⟨v, rfl, U', fp', hE, hX, hfp⟩ := hinv.out.set hb6 hr
            have m0 := hcop.out.mid hX
            have hv := hX.cell (hinv.out.has bb hb6).cell hinv.out.far
            have hv2 := hX.frozen (hinv.out.has bb hb6).cell (hinv.out.has bb hb6).free hinv.out.far
            have I3 := Lib.hid (hinv.out.turn hE hX hfp true bb rfl)
            have K3 := Lib.hid (hcop.out.turn (hb := w1.heap.size) (b := bb) (v := true) hX hfp NE9.out)
            clear hr hE hX hfp c0 c1
            go_wp2_with fail
            go_roundw
            case rel => exact ⟨i + 1, _, _, _, by go_num, by omega, I3, K3⟩
            case measure => simp [intOf]; omega
        · have d1 : decide ((i : Int) < (r : Int)) = false := by simp; omega
          go_wp2_with fail
          go_roundw
          case rel => exact ⟨k + 1, h, U, fp, by go_num, by omega, hinv⟩
          case measure => simp [intOf]; omega
    · obtain rfl : k = k1 := by omega
      have d0 : decide ((k : Int) < (k : Int)) = false := by simp
      go_wp2_with fail
      refine (copyE hinv.out.bd hinv.out.below.size).mono ?_
      rintro e w2 ⟨rfl, hB2, fp2, hE2, hfp2⟩
      have hl := hinv.out.lt
      have inv2 : Inv2 w w2 w1.heap.size h U fp wr.heap.size (hasF h) U fp2 := by
        refine ⟨⟨hinv.out.bd.step hB2, hinv.out.far, fun c hc => (hinv.out.has c hc).step hB2, Below.step hinv.out.below hB2, hinv.out.old⟩, hE2, fun hm => ?_, fun x hx hm => ?_⟩
        · have := hfp2 _ hm; omega
        · have := hfp2 _ hm; have := (hinv.out.bd.fp_lt x hx).2; omega
      have INV2 := Lib.hid inv2
      obtain ⟨g2, hg2⟩ : ∃ g2, g2 = wr.heap.size := ⟨_, rfl⟩
      rw [← hg2] at INV2 ⊢
      clear hg2 inv2 hB2 hE2 hfp2 hl hinv HE HB
      have hmz2 : (0 : Int) ≤ (k2 : Int) := by omega
      have hmc2 : (k2 : Int) ≤ (d : Int) := by omega
      go_wp2_with (refine wpList_min rfl _ _ 3 (by rfl) m 30 k2 (by rfl) (by rfl) HK2.out ?_; refine stop ?_)
      refine unhid ?_
      go_wp2_with fail
      go_loopw [74] (fun t wr => ∃ (k : Nat) (f2 : Nat → Option Int) (U2 : Nat) (fp2 : List Nat), t = .int .i64 k ∧ k ≤ k2 ∧ Hid (Inv2 w wr w1.heap.size h U fp g2 f2 U2 fp2)) (fun t _ => k2 - (intOf t).toNat)
      case atStart => exact ⟨0, _, _, _, rfl, by omega, INV2⟩
      case round =>
        clear INV2
        obtain ⟨k', f2, U2, fp2, rfl, hk', hinv⟩ := hrel
        by_cases hlt2 : k' < k2
        · obtain ⟨bs, o, rfl, hc⟩ := HR2.out.cells (by omega)
          obtain ⟨⟨sd, sb, sm, sx⟩, hst⟩ : ∃ s, ts[k']? = some s := ⟨ts[k']'(by rw [HR2.out.len]; omega), List.getElem?_eq_getElem (by rw [HR2.out.len]; omega)⟩
          obtain ⟨g0, g1, g2', g3⟩ := hc k' _ hst
          obtain ⟨sm1, sm2, _, _⟩ := HR2.out.small _ (List.mem_of_getElem? hst)
          simp only at g0 g1 g2' g3 sm1 sm2
          have hbl : bs < w.heap.size := block_lt_of_cell g0
          rw [← hinv.out.inv.below.cell (p := ⟨bs, _, none⟩) hbl] at g0 g1 g2' g3
          have d1 : decide ((k' : Int) < (k2 : Int)) = true := by simp; omega
          obtain ⟨r, hr, hr7⟩ : ∃ r : Nat, (sm : Int) % 70 = (r : Int) ∧ r < 70 := ⟨sm % 70, by omega, by omega⟩
          clear hc hst
          go_wp2_with fail
          obtain ⟨b9, hb9⟩ : ∃ b9, b9 = wr.heap.size := ⟨_, rfl⟩
          obtain ⟨W2, hW2⟩ : ∃ W2, W2 = wr.alloc (.cells #[.bool sd, .int .u8 sb, .int .u8 sm, .int .i64 sx] 29) := ⟨_, rfl⟩
          rw [← hW2, ← hb9]
          have i2 : Inv2 w W2 w1.heap.size h U fp g2 f2 U2 fp2 := by rw [hW2]; exact hinv.out.alloc _
          have c2 : Cop W2 b9 sd sb fp2 := by
            rw [hW2, hb9]
            exact ⟨(Var.new rfl rfl).cell, (Var.new rfl rfl).cell, fun hm => by have := (hinv.out.cpy.fp_lt _ hm).2; omega⟩
          have I2 := Lib.hid i2
          have C2 := Lib.hid c2
          clear hW2 hb9 i2 c2 g0 g1 g2' g3 hinv
          go_loopw [82] (fun t wr2 => ∃ (i : Nat) (f2 : Nat → Option Int) (U2 : Nat) (fp2 : List Nat), t = .int .i64 i ∧ i ≤ r ∧ Hid (Inv2 w wr2 w1.heap.size h U fp g2 f2 U2 fp2) ∧ Hid (Cop wr2 b9 sd sb fp2)) (fun t _ => r - (intOf t).toNat)
          case atStart => exact ⟨0, _, _, _, rfl, by omega, I2, C2⟩
          case round =>
            clear I2 C2 f2 U2 fp2
            obtain ⟨i, f2, U2, fp2, rfl, hi, hinv, hcop⟩ := hrel
            by_cases hli : i < r
            · have d2 : decide ((i : Int) < (r : Int)) = true := by simp; omega
              have q0 : IntKind.u8.wrap (i : Int) = (i : Int) := IntWalk.u8_in _ (by omega)
              obtain ⟨bb, hbb, hb6⟩ : ∃ bb : Nat, IntKind.u8.wrap ((sb : Int) + (i : Int)) = (bb : Int) ∧ bb < 256 := by
                refine ⟨(sb + i) % 256, ?_, by omega⟩
                rw [IntKind.wrap_u8]; omega
              have c0 := hcop.out.c0
              have c1 := hcop.out.c1
              cases sd with
              | true =>
                go_wp2_with fail
                refine (dropBd hinv.out.cpy hinv.out.inv.below.size bb hb6).mono ?_
                rintro e w3 hr
                obtain ⟨v, rfl, hX, f3, U3, fp3, hI, hfp⟩ := hinv.out.drop hr
                have I3 := Lib.hid hI
                have K3 := Lib.hid (hcop.out.over hX hfp)
                clear hr hI hX hfp c0 c1
                go_wp2_with fail
                go_roundw
                case rel => exact ⟨i + 1, _, _, _, by go_num, by omega, I3, K3⟩
                case measure => simp [intOf]; omega
              | false =>
                go_wp2_with fail
                refine (setBd hinv.out.cpy hinv.out.inv.below.size bb hb6 (-1)).mono ?_
                rintro e w3 hr
                obtain ⟨v, rfl, hX, f3, U3, fp3, hI, hfp⟩ := hinv.out.set hr
                have I3 := Lib.hid hI
                have K3 := Lib.hid (hcop.out.over hX hfp)
                clear hr hI hX hfp c0 c1
                go_wp2_with fail
                go_roundw
                case rel => exact ⟨i + 1, _, _, _, by go_num, by omega, I3, K3⟩
                case measure => simp [intOf]; omega
            · have d2 : decide ((i : Int) < (r : Int)) = false := by simp; omega
              go_wp2_with fail
              go_roundw
              case rel => exact ⟨k' + 1, f2, U2, fp2, by go_num, by omega, hinv⟩
              case measure => simp [intOf]; omega
        · obtain rfl : k' = k2 := by omega
          have d1 : decide ((k' : Int) < (k' : Int)) = false := by simp
          go_wp2_with fail
          go_loopw [16, 103] (fun u t wr => ∃ (b : Nat), u = .int .i64 (cntH h b) ∧ t = .int .i64 b ∧ b ≤ 256 ∧ Hid (Inv1 w wr w1.heap.size h U fp)) (fun _ t _ => 256 - (intOf t).toNat)
          case atStart => exact ⟨0, rfl, rfl, by omega, hinv.out.inv⟩
          case round =>
            clear hinv
            obtain ⟨b, rfl, rfl, hb, hinv⟩ := hrel
            by_cases hlb : b < 256
            · have d2 : decide ((b : Int) < 256) = true := by simp; omega
              have q0 : IntKind.u8.wrap (b : Int) = (b : Int) := IntWalk.u8_in _ (by omega)
              have b0 : (0 : Int) ≤ (b : Int) := by omega
              have b1 : (b : Int) < 256 := by omega
              have q1 : ((b : Int) != (b : Int)) = false := by simp
              have hg := getE hinv.out.bd b hlb
              have hv := (hinv.out.has b hlb).cell
              have hcs := cntH_succ h b
              have hcl := cntH_le h b
              have q3 : IntKind.i64.wrap ((cntH h b : Int) + 1) = (cntH h b : Int) + 1 := IntWalk.i64_in _ (by omega)
              cases hh : h b with
              | true =>
                rw [show hasF h b = some (b : Int) by unfold hasF; rw [hh]; rfl] at hg
                rw [hh] at hv
                rw [hh, if_pos rfl] at hcs
                have HG := Lib.hid hg
                have HCS := Lib.hid hcs
                clear hg hh hcs
                simp only [Option.isSome, valO, Option.getD] at HG
                go_wp2_with fail
                refine HG.out.mono ?_
                rintro e w3 ⟨rfl, z, hw3⟩
                have hv3 : w3.cell? ⟨w1.heap.size, b, none⟩ = some (.bool true) := by rw [hw3]; exact hv
                have I3 : Hid (Inv1 w w3 w1.heap.size h U fp) := by show Inv1 _ _ _ _ _ _; rw [hw3]; exact hinv.out.drewN z
                clear hw3 hv HG
                go_wp2_with fail
                go_roundw
                case rel => exact ⟨b + 1, by rw [HCS.out]; rfl, by go_num, by omega, I3⟩
                case measure => simp [intOf]; omega
              | false =>
                rw [show hasF h b = none by unfold hasF; rw [hh]; rfl] at hg
                rw [hh] at hv
                rw [hh, if_neg (by simp)] at hcs
                have HG := Lib.hid hg
                have HCS := Lib.hid hcs
                clear hg hh hcs
                simp only [Option.isSome, valO, Option.getD] at HG
                go_wp2_with fail
                refine HG.out.mono ?_
                rintro e w3 ⟨rfl, z, hw3⟩
                have hv3 : w3.cell? ⟨w1.heap.size, b, none⟩ = some (.bool false) := by rw [hw3]; exact hv
                have I3 : Hid (Inv1 w w3 w1.heap.size h U fp) := by show Inv1 _ _ _ _ _ _; rw [hw3]; exact hinv.out.drewN z
                clear hw3 hv HG
                go_wp2_with fail
                go_roundw
                case rel => exact ⟨b + 1, by rw [HCS.out]; rfl, by go_num, by omega, I3⟩
                case measure => simp [intOf]; omega
            · obtain rfl : b = 256 := by omega
              have hl := lenE hinv.out.bd
              rw [cntH_F] at hl
              generalize cntH h 256 = cn at *
              have q1 : ((cn : Int) == (cn : Int)) = true := by simp
              have HL := Lib.hid hl
              clear hl
              go_wp2_with fail
              refine HL.out.mono ?_
              rintro e w' ⟨rfl, hw'⟩
              rw [hw']; clear hw' w'
              go_wp2_with fail
              refine (alive18 _).mono ?_; rintro e w' ⟨rfl, hbel⟩
              have HX := Lib.hid (Below.step hinv.out.below hbel)
              clear hbel
              go_wp2_with fail
              go_ret
              exact ⟨rfl, HX.out⟩

end Go.Proofs.Ythohpeinmkdfeaa
