/-
  For the statement TopOwners: ser: numbers, heads; ser: lay.
-/
import Derived.Test.YtbihlmkjoplkoaaGreatDoorM29
/-
  ser: numbers, heads.
-/
namespace Go.Proofs.YtbihlmkjoplkoaaGreatDoor
open Go.RowKit
set_option linter.unusedVariables false

/-- the block of a row -/
def blk (p : Option Addr) : List Nat := match p with
  | some a => [a.block]
  | none => []
/-- a row has grown: nothing else has changed, and it lies where it lay or in a new block -/
structure Gro (p p' : Option Addr) (w w' : World) : Prop where
  exc : Exc (blk p) w w'
  new : ∀ a, p' = some a → a.block ∈ blk p ∨ w.heap.size ≤ a.block
theorem Gro.refl (p : Option Addr) (w : World) : Gro p p w w := ⟨Exc.refl _ _, fun a h => Or.inl (by subst h; simp [blk])⟩
theorem Gro.trans {p q r : Option Addr} {a b c : World} (h : Gro p q a b) (k : Gro q r b c) : Gro p r a c := by
  have hq : ∀ g, g < a.heap.size → g ∉ blk p → g ∉ blk q := fun g hg hp hin => by
    cases q with
    | none => cases hin
    | some x =>
      have e : g = x.block := by simpa [blk] using hin
      rcases h.new x rfl with h1 | h1
      · exact hp (e ▸ h1)
      · omega
  refine ⟨⟨k.exc.os.trans h.exc.os, k.exc.tape.trans h.exc.tape, k.exc.output.trans h.exc.output, Nat.le_trans h.exc.size k.exc.size, fun g hg hp => ?_⟩, fun x hx => ?_⟩
  · exact (k.exc.block g (Nat.lt_of_lt_of_le hg h.exc.size) (hq g hg hp)).trans (h.exc.block g hg hp)
  · rcases k.new x hx with h1 | h1
    · cases q with
      | none => cases h1
      | some y =>
        have e : x.block = y.block := by simpa [blk] using h1
        rcases h.new y rfl with h2 | h2
        · exact Or.inl (e ▸ h2)
        · exact Or.inr (e ▸ h2)
    · exact Or.inr (Nat.le_trans h.exc.size h1)
theorem Gro.after {p q : Option Addr} {a b c : World} (k : Below a.heap.size a b) (h : Gro p q b c) : Gro p q a c :=
  ⟨(Exc.ofBelow k _).trans h.exc, fun x hx => (h.new x hx).imp (fun y => y) fun y => Nat.le_trans k.size y⟩

/-- append of bytes, whatever they are -/
theorem wpList_append_any {w : World} {ops : Array Oper} {rest : List Oper} {o : Oper} {a : Act} {Q : Exit → Act → World → Prop} (hgd : o.guard = none) (s x : Operand)
    (ho : o.op = .call { callee := .builtin .append, args := #[s, x], argTypes := #[41, 41] })
    (base : Nat) (p0 : Option Addr) (k cap : Nat) (l : List Int) (hs : a.eval s = .slice p0 k cap) (hown : w.ownsRow base 5 1 (.slice p0 k cap) k (l.map (Value.int .u8)))
    (p : Option Addr) (n c : Nat) (xs : List Int) (hx : a.eval x = .slice p n c) (hl : xs.length = n) (hB : Lib.BytesIn w p n xs) (hsum : k + n ≤ 140737488351232) (hbase : base ≤ w.heap.size)
    (h : ∀ p' cap' w', w'.ownsRow base 5 1 (.slice p' (k + n) cap') (k + n) ((l ++ xs).map (Value.int .u8)) → Gro p0 p' w w' →
      wpList Tryz.prog ops Q rest (a.put o.dst (.slice p' (k + n) cap')) w') : wpList Tryz.prog ops Q (o :: rest) a w := by
  obtain ⟨i0, hi, hz0, hz1, hz2⟩ := info_parts info5
  by_cases hn : 0 < n
  · obtain ⟨b, o', rfl, hc⟩ := hB.at hn
    have hnews : ∀ j u, (xs.map (Value.int .u8))[j]? = some u → w.cell? ((⟨b, o', none⟩ : Addr).add j) = some u := by
      intro j u hj
      have hjl : j < xs.length := by
        have := (List.getElem?_eq_some_iff.1 hj).1
        rwa [List.length_map] at this
      have e : (⟨b, o', none⟩ : Addr).add j = ⟨b, o' + j, none⟩ := by unfold Addr.add; split <;> simp_all
      rw [e, hc j (by rw [← hl]; exact hjl), ← hj]
      simp [List.getD_eq_getElem?_getD, hjl]
    refine wpList_append_lies _ hgd s x 41 ho base 5 i0 (.int .u8 0) 1 1 Tryz.underlying41 hi hz0 hz1 hz2 rfl (by decide) _ k _ hs hown ⟨b, o', none⟩ n c (xs.map (Value.int .u8)) hx (by rw [List.length_map, hl]; omega) hnews (one_bytes xs) hn (by unfold maxLen; omega) (by omega) hbase w.heap.size rfl ?_
    intro g c1 w1 hown1 hgrow hg1 _
    have hb1 : ∀ g, (Value.slice p0 k cap).ownBlock = some g → g ∈ blk p0 := fun g hg => by
      cases p0 with
      | none => cases hg
      | some a => simp [Value.ownBlock] at hg; simp [blk, hg]
    refine h _ _ w1 ?_ ⟨⟨hgrow.os, hgrow.tape, hgrow.output, hgrow.size, fun g hg hp => hgrow.block g hg (fun e => hp (hb1 g e.symm))⟩, fun a ha => ?_⟩
    · rw [List.map_append]; exact hown1
    · cases ha
      rcases hg1 with h1 | h1
      · exact Or.inl (hb1 g h1)
      · exact Or.inr (by rw [h1]; exact Nat.le_refl _)
  · obtain rfl : n = 0 := by omega
    have hxs : xs = [] := List.length_eq_zero_iff.1 hl
    subst hxs
    have hk : k ≤ cap := by
      rcases hown.2 with ⟨e, hk⟩ | ⟨g, cap', cur, e, _, _, hc, _⟩
      · omega
      · cases e; exact hc
    refine wpList_append_zero hgd s x 41 ho 5 i0 Tryz.underlying41 hi p0 p k cap c hs hx hk ?_
    have := h p0 cap w (by rw [List.append_nil, Nat.add_zero]; exact hown) (Gro.refl _ _)
    rwa [Nat.add_zero] at this

/-- bytes that the call has laid, n of them -/
structure By (w0 w : World) (p : Option Addr) (n c : Nat) : Prop where
  own : ∃ xs : List Int, w.ownsRow w0.heap.size 5 1 (.slice p n c) n (xs.map (Value.int .u8))
  bel : Below w0.heap.size w0 w

theorem By.gro {w0 w w' : World} {p p' : Option Addr} {n c n' c' : Nat} (h : By w0 w p n c) (k : Gro p p' w w') {xs : List Int} (ho : w'.ownsRow w0.heap.size 5 1 (.slice p' n' c') n' (xs.map (Value.int .u8))) : By w0 w' p' n' c' := by
  obtain ⟨ys, hy⟩ := h.own
  refine ⟨⟨xs, ho⟩, k.exc.below h.bel (fun g hg => ?_) h.bel.size⟩
  cases p with
  | none => cases hg
  | some a =>
    have e : g = a.block := by simpa [blk] using hg
    exact e ▸ (own_lt hy a.block rfl).1
theorem By.alloc {w0 w : World} {p : Option Addr} {n c : Nat} (h : By w0 w p n c) (o : Obj) : By w0 (w.alloc o) p n c :=
  let ⟨⟨xs, h1⟩, h2⟩ := h; ⟨⟨xs, h1.alloc _⟩, h2.alloc h2.size _⟩
theorem bytes_one {w : World} {g : Nat} {x : Int} (h : w.heap[g]? = some (.cells #[.int .u8 x] 5 (0, 0))) : Lib.BytesIn w (some ⟨g, 0, none⟩) 1 [x] := fun _ => ⟨g, 0, rfl, fun i hi => by
  obtain rfl : i = 0 := by omega
  rw [cell_of_row _ _ _ _ _ _ h]; rfl⟩

set_option maxHeartbeats 1600000 in
set_option maxRecDepth 100000 in
theorem num91 {w0 w : World} {p : Option Addr} {k c : Nat} (hb : By w0 w p k c) (n : Int) (hn : 0 ≤ n ∧ n < 18446744073709551616) (hk : k + 10 ≤ 140737488351232) :
    Calls Tryz.prog 91 #[.slice p k c, .int .u64 n] w fun e w' => ∃ p' k' c', e = .returned (.slice p' k' c') ∧ k' ≤ k + 10 ∧ By w0 w' p' k' c' ∧ Gro p p' w w' := by
  have HB := Lib.hid hb
  have HN := Lib.hid hn
  have HK := Lib.hid hk
  clear hb hn hk
  go_enter Tryz.func91, Tryz.ntmps91
  go_wp2_with fail
  go_loopg [0, 1] 10 (fun gk b m wr => ∃ (q : Option Addr) (j d : Nat) (x : Int), b = .slice q j d ∧ m = .int .u64 x ∧ 1 ≤ gk ∧ gk ≤ 10 ∧ j + gk = k + 10 ∧ 0 ≤ x ∧ Hid (x < 128 ^ gk) ∧ Hid (By w0 wr q j d ∧ Gro p q w wr))
  case atStart => exact ⟨p, k, c, n, rfl, rfl, by omega, by omega, by omega, HN.out.1, by show n < 128 ^ 10; have := HN.out.2; omega, HB.out, Gro.refl _ _⟩
  case round =>
    obtain ⟨q, j, d, x, rfl, rfl, hg1, hg2, hj, hx0, hx, hby⟩ := hrel
    by_cases h7 : 128 ≤ x
    · have d1 : decide (x ≥ 128) = true := by simpa using h7
      have HG := Lib.hid (show 1 ≤ gk ∧ gk ≤ 10 ∧ j + gk = k + 10 ∧ 0 ≤ x ∧ 128 ≤ x from ⟨hg1, hg2, hj, hx0, h7⟩)
      clear hg1 hg2 hj hx0 h7
      go_wp2_with (at_builtin; refine stop ?_)
      refine unhid ?_
      obtain ⟨hb0, hgr⟩ := hby.out
      have hb9 := hb0
      obtain ⟨⟨xs, hown⟩, hbel⟩ := hb9
      refine wpList_append_any rfl _ _ (by rfl) w0.heap.size q j d xs (by rfl) (hown.alloc _) (some ⟨wr.heap.size, 0, none⟩) 1 1 [bits BinOp.or IntKind.u8 (x.tmod 128 % 256) 128] (by rfl) rfl (bytes_one (heap_alloc_new _ _)) (by have := HG.out; have := HK.out; omega) (by rw [World.size_alloc]; have := hbel.size; omega) ?_
      intro p1 c1 w1 hown1 hbel1
      have HBY : Hid (By w0 w1 p1 (j + 1) c1 ∧ Gro p p1 w w1) := ⟨(hb0.alloc _).gro hbel1 hown1, hgr.trans (Gro.after ((Below.refl _ _).alloc (Nat.le_refl _) _) hbel1)⟩
      clear hown hbel hown1 hbel1 hb0 hgr
      go_wp2_with fail
      have hg2 : 2 ≤ gk := by
        have h1 := HG.out
        rcases Nat.lt_or_ge gk 2 with h | h
        · have : gk = 1 := by omega
          have h2 := hx.out
          rw [this] at h2
          omega
        · exact h
      go_roundg (gk - 1)
      case measure => have := HG.out; omega
      case rel =>
        refine ⟨p1, j + 1, c1, x / 128, rfl, rfl, by omega, by have := HG.out; omega, by have := HG.out; omega, by have := HG.out; omega, ?_, HBY⟩
        show x / 128 < 128 ^ (gk - 1)
        have h2 := hx.out
        obtain ⟨g', rfl⟩ : ∃ g', gk = g' + 1 := ⟨gk - 1, by omega⟩
        rw [Int.pow_succ] at h2
        simp only [Nat.add_sub_cancel]
        exact Int.ediv_lt_of_lt_mul (by omega) h2
    · have d1 : decide (x ≥ 128) = false := by simpa using h7
      have HG := Lib.hid (show 1 ≤ gk ∧ gk ≤ 10 ∧ j + gk = k + 10 ∧ 0 ≤ x from ⟨hg1, hg2, hj, hx0⟩)
      clear hg1 hg2 hj hx0 h7
      go_wp2_with (at_builtin; refine stop ?_)
      refine unhid ?_
      obtain ⟨hb0, hgr⟩ := hby.out
      have hb9 := hb0
      obtain ⟨⟨xs, hown⟩, hbel⟩ := hb9
      refine wpList_append_any rfl _ _ (by rfl) w0.heap.size q j d xs (by rfl) (hown.alloc _) (some ⟨wr.heap.size, 0, none⟩) 1 1 [_] (by rfl) rfl (bytes_one (heap_alloc_new _ _)) (by have := HG.out; have := HK.out; omega) (by rw [World.size_alloc]; have := hbel.size; omega) ?_
      intro p1 c1 w1 hown1 hbel1
      have HBY : Hid (By w0 w1 p1 (j + 1) c1 ∧ Gro p p1 w w1) := ⟨(hb0.alloc _).gro hbel1 hown1, hgr.trans (Gro.after ((Below.refl _ _).alloc (Nat.le_refl _) _) hbel1)⟩
      clear hown hbel hown1 hbel1 hb0 hgr
      go_wp2_with fail
      go_ret
      exact ⟨p1, j + 1, c1, rfl, by have := HG.out; omega, HBY.out.1, HBY.out.2⟩

/-- a byte that head tells -/
theorem head123 {B : Nat} {w : World} {S : Store} {a : Nat} {d : ND} (h : Sto B w S) (hd : S a = some d) : Calls Tryz.prog 123 #[.pointer (some ⟨a, 0, none⟩)] w fun e w' => (∃ x : Int, e = .returned (.int .u8 x)) ∧ w' = w := by
  have HV := Lib.hid (val63 h hd)
  have HK := Lib.hid (kind64 h hd)
  obtain ⟨kn, hk⟩ : ∃ kn, kindN d = kn := ⟨_, rfl⟩
  rw [hk] at HK
  obtain ⟨vv, hv⟩ : ∃ vv, valOf d = vv := ⟨_, rfl⟩
  rw [hv] at HV
  clear h hd hk hv
  cases hh : d.has with
  | true =>
    rw [hh] at HV
    go_enter Tryz.func123, Tryz.ntmps123
    go_wp2_with fail
    refine HV.out.mono ?_; rintro e w1 ⟨rfl, hw1⟩
    rw [hw1]; clear hw1 w1
    go_wp2_with fail
    refine HK.out.mono ?_; rintro e w1 ⟨rfl, hw1⟩
    rw [hw1]; clear hw1 w1
    go_wp2_with fail
    all_goals
      refine HK.out.mono ?_; rintro e w1 ⟨rfl, hw1⟩
      rw [hw1]; clear hw1 w1
      go_wp2_with fail
    all_goals
      go_ret
      exact ⟨⟨_, rfl⟩, rfl⟩
  | false =>
    rw [hh] at HV
    go_enter Tryz.func123, Tryz.ntmps123
    go_wp2_with fail
    refine HV.out.mono ?_; rintro e w1 ⟨rfl, hw1⟩
    rw [hw1]; clear hw1 w1
    go_wp2_with fail
    refine HK.out.mono ?_; rintro e w1 ⟨rfl, hw1⟩
    rw [hw1]; clear hw1 w1
    go_wp2_with fail
    all_goals
      go_ret
      exact ⟨⟨_, rfl⟩, rfl⟩
end Go.Proofs.YtbihlmkjoplkoaaGreatDoor
/-
  ser: lay.
-/
namespace Go.Proofs.YtbihlmkjoplkoaaGreatDoor
open Go.RowKit
set_option linter.unusedVariables false

section
variable {B : Nat} {S : Store}

theorem wpList_append_by {w0 w : World} {ops : Array Oper} {rest : List Oper} {o : Oper} {a : Act} {Q : Exit → Act → World → Prop} (hgd : o.guard = none) (s x : Operand)
    (ho : o.op = .call { callee := .builtin .append, args := #[s, x], argTypes := #[41, 41] })
    {p0 : Option Addr} {k cap : Nat} (hs : a.eval s = .slice p0 k cap) (hb : By w0 w p0 k cap)
    (p : Option Addr) (n c : Nat) (xs : List Int) (hx : a.eval x = .slice p n c) (hl : xs.length = n) (hB : Lib.BytesIn w p n xs) (hsum : k + n ≤ 140737488351232)
    (h : ∀ p' cap' w', By w0 w' p' (k + n) cap' → Gro p0 p' w w' → wpList Tryz.prog ops Q rest (a.put o.dst (.slice p' (k + n) cap')) w') : wpList Tryz.prog ops Q (o :: rest) a w := by
  obtain ⟨l, hown⟩ := hb.own
  exact wpList_append_any hgd s x ho w0.heap.size p0 k cap l hs hown p n c xs hx hl hB hsum hb.bel.size (fun p' cap' w' h1 h2 => h p' cap' w' (hb.gro h2 h1) h2)
theorem By.below {w0 w w' : World} {p : Option Addr} {n c : Nat} (h : By w0 w p n c) (k : Below w.heap.size w w') : By w0 w' p n c :=
  let ⟨⟨xs, h1⟩, h2⟩ := h
  ⟨⟨xs, own_block h1 fun g hg => k.block g (own_lt h1 g hg).2⟩, ⟨k.os.trans h2.os, k.tape.trans h2.tape, k.output.trans h2.output, Nat.le_trans h2.size k.size, fun i hi => (k.block i (Nat.lt_of_lt_of_le hi h2.size)).trans (h2.block i hi)⟩⟩
theorem By.sto {w0 w : World} {p : Option Addr} {n c : Nat} (h : By w0 w p n c) (hs : Sto B w0 S) : Sto B w S := hs.step h.bel

theorem bytes_exc {w w' : World} {g : Nat} {n : Nat} {xs : List Int} {l : List Nat} (h : Lib.BytesIn w (some ⟨g, 0, none⟩) n xs) (k : Exc l w w') (hg : g ∉ l) (hlt : 0 < n → g < w.heap.size) : Lib.BytesIn w' (some ⟨g, 0, none⟩) n xs := fun hn => by
  obtain ⟨b, o, e, hc⟩ := h.at hn
  cases e
  refine ⟨g, 0, rfl, fun i hi => ?_⟩
  rw [World.cell?_of_block (w := w) (k.block g (hlt hn) hg)]; exact hc i hi
theorem By.notIn {w0 w : World} {p : Option Addr} {n c : Nat} (h : By w0 w p n c) {g : Nat} (hg : w.heap.size ≤ g) : g ∉ blk p := fun hin => by
  obtain ⟨xs, ho⟩ := h.own
  cases p with
  | none => cases hin
  | some a =>
    have e : g = a.block := by simpa [blk] using hin
    have := (own_lt ho a.block rfl).2
    omega

theorem sumTo_mono (f : Nat → Nat) {a : Nat} : ∀ b : Nat, a ≤ b → sumTo f a ≤ sumTo f b
  | 0, h => by obtain rfl : a = 0 := by omega
               exact Nat.le_refl _
  | b + 1, h => by
    by_cases e : a = b + 1
    · rw [e]; exact Nat.le_refl _
    · simp only [sumTo]; have := sumTo_mono f b (show a ≤ b by omega); omega

/-- what lay does -/
def LayH (w0 : World) (B : Nat) (S : Store) (t : T) : Prop := ∀ (w : World) (p : Option Addr) (n c : Nat) (id : Nat) (hd : List Int), t.ptr = some id → Rep S t → t.All Short hd → By w0 w p n c → n + 65560 * t.cnt (fun _ => true) ≤ 140737488351000 →
  Calls Tryz.prog 92 #[.slice p n c, .pointer (some ⟨id, 0, none⟩)] w fun e w' => ∃ p' n' c', e = .returned (.slice p' n' c') ∧ n' + 1 ≤ n + 65560 * t.cnt (fun _ => true) ∧ By w0 w' p' n' c'

set_option maxHeartbeats 3200000 in
set_option maxRecDepth 100000 in
theorem lay_node {w0 w : World} {p : Option Addr} {n c : Nat} (hs : Sto B w0 S) {id : Nat} {own : Int} {part : List Int} {val : Int} {has leaf : Bool} {kid : Nat → T} (hr : Rep S (.node id own part val has leaf kid)) {hd : List Int} (ha : (T.node id own part val has leaf kid).All Short hd)
    (hb : By w0 w p n c) (ih : ∀ b, LayH w0 B S (kid b)) (hn : n + 65560 * (T.node id own part val has leaf kid).cnt (fun _ => true) ≤ 140737488351000) :
    Calls Tryz.prog 92 #[.slice p n c, .pointer (some ⟨id, 0, none⟩)] w fun e w' => ∃ p' n' c', e = .returned (.slice p' n' c') ∧ n' + 1 ≤ n + 65560 * (T.node id own part val has leaf kid).cnt (fun _ => true) ∧ By w0 w' p' n' c' := by
  have HR := Lib.hid hr
  have HA := Lib.hid ha
  obtain ⟨f, hf⟩ : ∃ f : Nat → Nat, (fun b => (kid b).cnt (fun _ => true)) = f := ⟨_, rfl⟩
  have HC : Hid ((T.node id own part val has leaf kid).cnt (fun _ => true) = 1 + sumTo f 256) := by show _ = _; rw [← hf]; simp only [T.cnt, if_pos]
  have HF := Lib.hid hf
  have HI := Lib.hid ih
  have HS := Lib.hid hs
  have HBY := Lib.hid hb
  have HN := Lib.hid hn
  have hle : kcnt (fun b => (kid b).ptr) ≤ 256 := cntF_le _
  obtain ⟨kn, hkn⟩ : ∃ kn, kindN ⟨own, part, val, has, leaf, fun b => (kid b).ptr⟩ = kn := ⟨_, rfl⟩
  obtain ⟨vv, hvv⟩ : ∃ vv, valOf ⟨own, part, val, has, leaf, fun b => (kid b).ptr⟩ = vv := ⟨_, rfl⟩
  have HV := Lib.hid (show 0 ≤ vv ∧ vv < 18446744073709551616 by rw [← hvv]; exact hs.valR hr.1)
  have K63 : Hid (∀ w' q j d, By w0 w' q j d → Calls Tryz.prog 63 #[.pointer (some ⟨id, 0, none⟩)] w' fun e w'' => e = .returned (.tuple #[.int .u64 vv, .bool has]) ∧ w'' = w') := fun w' q j d hb => by
    have := val63 (hb.sto HS.out) HR.out.1
    rw [hvv] at this
    exact this
  have K64 : Hid (∀ w' q j d, By w0 w' q j d → Calls Tryz.prog 64 #[.pointer (some ⟨id, 0, none⟩)] w' fun e w'' => e = .returned (.int .i64 kn) ∧ w'' = w') := fun w' q j d hb => by
    have := kind64 (hb.sto HS.out) HR.out.1
    rw [hkn] at this
    exact this
  have K112 : Hid (∀ w' q j d, By w0 w' q j d → Calls Tryz.prog 112 #[.pointer (some ⟨id, 0, none⟩)] w' fun e w'' => ∃ m : Nat, e = .returned (.int .i64 m) ∧ w'' = w') := fun w' q j d hb => by
    have := len112 (hb.sto HS.out) HR.out.1
    exact this.mono fun e w'' ⟨h1, h2⟩ => ⟨_, h1, h2⟩
  have K61 : Hid (∀ w' q j d (s : Nat), By w0 w' q j d → Calls Tryz.prog 61 #[.pointer (some ⟨id, 0, none⟩), .int .i64 s] w' fun e w'' => ∃ r, NextK (fun b => (kid b).ptr) s r ∧ e = .returned (.tuple #[.int .u8 r.1, .pointer (pt r.2)]) ∧ By w0 w'' q j d) := fun w' q j d s hb =>
    (next61 (hb.sto HS.out) HR.out.1 s).mono fun e w'' ⟨r, h1, h2, z, h3⟩ => by
      subst h3
      exact ⟨r, h1, h2, hb.below (below_drewN (Below.refl _ _) z)⟩
  have HP := Lib.hid (part58x (hb.sto hs) hr.1)
  clear hs hr ha hb ih hf hn hkn hvv hle
  generalize hm : (T.node id own part val has leaf kid).cnt (fun _ => true) = m at *
  clear hm
  go_enter Tryz.func92, Tryz.ntmps92
  go_wp2_with fail
  refine HP.out.mono ?_; rintro e w1 ⟨rfl, hpk, hbel⟩
  have PK1 := Lib.hid hpk
  have BY1 := Lib.hid (HBY.out.below hbel)
  have PL : Hid (part.length ≤ 65536) := HA.out.1
  clear hpk hbel
  go_wp2_with fail
  refine (head123 (BY1.out.sto HS.out) HR.out.1).mono ?_; rintro e w2 ⟨⟨hx, rfl⟩, hw2⟩
  rw [hw2]; clear hw2 w2
  go_wp2_with (at_builtin; refine stop ?_)
  refine unhid ?_
  have BY2 := Lib.hid (BY1.out.alloc (.cells #[.int .u8 hx] 5))
  have M1 := Lib.hid (show n + 65560 ≤ 140737488351000 by have := HN.out; have h1 := HC.out; omega)
  refine wpList_append_by (w0 := w0) rfl _ _ (by rfl) (by rfl) BY2.out (some ⟨w1.heap.size, 0, none⟩) 1 1 [hx] (by rfl) rfl (bytes_one (heap_alloc_new _ _)) (by have := M1.out; omega) ?_
  intro p3 c3 w3 by3 gr3
  have BY3 := Lib.hid by3
  have GR3 := Lib.hid (Gro.after ((Below.refl _ _).alloc (Nat.le_refl _) (.cells #[.int .u8 hx] 5)) gr3)
  clear by3 gr3
  have q1 : IntKind.u64.wrap (part.length : Int) = part.length := by simp [IntKind.wrap, IntKind.bits, IntKind.signed]; have := PL.out; omega
  go_wp2_with fail
  refine (num91 BY3.out (part.length : Int) (by have := PL.out; omega) (by have := M1.out; omega)).mono ?_; rintro e w4 ⟨p4, n4, c4, rfl, h4, by4, gr4⟩
  have BY4 := Lib.hid by4
  have H4 := Lib.hid h4
  have PB4 : Hid (Lib.BytesIn w4 (some ⟨w.heap.size, 0, none⟩) part.length part) :=
    bytes_exc PK1.out.bs.cells (GR3.out.trans gr4).exc (HBY.out.notIn (Nat.le_refl _)) (fun h0 => (PK1.out.arr h0 _ rfl).1)
  clear by4 gr4 h4 q1
  go_wp2_with (at_builtin; refine stop ?_)
  refine unhid ?_
  refine wpList_append_by (w0 := w0) rfl _ _ (by rfl) (by rfl) BY4.out (some ⟨w.heap.size, 0, none⟩) part.length part.length part (by rfl) rfl PB4.out (by have := M1.out; have := H4.out; have := PL.out; omega) ?_
  intro p5 c5 w5 by5 gr5
  have BY5 := Lib.hid by5
  obtain ⟨n5, hn5⟩ : ∃ n5, n4 + part.length = n5 := ⟨_, rfl⟩
  rw [hn5] at BY5 ⊢
  have H5 : Hid (n5 ≤ n + 1 + 10 + 65536) := by show _ ≤ _; have := H4.out; have := PL.out; omega
  clear by5 gr5 hn5 PB4 PK1 GR3
  cases has with
  | true =>
    go_wp2_with fail
    refine (K63.out _ _ _ _ BY5.out).mono ?_; rintro e w6 ⟨rfl, hw6⟩
    rw [hw6]; clear hw6 w6
    go_wp2_with fail
    refine (num91 BY5.out vv HV.out (by have := M1.out; have := H5.out; omega)).mono ?_; rintro e w6 ⟨p6, n6, c6, rfl, h6, by6, gr6⟩
    have BY6 := Lib.hid by6
    have H6 : Hid (n6 ≤ n + 65557) := by show _ ≤ _; have := H5.out; omega
    clear by6 gr6 h6
    go_wp2_with fail
    refine (K64.out _ _ _ _ BY6.out).mono ?_; rintro e w7 ⟨rfl, hw7⟩
    rw [hw7]; clear hw7 w7
    cases hk1 : ((kn : Int) == 1) with
    | true =>
      go_wp2_with fail
      go_ret
      exact ⟨_, _, _, rfl, by have := H6.out; have := HC.out; omega, BY6.out⟩
    | false =>
      go_wp2_with fail
      refine (K112.out _ _ _ _ BY6.out).mono ?_; rintro e w7 ⟨m7, rfl, hw7⟩
      rw [hw7]; clear hw7 w7
      go_wp2_with (at_builtin; refine stop ?_)
      refine unhid ?_
      have BY7 := Lib.hid (BY6.out.alloc (.cells #[.int .u8 (wrap64 ((m7 : Int) - 1) % 256)] 5))
      refine wpList_append_by (w0 := w0) rfl _ _ (by rfl) (by rfl) BY7.out (some ⟨w6.heap.size, 0, none⟩) 1 1 [wrap64 ((m7 : Int) - 1) % 256] (by rfl) rfl (bytes_one (heap_alloc_new _ _)) (by have := M1.out; have := H6.out; omega) ?_
      intro p8 c8 w8 by8 gr8
      have BY8 := Lib.hid by8
      obtain ⟨n8, hn8⟩ : ∃ n8, n6 + 1 = n8 := ⟨_, rfl⟩
      rw [hn8] at BY8 ⊢
      have H8 : Hid (n8 ≤ n + 65558) := by show _ ≤ _; have := H6.out; omega
      clear by8 gr8 hn8 BY7
      go_wp2_with fail
      refine (K61.out _ _ _ _ 0 BY8.out).mono ?_; rintro e w9 ⟨r, hnk, rfl, by9⟩
      have NK := Lib.hid hnk
      have BY9 := Lib.hid by9
      obtain ⟨pr, hpr⟩ : ∃ pr, pt r.2 = pr := ⟨_, rfl⟩
      obtain ⟨rb, hrb⟩ : ∃ rb : Int, ((r.1 : Nat) : Int) = rb := ⟨_, rfl⟩
      rw [hpr, hrb]
      have HPR := Lib.hid (And.intro hpr hrb)
      clear hpr hrb hnk by9 hk1
      go_wp2_with fail
      go_loopg [0, 8, 9] 257 (fun gk bb c q wr => ∃ (s : Nat) (r : Nat × Option Nat) (pb : Option Addr) (nb cb : Nat), gk = 257 - s ∧ s ≤ 256 ∧ bb = .slice pb nb cb ∧ c = .int .u8 r.1 ∧ q = .pointer (pt r.2) ∧ Hid (NextK (fun b => (kid b).ptr) s r) ∧ Hid (nb ≤ n + 65558 + 65560 * sumTo f s) ∧ Hid (By w0 wr pb nb cb))
      case atStart => exact ⟨0, r, _, _, _, by omega, by omega, rfl, by rw [HPR.out.2], by rw [HPR.out.1], NK.out, by show _ ≤ _; have := H8.out; omega, BY9.out⟩
      case round =>
        obtain ⟨s, ⟨b, a⟩, pb, nb, cb, hgk, hs, rfl, rfl, rfl, hnk, hnb, hby⟩ := hrel
        have HG := Lib.hid hgk
        have HS2 := Lib.hid hs
        clear hgk hs
        simp only
        cases a with
        | none =>
          simp only [pt]
          go_wp2_with fail
          go_ret
          refine ⟨_, _, _, rfl, ?_, hby.out⟩
          have h1 := hnb.out
          have h2 := sumTo_mono f 256 HS2.out
          have h3 := HC.out
          omega
        | some a =>
          obtain ⟨hb, hsb, hka, hz⟩ := next_step hnk.out
          have HB1 := Lib.hid (show b < 256 ∧ s ≤ b from ⟨hb, hsb⟩)
          have HSUM : Hid (sumTo f (b + 1) = sumTo f s + f b) := by
            show _ = _
            simp only [sumTo]
            rw [sumTo_skip s b hsb (fun c h1 h2 => by rw [← congrFun HF.out c, hz c h1 h2]; rfl)]
          have HKA := Lib.hid hka
          have hn := run_neq_pointer_nil (P := Tryz.prog) wr 48 (some ⟨a, 0, none⟩) (by kernel_rfl)
          have HBD : Hid (nb + 1 + 65560 * f b ≤ 140737488351000) := by
            show _ ≤ _
            have h1 := hnb.out
            have h2 := sumTo_mono f 256 (show b + 1 ≤ 256 by omega)
            have h3 := HC.out
            have h4 := HN.out
            have h5 := HSUM.out
            omega
          clear hb hsb hka hz
          simp only [pt]
          go_wp2_with (at_builtin; refine stop ?_)
          refine unhid ?_
          refine wpList_append_by (w0 := w0) rfl _ _ (by rfl) (by rfl) (hby.out.alloc (.cells #[.int .u8 (b : Int)] 5)) (some ⟨wr.heap.size, 0, none⟩) 1 1 [(b : Int)] (by rfl) rfl (bytes_one (heap_alloc_new _ _)) (by have := HBD.out; omega) ?_
          intro pa ca wa bya gra
          have BYA := Lib.hid bya
          clear bya gra
          have q1 : wrap64 ((b : Int) + 1) = (b : Int) + 1 := IntWalk.wrap64_in _ (by have := HB1.out; omega)
          have q3 : wrap64 (b : Int) = (b : Int) := IntWalk.wrap64_in _ (by have := HB1.out; omega)
          go_wp2_with fail
          refine (HI.out b wa pa (nb + 1) ca a _ HKA.out (HR.out.2 b) (HA.out.2 b) BYA.out (by rw [congrFun HF.out b]; exact HBD.out)).mono ?_; rintro e wb ⟨pq, nq, cq, rfl, hq, byq⟩
          rw [congrFun HF.out b] at hq
          have BYQ := Lib.hid byq
          have HQ := Lib.hid hq
          clear byq hq
          go_wp2_with fail
          refine (K61.out _ _ _ _ (b + 1) BYQ.out).mono ?_; rintro e wc ⟨r5, nk5, rfl, by5⟩
          have NK5 := Lib.hid nk5
          have BYC := Lib.hid by5
          clear nk5 by5
          go_wp2_with fail
          go_roundg (257 - (b + 1))
          case measure => rw [HG.out]; have := HB1.out; omega
          case rel => exact ⟨b + 1, r5, _, _, _, rfl, by have := HB1.out; omega, rfl, rfl, rfl, NK5.out, by show _ ≤ _; rw [HSUM.out]; have := HQ.out; have := hnb.out; omega, BYC.out⟩
  | false =>
    go_wp2_with fail
    refine (K63.out _ _ _ _ BY5.out).mono ?_; rintro e w6 ⟨rfl, hw6⟩
    rw [hw6]; clear hw6 w6
    go_wp2_with fail
    have H6 : Hid (n5 ≤ n + 65557) := by show _ ≤ _; have := H5.out; omega
    refine (K64.out _ _ _ _ BY5.out).mono ?_; rintro e w7 ⟨rfl, hw7⟩
    rw [hw7]; clear hw7 w7
    cases hk1 : ((kn : Int) == 1) with
    | true =>
      go_wp2_with fail
      go_ret
      exact ⟨_, _, _, rfl, by have := H6.out; have := HC.out; omega, BY5.out⟩
    | false =>
      go_wp2_with fail
      refine (K112.out _ _ _ _ BY5.out).mono ?_; rintro e w7 ⟨m7, rfl, hw7⟩
      rw [hw7]; clear hw7 w7
      go_wp2_with (at_builtin; refine stop ?_)
      refine unhid ?_
      have BY7 := Lib.hid (BY5.out.alloc (.cells #[.int .u8 (wrap64 ((m7 : Int) - 1) % 256)] 5))
      refine wpList_append_by (w0 := w0) rfl _ _ (by rfl) (by rfl) BY7.out (some ⟨w5.heap.size, 0, none⟩) 1 1 [wrap64 ((m7 : Int) - 1) % 256] (by rfl) rfl (bytes_one (heap_alloc_new _ _)) (by have := M1.out; have := H6.out; omega) ?_
      intro p8 c8 w8 by8 gr8
      have BY8 := Lib.hid by8
      obtain ⟨n8, hn8⟩ : ∃ n8, n5 + 1 = n8 := ⟨_, rfl⟩
      rw [hn8] at BY8 ⊢
      have H8 : Hid (n8 ≤ n + 65558) := by show _ ≤ _; have := H6.out; omega
      clear by8 gr8 hn8 BY7
      go_wp2_with fail
      refine (K61.out _ _ _ _ 0 BY8.out).mono ?_; rintro e w9 ⟨r, hnk, rfl, by9⟩
      have NK := Lib.hid hnk
      have BY9 := Lib.hid by9
      obtain ⟨pr, hpr⟩ : ∃ pr, pt r.2 = pr := ⟨_, rfl⟩
      obtain ⟨rb, hrb⟩ : ∃ rb : Int, ((r.1 : Nat) : Int) = rb := ⟨_, rfl⟩
      rw [hpr, hrb]
      have HPR := Lib.hid (And.intro hpr hrb)
      clear hpr hrb hnk by9 hk1
      go_wp2_with fail
      go_loopg [0, 8, 9] 257 (fun gk bb c q wr => ∃ (s : Nat) (r : Nat × Option Nat) (pb : Option Addr) (nb cb : Nat), gk = 257 - s ∧ s ≤ 256 ∧ bb = .slice pb nb cb ∧ c = .int .u8 r.1 ∧ q = .pointer (pt r.2) ∧ Hid (NextK (fun b => (kid b).ptr) s r) ∧ Hid (nb ≤ n + 65558 + 65560 * sumTo f s) ∧ Hid (By w0 wr pb nb cb))
      case atStart => exact ⟨0, r, _, _, _, by omega, by omega, rfl, by rw [HPR.out.2], by rw [HPR.out.1], NK.out, by show _ ≤ _; have := H8.out; omega, BY9.out⟩
      case round =>
        obtain ⟨s, ⟨b, a⟩, pb, nb, cb, hgk, hs, rfl, rfl, rfl, hnk, hnb, hby⟩ := hrel
        have HG := Lib.hid hgk
        have HS2 := Lib.hid hs
        clear hgk hs
        simp only
        cases a with
        | none =>
          simp only [pt]
          go_wp2_with fail
          go_ret
          refine ⟨_, _, _, rfl, ?_, hby.out⟩
          have h1 := hnb.out
          have h2 := sumTo_mono f 256 HS2.out
          have h3 := HC.out
          omega
        | some a =>
          obtain ⟨hb, hsb, hka, hz⟩ := next_step hnk.out
          have HB1 := Lib.hid (show b < 256 ∧ s ≤ b from ⟨hb, hsb⟩)
          have HSUM : Hid (sumTo f (b + 1) = sumTo f s + f b) := by
            show _ = _
            simp only [sumTo]
            rw [sumTo_skip s b hsb (fun c h1 h2 => by rw [← congrFun HF.out c, hz c h1 h2]; rfl)]
          have HKA := Lib.hid hka
          have hn := run_neq_pointer_nil (P := Tryz.prog) wr 48 (some ⟨a, 0, none⟩) (by kernel_rfl)
          have HBD : Hid (nb + 1 + 65560 * f b ≤ 140737488351000) := by
            show _ ≤ _
            have h1 := hnb.out
            have h2 := sumTo_mono f 256 (show b + 1 ≤ 256 by omega)
            have h3 := HC.out
            have h4 := HN.out
            have h5 := HSUM.out
            omega
          clear hb hsb hka hz
          simp only [pt]
          go_wp2_with (at_builtin; refine stop ?_)
          refine unhid ?_
          refine wpList_append_by (w0 := w0) rfl _ _ (by rfl) (by rfl) (hby.out.alloc (.cells #[.int .u8 (b : Int)] 5)) (some ⟨wr.heap.size, 0, none⟩) 1 1 [(b : Int)] (by rfl) rfl (bytes_one (heap_alloc_new _ _)) (by have := HBD.out; omega) ?_
          intro pa ca wa bya gra
          have BYA := Lib.hid bya
          clear bya gra
          have q1 : wrap64 ((b : Int) + 1) = (b : Int) + 1 := IntWalk.wrap64_in _ (by have := HB1.out; omega)
          have q3 : wrap64 (b : Int) = (b : Int) := IntWalk.wrap64_in _ (by have := HB1.out; omega)
          go_wp2_with fail
          refine (HI.out b wa pa (nb + 1) ca a _ HKA.out (HR.out.2 b) (HA.out.2 b) BYA.out (by rw [congrFun HF.out b]; exact HBD.out)).mono ?_; rintro e wb ⟨pq, nq, cq, rfl, hq, byq⟩
          rw [congrFun HF.out b] at hq
          have BYQ := Lib.hid byq
          have HQ := Lib.hid hq
          clear byq hq
          go_wp2_with fail
          refine (K61.out _ _ _ _ (b + 1) BYQ.out).mono ?_; rintro e wc ⟨r5, nk5, rfl, by5⟩
          have NK5 := Lib.hid nk5
          have BYC := Lib.hid by5
          clear nk5 by5
          go_wp2_with fail
          go_roundg (257 - (b + 1))
          case measure => rw [HG.out]; have := HB1.out; omega
          case rel => exact ⟨b + 1, r5, _, _, _, rfl, by have := HB1.out; omega, rfl, rfl, rfl, NK5.out, by show _ ≤ _; rw [HSUM.out]; have := HQ.out; have := hnb.out; omega, BYC.out⟩

theorem lay92 {w0 : World} (hs : Sto B w0 S) : ∀ t : T, LayH w0 B S t := by
  intro t
  induction t with
  | nil => intro w p n c id hd h; cases h
  | node id own part val has leaf kid ih =>
    intro w p n c id' hd h hr ha hb hn
    cases h
    exact lay_node hs hr ha hb ih hn
end
end Go.Proofs.YtbihlmkjoplkoaaGreatDoor
