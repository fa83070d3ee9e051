/-
  The document's table, by value: Len, there, Get.
-/
import Derived.Test.YtenmgjmbiamhcaaLaw34
namespace Go.Proofs.Ytenmgjmbiamhcaa
open Go.RowKit
set_option linter.unusedVariables false

/-- a yes or no as a value -/
def bv (b : Bool) : Value := .bool b

def cntB (hs : List Bool) (k : Nat) : Nat := ((hs.take k).filter id).length
theorem cntB_succ (hs : List Bool) (k : Nat) (b : Bool) (h : hs[k]? = some b) : cntB hs (k + 1) = cntB hs k + (if b then 1 else 0) := by
  unfold cntB
  rw [List.take_add_one, h, List.filter_append, List.length_append]
  cases b <;> simp
theorem cntB_le (hs : List Bool) (k : Nat) : cntB hs k ≤ k := by
  unfold cntB
  have h1 := List.length_filter_le id (hs.take k)
  have h2 : (hs.take k).length ≤ k := by rw [List.length_take]; omega
  omega

/-- the document's table: its two rows -/
structure Rt (w : World) (base : Nat) (ph : Option Addr) (ch : Nat) (pa : Option Addr) (ca : Nat) (m : Nat) (hs : List Bool) (xs : List Int) (f : Int → Option Int) : Prop where
  ownH : w.ownsRow base 4 1 (.slice ph m ch) m (hs.map bv)
  ownA : w.ownsRow base 3 1 (.slice pa m ca) m (xs.map iv)
  small : m ≤ 80
  fits : base ≤ w.heap.size
  hit : ∀ (i : Nat) (b : Bool) (x : Int), hs[i]? = some b → xs[i]? = some x → f ((i : Int) + 1) = if b then some x else none
  out : ∀ k : Int, (f k).isSome = true → 1 ≤ k ∧ k ≤ (m : Int)

theorem Rt.lenH {w : World} {base ch ca m : Nat} {ph pa : Option Addr} {hs : List Bool} {xs : List Int} {f : Int → Option Int} (h : Rt w base ph ch pa ca m hs xs f) : hs.length = m := by
  have := h.ownH.1; rw [List.length_map] at this; omega
theorem Rt.lenA {w : World} {base ch ca m : Nat} {ph pa : Option Addr} {hs : List Bool} {xs : List Int} {f : Int → Option Int} (h : Rt w base ph ch pa ca m hs xs f) : xs.length = m := by
  have := h.ownA.1; rw [List.length_map] at this; omega
theorem Rt.step {w w' : World} {base ch ca m : Nat} {ph pa : Option Addr} {hs : List Bool} {xs : List Int} {f : Int → Option Int} (h : Rt w base ph ch pa ca m hs xs f) (k : Below w.heap.size w w') : Rt w' base ph ch pa ca m hs xs f :=
  ⟨own_exc h.ownH (exc_below k []) (fun _ _ hm => by cases hm), own_exc h.ownA (exc_below k []) (fun _ _ hm => by cases hm), h.small, Nat.le_trans h.fits k.size, h.hit, h.out⟩

theorem own_bool {w : World} {base : Nat} {p : Option Addr} {n cap : Nat} {l : List Bool} (h : w.ownsRow base 4 1 (.slice p n cap) n (l.map bv)) (i : Nat) (b : Bool) (hb : l[i]? = some b) :
    ∃ blk, p = some ⟨blk, 0, none⟩ ∧ i < n ∧ n ≤ cap ∧ w.cell? ⟨blk, i, none⟩ = some (.bool b) := by
  have hl := h.1
  have hi := (List.getElem?_eq_some_iff.1 hb).1
  rw [List.length_map] at hl
  rcases h.2 with ⟨e, e2⟩ | ⟨g, cap', cur, e, _, _, hc, _⟩
  · omega
  · cases e
    refine ⟨g, rfl, by omega, hc, ?_⟩
    rw [h.cellAt i (by omega), List.getElem?_map, hb]
    rfl
theorem own_int' {w : World} {base : Nat} {p : Option Addr} {n cap : Nat} {l : List Int} (h : w.ownsRow base 3 1 (.slice p n cap) n (l.map iv)) (i : Nat) (b : Int) (hb : l[i]? = some b) :
    ∃ blk, p = some ⟨blk, 0, none⟩ ∧ i < n ∧ n ≤ cap ∧ w.cell? ⟨blk, i, none⟩ = some (.int .i64 b) := by
  have hl := h.1
  have hi := (List.getElem?_eq_some_iff.1 hb).1
  rw [List.length_map] at hl
  rcases h.2 with ⟨e, e2⟩ | ⟨g, cap', cur, e, _, _, hc, _⟩
  · omega
  · cases e
    refine ⟨g, rfl, by omega, hc, ?_⟩
    rw [h.cellAt i (by omega), List.getElem?_map, hb]
    rfl

set_option maxHeartbeats 800000 in
theorem len24 {w : World} {base ch ca m : Nat} {ph pa : Option Addr} {hs : List Bool} {xs : List Int} {f : Int → Option Int} (h : Rt w base ph ch pa ca m hs xs f) (room : Int) :
    Calls Try.prog 24 #[.agg #[.int .i64 room, .slice ph m ch, .slice pa m ca]] w fun e w' => e = .returned (.int .i64 (cntB hs m)) ∧ w' = w.alloc (.cells #[.int .i64 room, .slice ph m ch, .slice pa m ca] 30) := by
  have H := Lib.hid h
  have hsm := h.small
  clear h
  go_enter Try.func24, Try.ntmps24
  go_wp2_with fail
  obtain ⟨W, hW⟩ : ∃ W, W = w.alloc (.cells #[.int .i64 room, .slice ph m ch, .slice pa m ca] 30) := ⟨_, rfl⟩
  rw [← hW]
  have c1 : W.cell? ⟨w.heap.size, 1, none⟩ = some (.slice ph m ch) := by rw [hW]; exact (Var.new rfl rfl).cell
  have HR : Hid (Rt W base ph ch pa ca m hs xs f) := by show Rt _ _ _ _ _ _ _ _ _ _; rw [hW]; exact H.out.step ((Below.refl _ _).alloc (Nat.le_refl _) _)
  have HW := Lib.hid hW
  clear hW H
  go_loop [3, 4] (fun u t => ∃ (i : Nat), u = .int .i64 (cntB hs i) ∧ t = .int .i64 i ∧ i ≤ m) (fun _ t => m - (intOf t).toNat)
  case atStart => exact ⟨0, by simp [cntB], rfl, by omega⟩
  case round =>
    obtain ⟨i, rfl, rfl, hi⟩ := hrel
    by_cases hlt : i < m
    · obtain ⟨b, hb⟩ : ∃ b, hs[i]? = some b := ⟨hs[i]'(by have := HR.out.lenH; omega), List.getElem?_eq_getElem (by have := HR.out.lenH; omega)⟩
      obtain ⟨blk, hph, _, hmc, ci⟩ := own_bool HR.out.ownH i b hb
      subst hph
      have d0 : decide ((i : Int) < (m : Int)) = true := by simp; omega
      have b0 : (0 : Int) ≤ (i : Int) := by omega
      have b1 : (i : Int) < (m : Int) := by omega
      have q0 : IntKind.i64.wrap ((i : Int) + 1) = (i : Int) + 1 := IntWalk.i64_in _ (by omega)
      have hcs := cntB_succ hs i b hb
      have hcl := cntB_le hs i
      have q1 : IntKind.i64.wrap ((cntB hs i : Int) + 1) = (cntB hs i : Int) + 1 := IntWalk.i64_in _ (by omega)
      have HCS := Lib.hid hcs
      clear hcs hb
      cases b with
      | true =>
        go_wp2_with fail
        go_round
        case rel => exact ⟨i + 1, by rw [HCS.out]; rfl, by go_num, by omega⟩
        case measure => simp [intOf]; omega
      | false =>
        go_wp2_with fail
        go_round
        case rel => exact ⟨i + 1, by rw [HCS.out]; rfl, by go_num, by omega⟩
        case measure => simp [intOf]; omega
    · obtain rfl : i = m := by omega
      have d0 : decide ((i : Int) < (i : Int)) = false := by simp
      go_wp2_with fail
      go_ret
      exact ⟨rfl, HW.out⟩

set_option maxHeartbeats 800000 in
theorem there22 {w : World} {base ch ca m : Nat} {ph pa : Option Addr} {hs : List Bool} {xs : List Int} {f : Int → Option Int} (h : Rt w base ph ch pa ca m hs xs f) (room k : Int) (hk : wf64 k) (b : Bool) (hb : (f k).isSome = b) :
    Calls Try.prog 22 #[.agg #[.int .i64 room, .slice ph m ch, .slice pa m ca], .int .i64 k] w fun e w' => e = .returned (.bool b) ∧ Below w.heap.size w w' := by
  have hsm := h.small
  obtain ⟨W, hW⟩ : ∃ W, W = w.alloc (.cells #[.int .i64 room, .slice ph m ch, .slice pa m ca] 30) := ⟨_, rfl⟩
  have c1 : W.cell? ⟨w.heap.size, 1, none⟩ = some (.slice ph m ch) := by rw [hW]; exact (Var.new rfl rfl).cell
  have HB : Hid (Below w.heap.size w W) := by show Below _ _ _; rw [hW]; exact (Below.refl _ _).alloc (Nat.le_refl _) _
  have hR : Rt W base ph ch pa ca m hs xs f := by rw [hW]; exact h.step ((Below.refl _ _).alloc (Nat.le_refl _) _)
  have HW := Lib.hid hW
  obtain ⟨hk1, hk2⟩ := hk
  by_cases h1 : 1 ≤ k
  · by_cases h2 : k ≤ m
    · obtain ⟨i, hi⟩ : ∃ i : Nat, k = (i : Int) + 1 := ⟨(k - 1).toNat, by omega⟩
      subst hi
      obtain ⟨b', hb'⟩ : ∃ b', hs[i]? = some b' := ⟨hs[i]'(by have := h.lenH; omega), List.getElem?_eq_getElem (by have := h.lenH; omega)⟩
      obtain ⟨x, hx⟩ : ∃ x, xs[i]? = some x := ⟨xs[i]'(by have := h.lenA; omega), List.getElem?_eq_getElem (by have := h.lenA; omega)⟩
      obtain ⟨blk, hph, hin, hmc, ci⟩ := own_bool hR.ownH i b' hb'
      have hbb : b = b' := by rw [← hb, h.hit i b' x hb' hx]; cases b' <;> rfl
      subst hbb hph
      have d0 : decide (1 ≤ (i : Int) + 1) = true := decide_eq_true (by omega)
      have d1 : decide ((i : Int) + 1 ≤ (m : Int)) = true := by simp; omega
      have q0 : IntKind.i64.wrap ((i : Int) + 1 - 1) = (i : Int) := by rw [IntWalk.i64_in _ (by omega)]; omega
      have b0 : (0 : Int) ≤ (i : Int) := by omega
      have b1 : (i : Int) < (m : Int) := by omega
      clear h hb hb' hx hR hW h1 h2
      go_enter Try.func22, Try.ntmps22
      go_wp2_with (rw [← HW.out])
      go_ret
      exact ⟨rfl, HB.out⟩
    · have hbf : b = false := by
        rw [← hb]
        cases hf : f k with
        | none => rfl
        | some y => have := (h.out k (by rw [hf]; rfl)).2; omega
      subst hbf
      have d0 : decide (1 ≤ k) = true := by simp; omega
      have d1 : decide (k ≤ (m : Int)) = false := by simp; omega
      clear h hb hR hW h1 h2
      go_enter Try.func22, Try.ntmps22
      go_wp2_with (rw [← HW.out])
      go_ret
      exact ⟨rfl, HB.out⟩
  · have hbf : b = false := by
      rw [← hb]
      cases hf : f k with
      | none => rfl
      | some y => have := (h.out k (by rw [hf]; rfl)).1; omega
    subst hbf
    have d0 : decide (1 ≤ k) = false := by simp; omega
    clear h hb hR hW h1
    go_enter Try.func22, Try.ntmps22
    go_wp2_with (rw [← HW.out])
    go_ret
    exact ⟨rfl, HB.out⟩

set_option maxHeartbeats 800000 in
theorem get25 {w : World} {base ch ca m : Nat} {ph pa : Option Addr} {hs : List Bool} {xs : List Int} {f : Int → Option Int} (h : Rt w base ph ch pa ca m hs xs f) (room k : Int) (hk : wf64 k) :
    Calls Try.prog 25 #[.agg #[.int .i64 room, .slice ph m ch, .slice pa m ca], .int .i64 k] w fun e w' => e = .returned (.tuple #[.int .i64 (valO (f k)), .int .i64 (if (f k).isSome then 0 else 6)]) ∧ Below w.heap.size w w' := by
  have hsm := h.small
  obtain ⟨W, hW⟩ : ∃ W, W = w.alloc (.cells #[.int .i64 room, .slice ph m ch, .slice pa m ca] 30) := ⟨_, rfl⟩
  have c0 : W.cell? ⟨w.heap.size, 0, none⟩ = some (.int .i64 room) := by rw [hW]; exact (Var.new rfl rfl).cell
  have c1 : W.cell? ⟨w.heap.size, 1, none⟩ = some (.slice ph m ch) := by rw [hW]; exact (Var.new rfl rfl).cell
  have c2 : W.cell? ⟨w.heap.size, 2, none⟩ = some (.slice pa m ca) := by rw [hW]; exact (Var.new rfl rfl).cell
  have HB : Hid (Below w.heap.size w W) := by show Below _ _ _; rw [hW]; exact (Below.refl _ _).alloc (Nat.le_refl _) _
  have hR : Rt W base ph ch pa ca m hs xs f := by rw [hW]; exact h.step ((Below.refl _ _).alloc (Nat.le_refl _) _)
  have hgl : w.heap.size < W.heap.size := block_lt_of_cell c0
  have HGL : Hid (w.heap.size < W.heap.size) := hgl
  have HW := Lib.hid hW
  have HR := Lib.hid hR
  have HK := Lib.hid hk
  have hnot : ∀ (x : Bool) (w : World), (Op.unary .not (.bool x)).run Try.prog w = .ok (.bool (!x)) w := fun _ _ => rfl
  cases hf : f k with
  | none =>
    have HT := Lib.hid (there22 hR room k hk false (by rw [hf]; rfl))
    simp only [valO, Option.getD, Option.isSome, Bool.false_eq_true, if_false]
    clear h hR hW hk hgl hf
    go_enter Try.func25, Try.ntmps25
    go_wp2_with (rw [← HW.out])
    refine HT.out.mono ?_
    rintro e w2 ⟨rfl, hB2⟩
    have HB2 := Lib.hid (Below.step HB.out hB2)
    clear hB2
    go_wp2_with fail
    go_ret2
    exact ⟨rfl, HB2.out⟩
  | some y =>
    have hlow := h.out k (by rw [hf]; rfl)
    obtain ⟨i, hi⟩ : ∃ i : Nat, k = (i : Int) + 1 := ⟨(k - 1).toNat, by omega⟩
    subst hi
    have HT := Lib.hid (there22 hR room ((i : Int) + 1) hk true (by rw [hf]; rfl))
    obtain ⟨b', hb'⟩ : ∃ b', hs[i]? = some b' := ⟨hs[i]'(by have := h.lenH; omega), List.getElem?_eq_getElem (by have := h.lenH; omega)⟩
    obtain ⟨x, hx⟩ : ∃ x, xs[i]? = some x := ⟨xs[i]'(by have := h.lenA; omega), List.getElem?_eq_getElem (by have := h.lenA; omega)⟩
    have hxy : x = y := by
      have := h.hit i b' x hb' hx
      rw [hf] at this
      cases b' <;> simp at this
      exact this.symm
    subst hxy
    have HX := Lib.hid hx
    have q0 : IntKind.i64.wrap ((i : Int) + 1 - 1) = (i : Int) := by rw [IntWalk.i64_in _ (by omega)]; omega
    have b0 : (0 : Int) ≤ (i : Int) := by omega
    have b1 : (i : Int) < (m : Int) := by omega
    simp only [valO, Option.getD, Option.isSome, if_true]
    clear h hR hW hk hgl hf hb' hx hlow
    go_enter Try.func25, Try.ntmps25
    go_wp2_with (rw [← HW.out])
    refine HT.out.mono ?_
    rintro e w2 ⟨rfl, hB2⟩
    have c2' : w2.cell? ⟨w.heap.size, 2, none⟩ = some (.slice pa m ca) := (hB2.cell (p := ⟨w.heap.size, 2, none⟩) HGL.out).trans c2
    have hR2 := HR.out.step hB2
    obtain ⟨blk, hpa, _, hmc, ci⟩ := own_int' hR2.ownA i x HX.out
    subst hpa
    have HB2 := Lib.hid (Below.step HB.out hB2)
    clear hB2 hR2
    go_wp2_with fail
    go_ret2
    exact ⟨rfl, HB2.out⟩

end Go.Proofs.Ytenmgjmbiamhcaa
