/-
  Contracts: whether keys are too long (far), whether one may be (May), whether pairs rise (Sorted, twice).
-/
import Derived.Test.YtbldahimdkifiaaNext
import Derived.Deep.RegionHeld3
namespace Go.Proofs.Ytbldahimdkifiaa
open Go.RowKit
set_option linter.unusedVariables false

theorem Bs.same {w w' : World} {p : Option Addr} {n c : Nat} {xs : List Int} (h : Bs w p n c xs) (hh : w'.heap = w.heap) : Bs w' p n c xs :=
  ⟨h.len, h.cap, h.big, h.byte, fun hn => by
    obtain ⟨b, o, e, hc⟩ := h.cells.at hn
    refine ⟨b, o, e, fun i hi => ?_⟩
    have : w'.cell? ⟨b, o + i, none⟩ = w.cell? ⟨b, o + i, none⟩ := by simp [World.cell?, hh]
    rw [this]; exact hc i hi⟩

/-- a callee that draws, met in a quiet region behind some draws -/
theorem quiet_at {P : Program} {f : FuncId} {args : Array Value} {w : World} {z x : Nat} {v : Value}
    (h : Calls P f args (w.drewN (z + x)) fun e w' => e = .returned v ∧ ∃ m, w' = (w.drewN (z + x)).drewN m) : Calls P f args (w.drewN (z + x)) fun e w'' => e = .returned v ∧ ∃ n, w'' = w.drewN (z + n) :=
  h.mono fun _ _ ⟨he, m, hm⟩ => ⟨he, x + m, by rw [hm, World.drewN_drewN, Nat.add_assoc]⟩

/-- a slice's header -/
abbrev Hd := Option Addr × Nat × Nat
def Hd.val (h : Hd) : Value := .slice h.1 h.2.1 h.2.2
def farB (hs : List Hd) : Bool := hs.any fun h => decide (300 < h.2.1)

set_option maxHeartbeats 400000 in
theorem far13 (b n c : Nat) (hs : List Hd) (w : World) (hl : hs.length = n) (hn : n ≤ 140737488351232) (hc : ∀ i h, hs[i]? = some h → w.cell? ⟨b, i, none⟩ = some h.val) (hb : ∀ h ∈ hs, h.2.1 ≤ 9223372036854775807) :
    Calls Try.prog 13 #[.slice (some ⟨b, 0, none⟩) n c] w fun e w' => e = .returned (.bool (farB hs)) ∧ w' = w := by
  have HC := Lib.hid hc
  have HB := Lib.hid hb
  have HL := Lib.hid hl
  clear hc hb hl
  go_enter Try.func13, Try.ntmps13
  go_wp2
  go_loop [7] (fun i => ∃ k : Nat, i = .int .i64 k ∧ k ≤ n ∧ Hid (∀ h ∈ hs.take k, h.2.1 ≤ 300)) (fun i => n - (intOf i).toNat)
  case atStart => exact ⟨0, rfl, by omega, fun h hh => by simp at hh⟩
  case round =>
    obtain ⟨k, rfl, hk, hs'⟩ := hrel
    by_cases hlt : k < n
    · obtain ⟨h, hh⟩ : ∃ h, hs[k]? = some h := ⟨hs[k]'(by rw [HL.out]; exact hlt), List.getElem?_eq_getElem (by rw [HL.out]; exact hlt)⟩
      have g := HC.out k h hh
      have hb := HB.out h (List.mem_of_getElem? hh)
      obtain ⟨p, m, d⟩ := h
      simp only [Hd.val] at g hb
      have HH := Lib.hid hh
      clear hh
      by_cases h3 : 300 < m
      · have d1 : decide (300 < (m : Int)) = true := by simp; omega
        go_wp2
        go_ret
        refine ⟨?_, rfl⟩
        have : farB hs = true := by
          unfold farB; rw [List.any_eq_true]
          exact ⟨(p, m, d), List.mem_of_getElem? HH.out, by simp; omega⟩
        rw [this]; rfl
      · have d1 : decide (300 < (m : Int)) = false := by simp; omega
        go_wp2
        go_round
        case rel =>
          refine ⟨k + 1, by go_num, by omega, ?_⟩
          intro h hh
          rw [List.take_add_one, HH.out] at hh
          rcases List.mem_append.1 hh with hh | hh
          · exact hs'.out h hh
          · simp at hh; subst hh; show m ≤ 300; omega
        case measure => simp [intOf]; omega
    · obtain rfl : k = n := by omega
      go_wp2
      go_ret
      refine ⟨?_, rfl⟩
      have : farB hs = false := by
        unfold farB; rw [List.any_eq_false]
        intro h hh
        have := hs'.out h (by rw [List.take_of_length_le (by rw [HL.out]; exact Nat.le_refl _)]; exact hh)
        simp; omega
      rw [this]; rfl

def mayE (n : Nat) : Int := if 65535 < n then 8 else 0

set_option maxHeartbeats 400000 in
theorem may40 (p : Option Addr) (n c : Nat) (w : World) (hn : n ≤ 9223372036854775807) : Calls Try.prog 40 #[.slice p n c] w fun e w' => e = .returned (.int .i64 (mayE n)) ∧ w' = w := by
  by_cases h : 65535 < n
  · have d1 : decide (65535 < (n : Int)) = true := by simp; omega
    have e1 := Lib.hid (show mayE n = 8 by unfold mayE; rw [if_pos h])
    go_enter Try.func40, Try.ntmps40
    go_wp2
    go_ret
    exact ⟨ret_int e1.out.symm, rfl⟩
  · have d1 : decide (65535 < (n : Int)) = false := by simp; omega
    have e1 := Lib.hid (show mayE n = 0 by unfold mayE; rw [if_neg h])
    go_enter Try.func40, Try.ntmps40
    go_wp2
    go_ret
    exact ⟨ret_int e1.out.symm, rfl⟩

/-- pairs that lie from a block's offset on: each key a slice of bytes; two cells a pair -/
structure Ps (w : World) (p : Option Addr) (n c : Nat) (ks : List (List Int)) : Prop where
  len : ks.length = n
  cap : n ≤ c
  big : n ≤ 1000
  cells : 0 < n → ∃ b o, p = some ⟨b, o, none⟩ ∧ ∀ i l, ks[i]? = some l → ∃ q m d, w.cell? ⟨b, o + i * 2, none⟩ = some (.slice q m d) ∧ Bs w q m d l

/-- whether keys rise -/
def riseB : List (List Int) → Bool
  | a :: b :: r => decide (cmpL a b < 0) && riseB (b :: r)
  | _ => true

theorem riseB_iff : ∀ ks : List (List Int), riseB ks = true ↔ ∀ i, i + 1 < ks.length → cmpL (ks.getD i []) (ks.getD (i + 1) []) < 0
  | [] => by simp [riseB]
  | [a] => by simp [riseB]
  | a :: b :: r => by
    have ih := riseB_iff (b :: r)
    simp only [riseB, Bool.and_eq_true, decide_eq_true_eq, ih]
    constructor
    · rintro ⟨h0, h⟩ i hi
      cases i with
      | zero => simpa using h0
      | succ i => simpa using h i (by simpa using hi)
    · intro h
      refine ⟨by simpa using h 0 (by simp), fun i hi => ?_⟩
      simpa using h (i + 1) (by simpa using hi)

theorem Ps.drewN {w : World} {p : Option Addr} {n c : Nat} {ks : List (List Int)} (h : Ps w p n c ks) (z : Nat) : Ps (w.drewN z) p n c ks :=
  ⟨h.len, h.cap, h.big, fun hn => by
    obtain ⟨b, o, e, hc⟩ := h.cells hn
    refine ⟨b, o, e, fun i l hl => ?_⟩
    obtain ⟨q, m, d, h1, h2⟩ := hc i l hl
    exact ⟨q, m, d, h1, h2.drewN z⟩⟩

theorem Ps.below {w w' : World} {p : Option Addr} {n c : Nat} {ks : List (List Int)} (h : Ps w p n c ks) (hb : Below w.heap.size w w') : Ps w' p n c ks :=
  ⟨h.len, h.cap, h.big, fun hn => by
    obtain ⟨b, o, e, hc⟩ := h.cells hn
    refine ⟨b, o, e, fun i l hl => ?_⟩
    obtain ⟨q, m, d, h1, h2⟩ := hc i l hl
    refine ⟨q, m, d, ?_, h2.below hb⟩
    rw [hb.cell (p := ⟨b, o + i * 2, none⟩) (block_lt_of_cell h1)]; exact h1⟩

set_option maxRecDepth 100000 in
set_option maxHeartbeats 400000 in
theorem sorted27 (p : Option Addr) (n c : Nat) (ks : List (List Int)) (w : World) (h : Ps w p n c ks) :
    Calls Try.prog 27 #[.slice p n c] w fun e w' => e = .returned (.bool (riseB ks)) ∧ ∃ z, w' = w.drewN z := by
  have hn := h.big
  have HP := Lib.hid h
  clear h
  go_enter Try.func27, Try.ntmps27
  go_wp2
  go_loopw [3] (fun i wr => ∃ k : Nat, i = .int .i64 k ∧ 1 ≤ k ∧ k ≤ n + 1 ∧ Hid (∀ j, j + 1 < k → j + 1 < n → cmpL (ks.getD j []) (ks.getD (j + 1) []) < 0) ∧ ∃ z, wr = w.drewN z) (fun i _ => n + 1 - (intOf i).toNat)
  case atStart => exact ⟨1, rfl, by omega, by omega, fun j h1 h2 => by omega, 0, rfl⟩
  case round =>
    obtain ⟨k, rfl, hk1, hk2, hs, z, rfl⟩ := hrel
    by_cases hlt : k < n
    · obtain ⟨b, o, rfl, hc⟩ := HP.out.cells (by omega)
      have e0 : ks[k - 1]? = some (ks.getD (k - 1) []) := by rw [List.getD_eq_getElem?_getD, List.getElem?_eq_getElem (by rw [HP.out.len]; omega)]; rfl
      have e1 : ks[k]? = some (ks.getD k []) := by rw [List.getD_eq_getElem?_getD, List.getElem?_eq_getElem (by rw [HP.out.len]; omega)]; rfl
      obtain ⟨q, m, d, g0, hb0⟩ := hc _ _ e0
      obtain ⟨q', m', d', g1, hb1⟩ := hc _ _ e1
      generalize hx0 : ks.getD (k - 1) [] = x0 at *
      generalize hx1 : ks.getD k [] = x1 at *
      have HX0 := Lib.hid hx0
      have HX1 := Lib.hid hx1
      have H15 : Hid (∀ W : World, W.heap = w.heap → Calls Try.prog 15 #[.slice q m d, .slice q' m' d'] W fun e w' => e = .returned (.int .i64 (cmpL x0 x1)) ∧ w' = W) := fun W hW => cmp15 _ _ _ _ _ _ _ _ _ (hb0.same hW) (hb1.same hW)
      clear hc e0 e1 hb0 hb1 hx0 hx1
      have hw : IntKind.i64.wrap ((k : Int) - 1) = (k : Int) - 1 := IntWalk.i64_in _ (by omega)
      have hw2 : (0 : Int) ≤ (k : Int) - 1 := by omega
      have hw3 : (1 : Int) ≤ (k : Int) := by omega
      have hw4 : (k : Int) - 1 < (n : Int) := by omega
      have hw5 : ((k : Int) - 1).toNat = k - 1 := by omega
      generalize hcm : cmpL x0 x1 = r at *
      have HCM := Lib.hid hcm
      clear hcm
      by_cases hr : 0 ≤ r
      · have hr1 : decide (0 ≤ r) = true := by simp [hr]
        have HR := Lib.hid hr
        clear hr
        go_wp2
        go_quiet ((go_at_call 15; exact (H15.out (w.drewN _) rfl).mono (fun _ _ ⟨he, hw⟩ => ⟨he, _, hw⟩)))
        go_wp2
        go_ret
        refine ⟨?_, _, World.drewN_drewN _ _ _⟩
        have : riseB ks = false := by
          rw [Bool.eq_false_iff]
          intro h
          have h2 := (riseB_iff ks).1 h (k - 1) (by rw [HP.out.len]; omega)
          rw [Nat.sub_add_cancel hk1, HX0.out, HX1.out, HCM.out] at h2
          have := HR.out
          omega
        rw [this]; rfl
      · have hr1 : decide (0 ≤ r) = false := by simp [hr]
        have HR := Lib.hid hr
        clear hr
        go_wp2
        go_quiet ((go_at_call 15; exact (H15.out (w.drewN _) rfl).mono (fun _ _ ⟨he, hw⟩ => ⟨he, _, hw⟩)))
        go_wp2
        go_roundw
        case rel =>
          refine ⟨k + 1, by go_num, by omega, by omega, ?_, _, rfl⟩
          intro j h1 h2
          by_cases hj : j + 1 < k
          · exact hs.out j hj h2
          · obtain rfl : k = j + 1 := by omega
            rw [Nat.add_sub_cancel] at HX0
            rw [HX0.out, HX1.out, HCM.out]
            have := HR.out
            omega
        case measure => simp [intOf]; omega
    · have d1 : decide (k < n) = false := by simp [hlt]
      go_wp2
      go_ret
      refine ⟨?_, _, rfl⟩
      have : riseB ks = true := (riseB_iff ks).2 (fun i hi => hs.out i (by rw [HP.out.len] at hi; omega) (by rw [HP.out.len] at hi; omega))
      rw [this]; rfl

set_option maxRecDepth 100000 in
set_option maxHeartbeats 400000 in
theorem sorted28 (p : Option Addr) (n c : Nat) (ks : List (List Int)) (w : World) (h : Ps w p n c ks) :
    Calls Try.prog 28 #[.slice p n c] w fun e w' => e = .returned (.bool (riseB ks)) ∧ ∃ z, w' = w.drewN z := by
  have hn := h.big
  have HP := Lib.hid h
  clear h
  go_enter Try.func28, Try.ntmps28
  go_wp2
  go_loopw [3] (fun i wr => ∃ k : Nat, i = .int .i64 k ∧ 1 ≤ k ∧ k ≤ n + 1 ∧ Hid (∀ j, j + 1 < k → j + 1 < n → cmpL (ks.getD j []) (ks.getD (j + 1) []) < 0) ∧ ∃ z, wr = w.drewN z) (fun i _ => n + 1 - (intOf i).toNat)
  case atStart => exact ⟨1, rfl, by omega, by omega, fun j h1 h2 => by omega, 0, rfl⟩
  case round =>
    obtain ⟨k, rfl, hk1, hk2, hs, z, rfl⟩ := hrel
    by_cases hlt : k < n
    · obtain ⟨b, o, rfl, hc⟩ := HP.out.cells (by omega)
      have e0 : ks[k - 1]? = some (ks.getD (k - 1) []) := by rw [List.getD_eq_getElem?_getD, List.getElem?_eq_getElem (by rw [HP.out.len]; omega)]; rfl
      have e1 : ks[k]? = some (ks.getD k []) := by rw [List.getD_eq_getElem?_getD, List.getElem?_eq_getElem (by rw [HP.out.len]; omega)]; rfl
      obtain ⟨q, m, d, g0, hb0⟩ := hc _ _ e0
      obtain ⟨q', m', d', g1, hb1⟩ := hc _ _ e1
      generalize hx0 : ks.getD (k - 1) [] = x0 at *
      generalize hx1 : ks.getD k [] = x1 at *
      have HX0 := Lib.hid hx0
      have HX1 := Lib.hid hx1
      have H15 : Hid (∀ W : World, W.heap = w.heap → Calls Try.prog 16 #[.slice q m d, .slice q' m' d'] W fun e w' => e = .returned (.int .i64 (cmpL x0 x1)) ∧ ∃ k, w' = W.drewN k) := fun W hW => cmp16 _ _ _ _ _ _ _ _ _ (hb0.same hW) (hb1.same hW)
      clear hc e0 e1 hb0 hb1 hx0 hx1
      have hw : IntKind.i64.wrap ((k : Int) - 1) = (k : Int) - 1 := IntWalk.i64_in _ (by omega)
      have hw2 : (0 : Int) ≤ (k : Int) - 1 := by omega
      have hw3 : (1 : Int) ≤ (k : Int) := by omega
      have hw4 : (k : Int) - 1 < (n : Int) := by omega
      have hw5 : ((k : Int) - 1).toNat = k - 1 := by omega
      generalize hcm : cmpL x0 x1 = r at *
      have HCM := Lib.hid hcm
      clear hcm
      by_cases hr : 0 ≤ r
      · have hr1 : decide (0 ≤ r) = true := by simp [hr]
        have HR := Lib.hid hr
        clear hr
        go_wp2
        go_quiet ((go_at_call 16; exact quiet_at (H15.out (w.drewN _) rfl)))
        go_wp2
        go_ret
        refine ⟨?_, _, World.drewN_drewN _ _ _⟩
        have : riseB ks = false := by
          rw [Bool.eq_false_iff]
          intro h
          have h2 := (riseB_iff ks).1 h (k - 1) (by rw [HP.out.len]; omega)
          rw [Nat.sub_add_cancel hk1, HX0.out, HX1.out, HCM.out] at h2
          have := HR.out
          omega
        rw [this]; rfl
      · have hr1 : decide (0 ≤ r) = false := by simp [hr]
        have HR := Lib.hid hr
        clear hr
        go_wp2
        go_quiet ((go_at_call 16; exact quiet_at (H15.out (w.drewN _) rfl)))
        go_wp2
        go_roundw
        case rel =>
          refine ⟨k + 1, by go_num, by omega, by omega, ?_, _, rfl⟩
          intro j h1 h2
          by_cases hj : j + 1 < k
          · exact hs.out j hj h2
          · obtain rfl : k = j + 1 := by omega
            rw [Nat.add_sub_cancel] at HX0
            rw [HX0.out, HX1.out, HCM.out]
            have := HR.out
            omega
        case measure => simp [intOf]; omega
    · have d1 : decide (k < n) = false := by simp [hlt]
      go_wp2
      go_ret
      refine ⟨?_, _, rfl⟩
      have : riseB ks = true := (riseB_iff ks).2 (fun i hi => hs.out i (by rw [HP.out.len] at hi; omega) (by rw [HP.out.len] at hi; omega))
      rw [this]; rfl

end Go.Proofs.Ytbldahimdkifiaa
