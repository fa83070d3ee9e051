/-
  The board, in plain Lean: how many bytes have a place; what a place that is given or taken turns.
-/
import Derived.Test.YthohpeinmkdfeaaWide2
namespace Go.Proofs.Ythohpeinmkdfeaa
open Go.RowKit
set_option linter.unusedVariables false

def upd (A : Nat → Nat) (b v : Nat) : Nat → Nat := fun i => if i = b then v else A i
theorem upd_same (A : Nat → Nat) (b v : Nat) : upd A b v b = v := by simp [upd]
theorem upd_ne (A : Nat → Nat) (b v : Nat) {i : Nat} (h : i ≠ b) : upd A b v i = A i := by simp [upd, h]

def cntN (A : Nat → Nat) (n : Nat) : Nat := ((List.range n).filter fun b => decide (A b ≠ 0)).length
theorem cntN_succ (A : Nat → Nat) (n : Nat) : cntN A (n + 1) = cntN A n + (if A n ≠ 0 then 1 else 0) := by
  unfold cntN
  rw [List.range_succ, List.filter_append, List.length_append]
  by_cases h : A n ≠ 0
  · rw [if_pos h]; simp [h]
  · rw [if_neg h]; simp at h; simp [h]
theorem cntN_upd (A : Nat → Nat) (b v : Nat) : ∀ n, cntN (upd A b v) n + (if b < n ∧ A b ≠ 0 then 1 else 0) = cntN A n + (if b < n ∧ v ≠ 0 then 1 else 0)
  | 0 => by simp [cntN]
  | n + 1 => by
    have ih := cntN_upd A b v n
    rw [cntN_succ, cntN_succ]
    by_cases e : n = b
    · subst e
      rw [upd_same]
      rw [if_neg (by omega), if_neg (by omega)] at ih
      by_cases h1 : A n ≠ 0 <;> by_cases h2 : v ≠ 0
      · rw [if_pos h2, if_pos ⟨by omega, h1⟩, if_pos h1, if_pos ⟨by omega, h2⟩]; omega
      · rw [if_neg h2, if_pos ⟨by omega, h1⟩, if_pos h1, if_neg (fun h => h2 h.2)]; omega
      · rw [if_pos h2, if_neg (fun h => h1 h.2), if_neg h1, if_pos ⟨by omega, h2⟩]; omega
      · rw [if_neg h2, if_neg (fun h => h1 h.2), if_neg h1, if_neg (fun h => h2 h.2)]; omega
    · rw [upd_ne A b v e]
      have i1 : (b < n + 1 ∧ A b ≠ 0) ↔ (b < n ∧ A b ≠ 0) := by constructor <;> (rintro ⟨h, k⟩; exact ⟨by omega, k⟩)
      have i2 : (b < n + 1 ∧ v ≠ 0) ↔ (b < n ∧ v ≠ 0) := by constructor <;> (rintro ⟨h, k⟩; exact ⟨by omega, k⟩)
      simp only [i1, i2]
      omega
theorem cnt_new {A : Nat → Nat} {b v : Nat} (hb : b < 256) (ha : A b = 0) (hv : v ≠ 0) : cntA (upd A b v) = cntA A + 1 := by
  have := cntN_upd A b v 256
  rw [if_neg (by omega), if_pos ⟨hb, hv⟩] at this
  exact this
theorem cnt_drop {A : Nat → Nat} {b : Nat} (hb : b < 256) (ha : A b ≠ 0) : cntA (upd A b 0) + 1 = cntA A := by
  have := cntN_upd A b 0 256
  rw [if_pos ⟨hb, ha⟩, if_neg (by omega)] at this
  exact this

theorem heldA_set {A : Nat → Nat} {X : List Int} (b j : Nat) (x : Int) (hA : A b = j + 1) (hj : j < X.length) (hinj : ∀ c, c < 256 → A c = j + 1 → c = b) (c : Nat) (hc : c < 256) :
    heldA A (X.set j x) c = if c = b then some x else heldA A X c := by
  unfold heldA
  by_cases e : c = b
  · subst e
    rw [if_pos rfl, if_neg (by omega), hA, Nat.add_sub_cancel, List.getD_eq_getElem?_getD, List.getElem?_set, if_pos rfl, if_pos hj]
    rfl
  · rw [if_neg e]
    by_cases h0 : A c = 0
    · rw [if_pos h0, if_pos h0]
    · rw [if_neg h0, if_neg h0, List.getD_eq_getElem?_getD, List.getD_eq_getElem?_getD, List.getElem?_set, if_neg (fun h => e (hinj c hc (by omega)))]

/-- a thing is laid where one was -/
theorem Plc.old {room : Nat} {A : Nat → Nat} {X : List Int} {F : List Nat} (h : Plc room A X F) (j : Nat) (x : Int) : Plc room A (X.set j x) F :=
  ⟨fun b hb => by rw [List.length_set]; exact h.le b hb, h.inj, h.nodup, fun i hi => by rw [List.length_set]; exact h.free i hi, by rw [List.length_set]; exact h.sum, by rw [List.length_set]; exact h.most, h.room⟩

theorem Plc.inj1 {room : Nat} {A : Nat → Nat} {X : List Int} {F : List Nat} (h : Plc room A X F) {b j : Nat} (hb : b < 256) (ha : A b = j + 1) : ∀ c, c < 256 → A c = j + 1 → c = b := fun c hc he =>
  h.inj c b hc hb (by omega) (by omega)

/-- a place that was free is given -/
theorem Plc.give {room : Nat} {A : Nat → Nat} {X : List Int} {F' : List Nat} {j b : Nat} (h : Plc room A X (F' ++ [j + 1])) (hb : b < 256) (ha : A b = 0) (hn : cntA A < room) :
    Plc room (upd A b (j + 1)) X F' ∧ j < X.length ∧ ∀ c, c < 256 → upd A b (j + 1) c = j + 1 → c = b := by
  have hf := h.free (j + 1) (by simp)
  have hu : ∀ c, c < 256 → upd A b (j + 1) c = j + 1 → c = b := fun c hc he => by
    by_cases e : c = b
    · exact e
    · rw [upd_ne _ _ _ e] at he
      exact absurd he (hf.2.2 c hc)
  refine ⟨⟨fun c hc => ?_, fun c d hc hd h0 he => ?_, ?_, fun i hi => ⟨(h.free i (by simp [hi])).1, (h.free i (by simp [hi])).2.1, fun c hc he => ?_⟩, ?_, h.most, ?_⟩, by omega, hu⟩
  · by_cases e : c = b
    · subst e; rw [upd_same]; omega
    · rw [upd_ne _ _ _ e]; exact h.le c hc
  · by_cases e : c = b
    · subst e
      rw [upd_same] at he
      exact (hu d hd he.symm).symm
    · by_cases e2 : d = b
      · subst e2
        rw [upd_same] at he
        exact hu c hc he
      · rw [upd_ne _ _ _ e] at h0
        rw [upd_ne _ _ _ e, upd_ne _ _ _ e2] at he
        exact h.inj c d hc hd h0 he
  · exact (List.nodup_append.1 h.nodup).1
  · by_cases e : c = b
    · subst e
      rw [upd_same] at he
      subst he
      exact (List.nodup_append.1 h.nodup).2.2 _ hi _ (by simp) rfl
    · rw [upd_ne _ _ _ e] at he
      exact (h.free i (by simp [hi])).2.2 c hc he
  · rw [cnt_new hb ha (by omega)]
    have := h.sum
    simp at this
    omega
  · rw [cnt_new hb ha (by omega)]; omega

/-- a new place is made -/
theorem Plc.grow {room : Nat} {A : Nat → Nat} {X : List Int} {b : Nat} (h : Plc room A X []) (hr : room ≤ 256) (hb : b < 256) (ha : A b = 0) (hn : cntA A < room) :
    Plc room (upd A b (X.length + 1)) (X ++ [0]) [] ∧ ∀ c, c < 256 → upd A b (X.length + 1) c = X.length + 1 → c = b := by
  have hs := h.sum
  simp at hs
  have hu : ∀ c, c < 256 → upd A b (X.length + 1) c = X.length + 1 → c = b := fun c hc he => by
    by_cases e : c = b
    · exact e
    · rw [upd_ne _ _ _ e] at he
      have := h.le c hc
      omega
  refine ⟨⟨fun c hc => ?_, fun c d hc hd h0 he => ?_, List.nodup_nil, fun i hi => by simp at hi, ?_, by simp; omega, ?_⟩, hu⟩
  · by_cases e : c = b
    · subst e; rw [upd_same]; simp
    · rw [upd_ne _ _ _ e]; have := h.le c hc; simp; omega
  · by_cases e : c = b
    · subst e
      rw [upd_same] at he
      exact (hu d hd he.symm).symm
    · by_cases e2 : d = b
      · subst e2
        rw [upd_same] at he
        exact hu c hc he
      · rw [upd_ne _ _ _ e] at h0
        rw [upd_ne _ _ _ e, upd_ne _ _ _ e2] at he
        exact h.inj c d hc hd h0 he
  · rw [cnt_new hb ha (by omega)]; simp; omega
  · rw [cnt_new hb ha (by omega)]; omega

/-- what was held is dropped -/
theorem Plc.drop {room : Nat} {A : Nat → Nat} {X : List Int} {F : List Nat} {j b : Nat} (h : Plc room A X F) (hb : b < 256) (ha : A b = j + 1) :
    Plc room (upd A b 0) (X.set j 0) (F ++ [j + 1]) := by
  have hle := h.le b hb
  refine ⟨fun c hc => ?_, fun c d hc hd h0 he => ?_, ?_, fun i hi => ?_, ?_, by rw [List.length_set]; exact h.most, ?_⟩
  · rw [List.length_set]
    by_cases e : c = b
    · subst e; rw [upd_same]; omega
    · rw [upd_ne _ _ _ e]; exact h.le c hc
  · have e : c ≠ b := fun e => by subst e; rw [upd_same] at h0; omega
    rw [upd_ne _ _ _ e] at h0
    rw [upd_ne _ _ _ e] at he
    by_cases e2 : d = b
    · subst e2; rw [upd_same] at he; omega
    · rw [upd_ne _ _ _ e2] at he
      exact h.inj c d hc hd h0 he
  · refine List.nodup_append.2 ⟨h.nodup, by simp, fun i hi k hk => ?_⟩
    simp at hk
    subst hk
    intro e
    subst e
    exact (h.free _ hi).2.2 b hb ha
  · rw [List.length_set]
    rcases List.mem_append.1 hi with hi | hi
    · refine ⟨(h.free i hi).1, (h.free i hi).2.1, fun c hc he => ?_⟩
      by_cases e : c = b
      · subst e; rw [upd_same] at he; have := (h.free i hi).1; omega
      · rw [upd_ne _ _ _ e] at he
        exact (h.free i hi).2.2 c hc he
    · simp at hi
      subst hi
      refine ⟨by omega, by omega, fun c hc he => ?_⟩
      by_cases e : c = b
      · subst e; rw [upd_same] at he; omega
      · rw [upd_ne _ _ _ e] at he
        exact e (h.inj1 hb ha c hc he)
  · have := h.sum
    have := cnt_drop (A := A) hb (by omega)
    simp; omega
  · have := h.room
    have := cnt_drop (A := A) hb (by omega)
    omega

end Go.Proofs.Ythohpeinmkdfeaa
