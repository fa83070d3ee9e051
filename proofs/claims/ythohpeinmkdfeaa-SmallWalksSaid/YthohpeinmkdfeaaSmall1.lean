/-
  The small row: its cells; what is compared; where a byte is, or would be.
-/
import Derived.Test.YthohpeinmkdfeaaRef3
import Derived.Test.YthohpeinmkdfeaaAs31
namespace Go.Proofs.Ythohpeinmkdfeaa
open Go.RowKit
set_option linter.unusedVariables false

/-- the cells of a small row -/
def rowL (room : Int) (n : Nat) (B : Nat → Nat) (X : Nat → Int) : List Value :=
  [.int .i64 room, .int .i64 n] ++ (((List.range 16).map fun i => Value.int .u8 (B i)) ++ ((List.range 16).map fun i => Value.int .i64 (X i)))

theorem rowL_len (room : Int) (n : Nat) (B : Nat → Nat) (X : Nat → Int) : (rowL room n B X).length = 34 := by
  unfold rowL; simp
theorem rowL_0 (room : Int) (n : Nat) (B : Nat → Nat) (X : Nat → Int) : (rowL room n B X)[0]? = some (.int .i64 room) := rfl
theorem rowL_1 (room : Int) (n : Nat) (B : Nat → Nat) (X : Nat → Int) : (rowL room n B X)[1]? = some (.int .i64 n) := rfl
theorem rowL_b (room : Int) (n : Nat) (B : Nat → Nat) (X : Nat → Int) (i : Nat) (hi : i < 16) : (rowL room n B X)[2 + i]? = some (.int .u8 (B i)) := by
  unfold rowL
  rw [List.getElem?_append_right (by simp)]
  simp only [List.length_cons, List.length_nil]
  rw [show 2 + i - (0 + 1 + 1) = i by omega, List.getElem?_append_left (by simp; omega), List.getElem?_map, List.getElem?_range hi]
  rfl
theorem rowL_x (room : Int) (n : Nat) (B : Nat → Nat) (X : Nat → Int) (i : Nat) (hi : i < 16) : (rowL room n B X)[18 + i]? = some (.int .i64 (X i)) := by
  unfold rowL
  rw [List.getElem?_append_right (by simp; omega)]
  simp only [List.length_cons, List.length_nil]
  rw [show 18 + i - (0 + 1 + 1) = 16 + i by omega, List.getElem?_append_right (by simp)]
  simp only [List.length_map, List.length_range]
  rw [show 16 + i - 16 = i by omega, List.getElem?_map, List.getElem?_range hi]
  rfl
theorem rowL_one (room : Int) (n : Nat) (B : Nat → Nat) (X : Nat → Int) : (rowL room n B X).toArray.all (·.oneCell') = true := by
  rw [Array.all_eq_true_iff_forall_mem]
  intro v hv
  unfold rowL at hv
  simp at hv
  rcases hv with rfl | rfl | ⟨i, _, rfl⟩ | ⟨i, _, rfl⟩ <;> rfl

/-- which of the 34 cells -/
theorem cell34 (j : Nat) (hj : j < 34) : j = 0 ∨ j = 1 ∨ (∃ i, i < 16 ∧ j = 2 + i) ∨ (∃ i, i < 16 ∧ j = 18 + i) := by
  by_cases h0 : j = 0
  · exact Or.inl h0
  · by_cases h1 : j = 1
    · exact Or.inr (Or.inl h1)
    · by_cases h2 : j < 18
      · exact Or.inr (Or.inr (Or.inl ⟨j - 2, by omega, by omega⟩))
      · exact Or.inr (Or.inr (Or.inr ⟨j - 18, by omega, by omega⟩))

theorem rowL_ext {L : List Value} {room : Int} {n : Nat} {B : Nat → Nat} {X : Nat → Int} (hl : L.length = 34) (h0 : L[0]? = some (.int .i64 room)) (h1 : L[1]? = some (.int .i64 n))
    (hb : ∀ i, i < 16 → L[2 + i]? = some (.int .u8 (B i))) (hx : ∀ i, i < 16 → L[18 + i]? = some (.int .i64 (X i))) : L = rowL room n B X := by
  apply List.ext_getElem?
  intro j
  by_cases hj : j < 34
  · rcases cell34 j hj with rfl | rfl | ⟨i, hi, rfl⟩ | ⟨i, hi, rfl⟩
    · rw [h0, rowL_0]
    · rw [h1, rowL_1]
    · rw [hb i hi, rowL_b _ _ _ _ i hi]
    · rw [hx i hi, rowL_x _ _ _ _ i hi]
  · rw [List.getElem?_eq_none (by omega), List.getElem?_eq_none (by rw [rowL_len]; omega)]

/-- a small row in block g -/
structure Sm (w : World) (g : Nat) (room : Int) (n : Nat) (B : Nat → Nat) (X : Nat → Int) : Prop where
  heap : w.heap[g]? = some (.cells (rowL room n B X).toArray 114 (0, 0))

theorem Sm.vRoom {w : World} {g : Nat} {room : Int} {n : Nat} {B : Nat → Nat} {X : Nat → Int} (h : Sm w g room n B X) : w.cell? ⟨g, 0, none⟩ = some (.int .i64 room) := by
  rw [cell_of_row _ _ _ _ _ _ h.heap]; simp [rowL_0]
theorem Sm.vN {w : World} {g : Nat} {room : Int} {n : Nat} {B : Nat → Nat} {X : Nat → Int} (h : Sm w g room n B X) : w.cell? ⟨g, 1, none⟩ = some (.int .i64 n) := by
  rw [cell_of_row _ _ _ _ _ _ h.heap]; simp [rowL_1]
theorem Sm.vB {w : World} {g : Nat} {room : Int} {n : Nat} {B : Nat → Nat} {X : Nat → Int} (h : Sm w g room n B X) (i : Nat) (hi : i < 16) : w.cell? ⟨g, 2 + i, none⟩ = some (.int .u8 (B i)) := by
  rw [cell_of_row _ _ _ _ _ _ h.heap, List.getElem?_toArray, rowL_b _ _ _ _ i hi]
theorem Sm.vX {w : World} {g : Nat} {room : Int} {n : Nat} {B : Nat → Nat} {X : Nat → Int} (h : Sm w g room n B X) (i : Nat) (hi : i < 16) : w.cell? ⟨g, 18 + i, none⟩ = some (.int .i64 (X i)) := by
  rw [cell_of_row _ _ _ _ _ _ h.heap, List.getElem?_toArray, rowL_x _ _ _ _ i hi]
theorem Sm.free {w : World} {g : Nat} {room : Int} {n : Nat} {B : Nat → Nat} {X : Nat → Int} (h : Sm w g room n B X) (j : Nat) : w.frozen? ⟨g, j, none⟩ = false := frozen_of_row _ _ _ _ _ h.heap
theorem Sm.lt {w : World} {g : Nat} {room : Int} {n : Nat} {B : Nat → Nat} {X : Nat → Int} (h : Sm w g room n B X) : g < w.heap.size := block_lt_of_cell h.vN
theorem Sm.same {w w' : World} {g : Nat} {room : Int} {n : Nat} {B : Nat → Nat} {X : Nat → Int} (h : Sm w g room n B X) (e : w'.heap[g]? = w.heap[g]?) : Sm w' g room n B X := ⟨e.trans h.heap⟩

theorem Sm.setCell {w : World} {g : Nat} {room : Int} {n : Nat} {B : Nat → Nat} {X : Nat → Int} (h : Sm w g room n B X) (j : Nat) (v : Value) {room' : Int} {n' : Nat} {B' : Nat → Nat} {X' : Nat → Int}
    (e : (rowL room n B X).set j v = rowL room' n' B' X') : Sm (w.setCell ⟨g, j, none⟩ v) g room' n' B' X' :=
  ⟨by rw [heap_setCell_same w g j _ 114 v h.heap, List.setIfInBounds_toArray, e]⟩

def updX (X : Nat → Int) (i : Nat) (x : Int) : Nat → Int := fun j => if j = i then x else X j
def updB (B : Nat → Nat) (i : Nat) (b : Nat) : Nat → Nat := fun j => if j = i then b else B j

theorem Sm.setN {w : World} {g : Nat} {room : Int} {n : Nat} {B : Nat → Nat} {X : Nat → Int} (h : Sm w g room n B X) (n' : Nat) : Sm (w.setCell ⟨g, 1, none⟩ (.int .i64 n')) g room n' B X :=
  h.setCell 1 _ rfl
theorem Sm.setB {w : World} {g : Nat} {room : Int} {n : Nat} {B : Nat → Nat} {X : Nat → Int} (h : Sm w g room n B X) (i : Nat) (hi : i < 16) (b : Nat) : Sm (w.setCell ⟨g, 2 + i, none⟩ (.int .u8 b)) g room n (updB B i b) X := by
  refine h.setCell _ _ (rowL_ext (by rw [List.length_set, rowL_len]) ?_ ?_ (fun j hj => ?_) (fun j hj => ?_))
  · rw [List.getElem?_set_ne (by omega)]; rfl
  · rw [List.getElem?_set_ne (by omega)]; rfl
  · unfold updB
    by_cases e : j = i
    · subst e; rw [if_pos rfl, List.getElem?_set_self (by rw [rowL_len]; omega)]
    · rw [if_neg e, List.getElem?_set_ne (by omega), rowL_b _ _ _ _ j hj]
  · rw [List.getElem?_set_ne (by omega), rowL_x _ _ _ _ j hj]
theorem Sm.setX {w : World} {g : Nat} {room : Int} {n : Nat} {B : Nat → Nat} {X : Nat → Int} (h : Sm w g room n B X) (i : Nat) (hi : i < 16) (x : Int) : Sm (w.setCell ⟨g, 18 + i, none⟩ (.int .i64 x)) g room n B (updX X i x) := by
  refine h.setCell _ _ (rowL_ext (by rw [List.length_set, rowL_len]) ?_ ?_ (fun j hj => ?_) (fun j hj => ?_))
  · rw [List.getElem?_set_ne (by omega)]; rfl
  · rw [List.getElem?_set_ne (by omega)]; rfl
  · rw [List.getElem?_set_ne (by omega), rowL_b _ _ _ _ j hj]
  · unfold updX
    by_cases e : j = i
    · subst e; rw [if_pos rfl, List.getElem?_set_self (by rw [rowL_len]; omega)]
    · rw [if_neg e, List.getElem?_set_ne (by omega), rowL_x _ _ _ _ j hj]

theorem ok66 (g : Nat) (room : Int) (w : World) (h : w.cell? ⟨g, 0, none⟩ = some (.int .i64 room)) (h0 : 0 < room) : Calls Try.prog 66 #[.pointer (some ⟨g, 0, none⟩)] w fun e w' => e = .returned (.bool true) ∧ w' = w := by
  have d0 : decide (0 < room) = true := by simp; omega
  go_enter Try.func66, Try.ntmps66
  go_wp2
  go_ret
  exact ⟨rfl, rfl⟩

/-- a row that nobody made -/
def NoSm (w : World) (v : Value) : Prop := v = .pointer none ∨ ∃ g, v = .pointer (some ⟨g, 0, none⟩) ∧ w.cell? ⟨g, 0, none⟩ = some (.int .i64 0)

theorem ok66_no (v : Value) (w : World) (h : NoSm w v) : Calls Try.prog 66 #[v] w fun e w' => e = .returned (.bool false) ∧ w' = w := by
  rcases h with rfl | ⟨g, rfl, hc⟩
  · go_enter Try.func66, Try.ntmps66
    go_wp2
    go_ret
    exact ⟨rfl, rfl⟩
  · go_enter Try.func66, Try.ntmps66
    go_wp2
    go_ret
    exact ⟨rfl, rfl⟩

theorem nan86 (x : Int) (w : World) : Calls Try.prog 86 #[.int .u8 x] w fun e w' => e = .returned (.bool false) ∧ w' = w := by
  have d0 : (x != x) = false := by simp
  go_enter Try.func86, Try.ntmps86
  go_wp2
  go_ret
  exact ⟨rfl, rfl⟩
theorem nan81 (x : Int) (w : World) : Calls Try.prog 81 #[.int .u8 x] w fun e w' => e = .returned (.bool false) ∧ w' = w := by
  have d0 : (x != x) = false := by simp
  go_enter Try.func81, Try.ntmps81
  go_wp2
  go_ret
  exact ⟨rfl, rfl⟩
theorem less80 (x y : Int) (r : Bool) (w : World) (hr : decide (x < y) = r) : Calls Try.prog 80 #[.int .u8 x, .int .u8 y] w fun e w' => e = .returned (.bool r) ∧ w' = w := by
  go_enter Try.func80, Try.ntmps80
  go_wp2_with fail
  refine (nan86 x _).mono ?_; rintro e w' ⟨rfl, hw'⟩
  rw [hw']; clear hw' w'
  go_wp2_with fail
  go_ret
  exact ⟨rfl, rfl⟩

end Go.Proofs.Ythohpeinmkdfeaa
