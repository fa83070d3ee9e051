/-
  The board: New, and Copy.
-/
import Derived.Test.YthohpeinmkdfeaaWide7
import Derived.Deep.WholeRow
import Derived.Deep.MidRow
namespace Go.Proofs.Ythohpeinmkdfeaa
open Go.RowKit
set_option linter.unusedVariables false

theorem new12_no (room : Int) (w : World) (h1 : ¬ room = 48) (h2 : ¬ room = 256) : Calls Try.prog 12 #[.int .i64 room] w fun e w' => e = .returned (.tuple #[.pointer none, .int .i64 1]) ∧ w' = w := by
  have d1 : (room != 48) = true := by simp [h1]
  have d2 : (room != 256) = true := by simp [h2]
  go_enter Try.func12, Try.ntmps12
  go_wp2
  go_ret2
  exact ⟨rfl, rfl⟩

theorem zero83 : Try.zeroCells83.toList = [.int .i64 0, .int .i64 0] ++ (List.replicate 256 (.int .u16 0) ++ [.slice none 0 0, .slice none 0 0]) := by kernel_rfl

theorem zero_get (n : Nat) (hn : n = 256) (i : Nat) : Try.zeroCells83[i]? = ([.int .i64 0, .int .i64 0] ++ (List.replicate n (.int .u16 0) ++ [.slice none 0 0, .slice none 0 0]) : List Value)[i]? := by
  subst hn
  rw [← zero83, Array.getElem?_toList]

theorem zero_size (n : Nat) (hn : n = 256) : Try.zeroCells83.size = n + 4 := by
  have h := zero83
  rw [← hn] at h
  rw [← Array.length_toList, h]
  simp only [List.length_append, List.length_replicate, List.length_cons, List.length_nil]
  omega

/-- an empty board's cells -/
theorem Bc.fresh (w : World) (room : Nat) : Bc (w.alloc (.cells (Try.zeroCells83.setIfInBounds 0 (.int .i64 room)) 83)) w.heap.size room 0 (fun _ => 0) (.slice none 0 0) (.slice none 0 0) := by
  obtain ⟨n, hn⟩ : ∃ n, n = 256 := ⟨_, rfl⟩
  have hs := zero_size n hn
  have l2 : ([.int .i64 0, .int .i64 0] : List Value).length = 2 := rfl
  refine ⟨_, heap_alloc_new w _, by rw [Array.size_setIfInBounds]; omega, ?_, ?_, fun b hb => ?_, ?_, ?_⟩
  · rw [Array.getElem?_setIfInBounds_self_of_lt (by omega)]
  · rw [Array.getElem?_setIfInBounds_ne (by decide), zero_get n hn]; rfl
  · rw [Array.getElem?_setIfInBounds_ne (by omega), zero_get n hn, List.getElem?_append_right (by omega), List.getElem?_append_left (by rw [List.length_replicate]; omega), List.getElem?_replicate, if_pos (by omega)]
    rfl
  · rw [Array.getElem?_setIfInBounds_ne (by decide), zero_get n hn, List.getElem?_append_right (by omega), List.getElem?_append_right (by rw [List.length_replicate]; omega), List.length_replicate, l2, show 258 - 2 - n = 0 by omega]
    rfl
  · rw [Array.getElem?_setIfInBounds_ne (by decide), zero_get n hn, List.getElem?_append_right (by omega), List.getElem?_append_right (by rw [List.length_replicate]; omega), List.length_replicate, l2, show 259 - 2 - n = 1 by omega]
    rfl

theorem cnt_zero : cntA (fun _ => 0) = 0 := by unfold cntA; simp

theorem BdE.fresh (w : World) (base room : Nat) (hb : base ≤ w.heap.size) (hr : 0 < room ∧ room ≤ 256) :
    BdE (w.alloc (.cells (Try.zeroCells83.setIfInBounds 0 (.int .i64 room)) 83)) base w.heap.size room (fun _ => none) 0 [w.heap.size] := by
  refine ⟨fun _ => 0, [], [], none, 0, none, 0, ⟨?_, World.ownsRow_nil _ _ _ _, World.ownsRow_nil _ _ _ _, ?_, hb, by simp, by simp, by simp, hr⟩, by simp [heldA], rfl, rfl⟩
  · rw [cnt_zero]; exact Bc.fresh w room
  · exact ⟨by simp, by simp, List.nodup_nil, by simp, by rw [cnt_zero]; rfl, by simp, by rw [cnt_zero]; omega⟩

set_option maxHeartbeats 400000 in
theorem new12_yes (base : Nat) (room : Nat) (w : World) (h : room = 48 ∨ room = 256) (hb : base ≤ w.heap.size) : Calls Try.prog 12 #[.int .i64 room] w fun e w' => e = .returned (.tuple #[.pointer (some ⟨w.heap.size, 0, none⟩), .int .i64 0]) ∧
    BdE w' base w.heap.size room (fun _ => none) 0 [w.heap.size] ∧ Below w.heap.size w w' := by
  have H := Lib.hid (BdE.fresh w base room hb (by omega))
  have HB := Lib.hid (fun o => (Below.refl w.heap.size w).alloc (Nat.le_refl _) o)
  rcases h with rfl | rfl
  all_goals
    go_enter Try.func12, Try.ntmps12
    go_wp2
    go_ret2
    exact ⟨rfl, H.out, HB.out _⟩

end Go.Proofs.Ythohpeinmkdfeaa
