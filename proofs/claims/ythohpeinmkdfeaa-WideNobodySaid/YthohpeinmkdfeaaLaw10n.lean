/-
  The walk of the statement WideNobody.
-/
import Derived.Test.YthohpeinmkdfeaaWide12
namespace Go.Proofs.Ythohpeinmkdfeaa
open Go.RowKit
set_option linter.unusedVariables false

set_option maxRecDepth 100000 in
set_option maxHeartbeats 1600000 in
theorem walkWideNobody (b from' : Int) (w : World) (w0 : (Lit.int .u8 b).wf = true) (w1 : (Lit.int .i64 from').wf = true) :
    Calls Try.prog 7 #[.int .u8 b, .int .i64 from'] w fun e w' => e = .returned (.bool true) ∧ Below w.heap.size w w' := by
  clear w0 w1
  obtain ⟨W, hW⟩ : ∃ W, W = (w.alloc (.cells Try.zeroCells83 83)).alloc (.cells #[.pointer none, .pointer (some ⟨w.heap.size, 0, none⟩)] 23) := ⟨_, rfl⟩
  have hz : Try.zeroCells83[0]? = some (.int .i64 0) := by rw [zero_get 256 rfl]; rfl
  have v0 : Var W w.heap.size 0 (.int .i64 0) := by rw [hW]; exact (Var.new rfl hz).alloc _
  have s1 : (w.alloc (.cells Try.zeroCells83 83)).heap.size = w.heap.size + 1 := World.size_alloc _ _
  have c0 : W.cell? ⟨w.heap.size + 1, 0, none⟩ = some (.pointer none) := by rw [hW]; exact (Var.new s1.symm rfl).cell
  have c1 : W.cell? ⟨w.heap.size + 1, 1, none⟩ = some (.pointer (some ⟨w.heap.size, 0, none⟩)) := by rw [hW]; exact (Var.new s1.symm rfl).cell
  have hB : Below w.heap.size w W := by rw [hW]; exact ((Below.refl _ _).alloc (Nat.le_refl _) _).alloc (by omega) _
  have HN : Hid (∀ k, k < 2 → ∃ v, W.cell? ⟨w.heap.size + 1, k, none⟩ = some v ∧ NoBd W v) := by
    intro k hk
    match k, hk with
    | 0, _ => exact ⟨_, c0, Or.inl rfl⟩
    | 1, _ => exact ⟨_, c1, Or.inr ⟨_, rfl, v0.cell⟩⟩
  have HB := Lib.hid hB
  have HW := Lib.hid hW
  clear hW v0 c0 c1 hB s1 hz
  go_enter Try.func7, Try.ntmps7
  go_wp2_with fail
  rw [← HW.out]
  go_loop [19] (fun i => ∃ k : Nat, i = .int .i64 k ∧ k ≤ 2) (fun i => 2 - (intOf i).toNat)
  case atStart => exact ⟨0, rfl, by omega⟩
  case round =>
    obtain ⟨k, rfl, hk⟩ := hrel
    by_cases hlt : k < 2
    · obtain ⟨v, g, hn⟩ := HN.out k hlt
      have d0 : decide ((k : Int) < 2) = true := by simp; omega
      have NB := Lib.hid hn
      clear hn
      go_wp2_with fail
      refine (get16_nobd v b _ NB.out).mono ?_
      rintro e w' ⟨rfl, hw'⟩
      rw [hw']; clear hw' w'
      go_wp2_with fail
      refine (next32_nobd v from' _ NB.out).mono ?_
      rintro e w' ⟨rfl, hw'⟩
      rw [hw']; clear hw' w'
      simp only [tri]
      go_wp2_with fail
      refine (prev33_nobd v from' _ NB.out).mono ?_
      rintro e w' ⟨rfl, hw'⟩
      rw [hw']; clear hw' w'
      simp only [tri]
      go_wp2_with fail
      refine (set14_nobd v b 1 _ NB.out).mono ?_
      rintro e w' ⟨rfl, hw'⟩
      rw [hw']; clear hw' w'
      go_wp2_with fail
      refine (drop13_nobd v b _ NB.out).mono ?_
      rintro e w' ⟨rfl, hw'⟩
      rw [hw']; clear hw' w'
      go_wp2_with fail
      refine (len17_nobd v _ NB.out).mono ?_
      rintro e w' ⟨rfl, hw'⟩
      rw [hw']; clear hw' w'
      go_wp2_with fail
      refine (room34_nobd v _ NB.out).mono ?_
      rintro e w' ⟨rfl, hw'⟩
      rw [hw']; clear hw' w'
      go_wp2_with fail
      refine (used30_nobd v _ NB.out).mono ?_
      rintro e w' ⟨rfl, hw'⟩
      rw [hw']; clear hw' w'
      go_wp2_with fail
      refine (copy15_nobd v _ NB.out).mono ?_
      rintro e w' ⟨rfl, hw'⟩
      rw [hw']; clear hw' w'
      go_wp2_with fail
      go_round
      case rel => exact ⟨k + 1, by go_num, by omega⟩
      case measure => simp [intOf]; omega
    · obtain rfl : k = 2 := by omega
      go_wp2_with fail
      refine (alive18 _).mono ?_; rintro e w' ⟨rfl, hbel⟩
      have HL := Lib.hid (Below.step HB.out hbel)
      clear hbel
      go_wp2_with fail
      go_ret
      exact ⟨rfl, HL.out⟩

end Go.Proofs.Ythohpeinmkdfeaa
