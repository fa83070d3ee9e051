/-
  The walks of the chapter meter's statements.
-/
import Derived.Test.YthohpeinmkdfeaaOnce
namespace Go.Proofs.Ythohpeinmkdfeaa
open Go.RowKit
set_option linter.unusedVariables false

theorem seven58 (w : World) : Calls Try.prog 58 #[] w fun e w' => e = .returned (.int .i64 7) ∧ w' = w := by
  go_enter Try.func58, Try.ntmps58
  go_wp2
  go_ret
  exact ⟨rfl, rfl⟩

set_option maxRecDepth 100000 in
set_option maxHeartbeats 1600000 in
theorem alive21 (w : World) : Calls Try.prog 21 #[] w fun e w' => e = .returned (.bool true) ∧ Below w.heap.size w w' := by
  go_enter Try.func21, Try.ntmps21
  go_wp2_with fail
  obtain ⟨W, hW⟩ : ∃ W, W = (((w.alloc (.cells #[.int .i64 0] 91)).alloc (.cells #[.int .u64 0] 46)).alloc (.cells #[.int .u32 0, .int .i32 0, .int .u32 0, .int .i64 0, .bool false] 62)) := ⟨_, rfl⟩
  rw [← hW]
  have s1 : (w.alloc (.cells #[.int .i64 0] 91)).heap.size = w.heap.size + 1 := World.size_alloc _ _
  have s2 : ((w.alloc (.cells #[.int .i64 0] 91)).alloc (.cells #[.int .u64 0] 46)).heap.size = w.heap.size + 1 + 1 := by rw [World.size_alloc, s1]
  have hB : Below w.heap.size w W := by
    rw [hW]; exact (((Below.refl _ _).alloc (Nat.le_refl _) _).alloc (by omega) _).alloc (by omega) _
  have vm : Var W w.heap.size 0 (.int .i64 0) := by rw [hW]; exact ((Var.new rfl rfl).alloc _).alloc _
  have vo : Var W (w.heap.size + 1) 0 (.int .u64 0) := by rw [hW]; exact (Var.new s1.symm rfl).alloc _
  have x0 : Var W (w.heap.size + 1 + 1) 0 (.int .u32 0) := by rw [hW]; exact Var.new s2.symm rfl
  have x1 : Var W (w.heap.size + 1 + 1) 1 (.int .i32 0) := by rw [hW]; exact Var.new s2.symm rfl
  have x3 : Var W (w.heap.size + 1 + 1) 3 (.int .i64 0) := by rw [hW]; exact Var.new s2.symm rfl
  have x4 : Var W (w.heap.size + 1 + 1) 4 (.bool false) := by rw [hW]; exact Var.new s2.symm rfl
  clear hW s1 s2
  have HB := Lib.hid hB
  have VM := Lib.hid vm
  have VO := Lib.hid vo
  have X0 := Lib.hid x0
  have X1 := Lib.hid x1
  have X3 := Lib.hid x3
  have X4 := Lib.hid x4
  clear hB vm vo x0 x1 x3 x4
  refine (made35_yes ⟨w.heap.size, 0, none⟩ 0 2 2 W (by omega) VM.out.cell VM.out.free rfl).mono ?_
  rintro e w1 ⟨rfl, hw1⟩
  have hB1 : Below w.heap.size w w1 := by rw [hw1]; exact HB.out.setCell (Nat.le_refl _) _
  have vm : Var w1 w.heap.size 0 (.int .i64 2) := by rw [hw1]; exact VM.out.set
  have vo : Var w1 (w.heap.size + 1) 0 (.int .u64 0) := by rw [hw1]; exact VO.out.other (by simp)
  have x0 : Var w1 (w.heap.size + 1 + 1) 0 (.int .u32 0) := by rw [hw1]; exact X0.out.other (by simp; omega)
  have x1 : Var w1 (w.heap.size + 1 + 1) 1 (.int .i32 0) := by rw [hw1]; exact X1.out.other (by simp; omega)
  have x3 : Var w1 (w.heap.size + 1 + 1) 3 (.int .i64 0) := by rw [hw1]; exact X3.out.other (by simp; omega)
  have x4 : Var w1 (w.heap.size + 1 + 1) 4 (.bool false) := by rw [hw1]; exact X4.out.other (by simp; omega)
  clear hw1 HB VM VO X0 X1 X3 X4
  have HB := Lib.hid hB1
  have VM := Lib.hid vm
  have VO := Lib.hid vo
  have X0 := Lib.hid x0
  have X1 := Lib.hid x1
  have X3 := Lib.hid x3
  have X4 := Lib.hid x4
  clear hB1 vm vo x0 x1 x3 x4
  go_wp2_with fail
  refine (count37 ⟨w.heap.size, 0, none⟩ 2 _ VM.out.cell).mono ?_
  rintro e w' ⟨rfl, hw'⟩
  rw [hw']; clear hw' w'
  go_wp2_with fail
  refine (next20 ⟨w.heap.size + 1, 0, none⟩ 0 1 _ VO.out.cell VO.out.free rfl).mono ?_
  rintro e w1 ⟨rfl, hw1⟩
  have hB1 : Below w.heap.size w w1 := by rw [hw1]; exact HB.out.setCell (Nat.le_succ _) _
  have vo : Var w1 (w.heap.size + 1) 0 (.int .u64 1) := by rw [hw1]; exact VO.out.set
  have x0 : Var w1 (w.heap.size + 1 + 1) 0 (.int .u32 0) := by rw [hw1]; exact X0.out.other (by simp)
  have x1 : Var w1 (w.heap.size + 1 + 1) 1 (.int .i32 0) := by rw [hw1]; exact X1.out.other (by simp)
  have x3 : Var w1 (w.heap.size + 1 + 1) 3 (.int .i64 0) := by rw [hw1]; exact X3.out.other (by simp)
  have x4 : Var w1 (w.heap.size + 1 + 1) 4 (.bool false) := by rw [hw1]; exact X4.out.other (by simp)
  clear hw1 HB VM VO X0 X1 X3 X4
  have HB := Lib.hid hB1
  have VO := Lib.hid vo
  have X0 := Lib.hid x0
  have X1 := Lib.hid x1
  have X3 := Lib.hid x3
  have X4 := Lib.hid x4
  clear hB1 vo x0 x1 x3 x4
  go_wp2_with fail
  refine (last19 ⟨w.heap.size + 1, 0, none⟩ 1 _ VO.out.cell).mono ?_
  rintro e w' ⟨rfl, hw'⟩
  rw [hw']; clear hw' w'
  have HS : Hid (∀ W, Exc [w.heap.size + 1 + 1] w1 W → Calls Try.prog 58 #[] W fun e w' => e = .returned (.int .i64 7) ∧ Exc [] W w' ∧ True) := fun W _ =>
    (seven58 W).mono fun e w' ⟨he, hw⟩ => ⟨he, by rw [hw]; exact Exc.refl _ _, trivial⟩
  go_wp2_with fail
  refine (get22 (w.heap.size + 1 + 1) 0 [] (fun _ => True) 7 _ _ _ (by simp) (by simp) (fun _ _ _ _ => trivial) X0.out.cell X1.out.cell X3.out.cell X4.out.cell X0.out.free X1.out.free X3.out.free X4.out.free HS).mono ?_
  rintro e w2 ⟨rfl, hd⟩
  have ht := hd.told
  have HB2 := Lib.hid (hd.exc.below HB.out (by simp; omega) HB.out.size)
  clear hd HS
  go_wp2_with fail
  refine (told25 (w.heap.size + 1 + 1) 0 true _ ht).mono ?_
  rintro e w' ⟨rfl, hw'⟩
  rw [hw']; clear hw' w'
  go_wp2_with fail
  go_ret
  exact ⟨rfl, HB2.out⟩

set_option maxRecDepth 100000 in
set_option maxHeartbeats 1600000 in
theorem walkMeterOwners (n : Int) (w : World) (w0 : (Lit.int .u16 n).wf = true) :
    Calls Try.prog 4 #[.int .u16 n] w fun e w' => e = .returned (.bool true) ∧ Below w.heap.size w w' := by
  have hn : 0 ≤ n ∧ n < 65536 := by
    have := w0
    simp [Lit.wf, IntKind.min, IntKind.max, IntKind.signed, IntKind.bits] at this
    omega
  clear w0
  obtain ⟨n, rfl⟩ := Int.eq_ofNat_of_zero_le hn.1
  obtain ⟨m, hm, hm1⟩ : ∃ m : Nat, (n : Int) % 1000 = (m : Int) ∧ m < 1000 := ⟨n % 1000, by omega, by omega⟩
  clear hn
  have hv : Var (w.alloc (.cells #[.int .u64 0] 46)) w.heap.size 0 (.int .u64 0) := Var.new rfl rfl
  have HV := Lib.hid hv
  clear hv
  go_enter Try.func4, Try.ntmps4
  go_wp2_with fail
  simp only [hm]
  go_loopw [9] (fun t wr => ∃ k : Nat, t = .int .u64 k ∧ k ≤ m ∧ Hid (Var wr w.heap.size 0 (.int .u64 k)) ∧ Hid (Below w.heap.size w wr)) (fun t _ => m - (intOf t).toNat)
  case atStart => exact ⟨0, rfl, by omega, HV, (Below.refl _ _).alloc (Nat.le_refl _) _⟩
  case round =>
    obtain ⟨k, rfl, hk, hv, hb⟩ := hrel
    by_cases hlt : k < m
    · have q1 : ((k : Int) != (k : Int)) = false := by simp
      have q2 : ((k : Int) + 1 != (k : Int) + 1) = false := by simp
      have q3 : IntKind.u64.wrap ((k : Int) + 1) = (k : Int) + 1 := IntWalk.u64_in _ (by omega)
      go_wp2_with fail
      refine (last19 ⟨w.heap.size, 0, none⟩ k _ hv.out.cell).mono ?_
      rintro e w' ⟨rfl, hw'⟩
      rw [hw']; clear hw' w'
      go_wp2_with fail
      refine (next20 ⟨w.heap.size, 0, none⟩ k (k + 1) _ hv.out.cell hv.out.free q3).mono ?_
      rintro e w1 ⟨rfl, hw1⟩
      have hv1 : Var w1 w.heap.size 0 (.int .u64 ((k : Int) + 1)) := by rw [hw1]; exact hv.out.set
      have hb1 : Below w.heap.size w w1 := by rw [hw1]; exact hb.out.setCell (Nat.le_refl _) _
      have HV1 := Lib.hid hv1
      have HB1 := Lib.hid hb1
      clear hw1 hv1 hb1
      go_wp2_with fail
      refine (next20_nil _).mono ?_
      rintro e w' ⟨rfl, hw'⟩
      rw [hw']; clear hw' w'
      go_wp2_with fail
      go_roundw
      case rel => exact ⟨k + 1, by go_num, by omega, HV1, HB1⟩
      case measure => simp [intOf]; omega
    · obtain rfl : k = m := by omega
      have q1 : ((k : Int) == (k : Int)) = true := by simp
      go_wp2_with fail
      refine (last19 ⟨w.heap.size, 0, none⟩ k _ hv.out.cell).mono ?_
      rintro e w' ⟨rfl, hw'⟩
      rw [hw']; clear hw' w'
      go_wp2_with fail
      refine (last19_nil _).mono ?_
      rintro e w' ⟨rfl, hw'⟩
      rw [hw']; clear hw' w'
      go_wp2_with fail
      refine (alive21 _).mono ?_; rintro e w' ⟨rfl, hbel⟩
      have HL := Lib.hid (Below.step hb.out hbel)
      clear hbel
      go_wp2_with fail
      go_ret
      exact ⟨rfl, HL.out⟩

end Go.Proofs.Ythohpeinmkdfeaa
