/-
  Contracts of the seat's functions of the chapter meter: what counts, what gives owners.
-/
import Derived.Test.YthohpeinmkdfeaaBase
namespace Go.Proofs.Ythohpeinmkdfeaa
open Go.RowKit
set_option linter.unusedVariables false

theorem load56 (a : Addr) (x : Int) (w : World) (hc : w.cell? a = some (.int .u64 x)) : Calls Try.prog 56 #[.pointer (some a)] w fun e w' => e = .returned (.int .u64 x) ∧ w' = w := by
  have hl := run_call_load (P := Try.prog) Try.func69 (by kernel_rfl) (by kernel_rfl) (by kernel_rfl) .u64 (by kernel_rfl) hc
  go_enter Try.func56, Try.ntmps56
  go_wp2
  go_ret
  exact ⟨rfl, rfl⟩

theorem load65 (a : Addr) (x : Int) (w : World) (hc : w.cell? a = some (.int .i64 x)) : Calls Try.prog 65 #[.pointer (some a)] w fun e w' => e = .returned (.int .i64 x) ∧ w' = w := by
  have hl := run_call_load (P := Try.prog) Try.func74 (by kernel_rfl) (by kernel_rfl) (by kernel_rfl) .i64 (by kernel_rfl) hc
  go_enter Try.func65, Try.ntmps65
  go_wp2
  go_ret
  exact ⟨rfl, rfl⟩

theorem add57 (a : Addr) (x y s : Int) (w : World) (hc : w.cell? a = some (.int .u64 x)) (hz : w.frozen? a = false) (hs : IntKind.u64.wrap (x + y) = s) :
    Calls Try.prog 57 #[.pointer (some a), .int .u64 y] w fun e w' => e = .returned (.int .u64 s) ∧ w' = w.setCell a (.int .u64 s) := by
  have hl := run_call_add (P := Try.prog) Try.func70 (by kernel_rfl) (by kernel_rfl) (by kernel_rfl) .u64 (by kernel_rfl) (y := y) (s := s) hc hz (by simp [go_sem, hs])
  go_enter Try.func57, Try.ntmps57
  go_wp2
  go_ret
  exact ⟨rfl, rfl⟩

theorem add64 (a : Addr) (x y s : Int) (w : World) (hc : w.cell? a = some (.int .i64 x)) (hz : w.frozen? a = false) (hs : IntKind.i64.wrap (x + y) = s) :
    Calls Try.prog 64 #[.pointer (some a), .int .i64 y] w fun e w' => e = .returned (.int .i64 s) ∧ w' = w.setCell a (.int .i64 s) := by
  have hl := run_call_add (P := Try.prog) Try.func73 (by kernel_rfl) (by kernel_rfl) (by kernel_rfl) .i64 (by kernel_rfl) (y := y) (s := s) hc hz (by simp [go_sem, hs])
  go_enter Try.func64, Try.ntmps64
  go_wp2
  go_ret
  exact ⟨rfl, rfl⟩

theorem last19 (a : Addr) (x : Int) (w : World) (hc : w.cell? a = some (.int .u64 x)) : Calls Try.prog 19 #[.pointer (some a)] w fun e w' => e = .returned (.int .u64 x) ∧ w' = w := by
  have H := Lib.hid (load56 a x w hc)
  clear hc
  go_enter Try.func19, Try.ntmps19
  go_wp2_with fail
  refine H.out.mono ?_; rintro e w' ⟨rfl, rfl⟩
  go_wp2_with fail
  go_ret
  exact ⟨rfl, rfl⟩

theorem last19_nil (w : World) : Calls Try.prog 19 #[.pointer none] w fun e w' => e = .returned (.int .u64 0) ∧ w' = w := by
  go_enter Try.func19, Try.ntmps19
  go_wp2_with fail
  go_ret
  exact ⟨rfl, rfl⟩

theorem next20 (a : Addr) (x s : Int) (w : World) (hc : w.cell? a = some (.int .u64 x)) (hz : w.frozen? a = false) (hs : IntKind.u64.wrap (x + 1) = s) :
    Calls Try.prog 20 #[.pointer (some a)] w fun e w' => e = .returned (.int .u64 s) ∧ w' = w.setCell a (.int .u64 s) := by
  have H := Lib.hid (add57 a x 1 s w hc hz hs)
  clear hc hz hs
  go_enter Try.func20, Try.ntmps20
  go_wp2_with fail
  refine H.out.mono ?_; rintro e w' ⟨rfl, rfl⟩
  go_wp2_with fail
  go_ret
  exact ⟨rfl, rfl⟩

theorem next20_nil (w : World) : Calls Try.prog 20 #[.pointer none] w fun e w' => e = .returned (.int .u64 0) ∧ w' = w := by
  go_enter Try.func20, Try.ntmps20
  go_wp2_with fail
  go_ret
  exact ⟨rfl, rfl⟩

theorem made35_nil (n : Int) (w : World) : Calls Try.prog 35 #[.pointer none, .int .i64 n] w fun e w' => e = .returned (.tuple #[]) ∧ w' = w := by
  go_enter Try.func35, Try.ntmps35
  go_wp2_with fail
  go_end0
  exact ⟨rfl, rfl⟩

theorem made35_no (a : Addr) (n : Int) (w : World) (hn : ¬ 0 < n) : Calls Try.prog 35 #[.pointer (some a), .int .i64 n] w fun e w' => e = .returned (.tuple #[]) ∧ w' = w := by
  have d : decide (0 < n) = false := by simp; omega
  go_enter Try.func35, Try.ntmps35
  go_wp2_with fail
  go_end0
  exact ⟨rfl, rfl⟩

theorem made35_yes (a : Addr) (x n s : Int) (w : World) (hn : 0 < n) (hc : w.cell? a = some (.int .i64 x)) (hz : w.frozen? a = false) (hs : IntKind.i64.wrap (x + n) = s) :
    Calls Try.prog 35 #[.pointer (some a), .int .i64 n] w fun e w' => e = .returned (.tuple #[]) ∧ w' = w.setCell a (.int .i64 s) := by
  have d : decide (0 < n) = true := by simp; omega
  have H := Lib.hid (add64 a x n s w hc hz hs)
  clear hc hz hs hn
  go_enter Try.func35, Try.ntmps35
  go_wp2_with fail
  refine H.out.mono ?_; rintro e w' ⟨rfl, rfl⟩
  go_wp2_with fail
  go_end0
  exact ⟨rfl, rfl⟩

theorem count37 (a : Addr) (x : Int) (w : World) (hc : w.cell? a = some (.int .i64 x)) : Calls Try.prog 37 #[.pointer (some a)] w fun e w' => e = .returned (.int .i64 x) ∧ w' = w := by
  have H := Lib.hid (load65 a x w hc)
  clear hc
  go_enter Try.func37, Try.ntmps37
  go_wp2_with fail
  refine H.out.mono ?_; rintro e w' ⟨rfl, rfl⟩
  go_wp2_with fail
  go_ret
  exact ⟨rfl, rfl⟩

theorem count37_nil (w : World) : Calls Try.prog 37 #[.pointer none] w fun e w' => e = .returned (.int .i64 0) ∧ w' = w := by
  go_enter Try.func37, Try.ntmps37
  go_wp2_with fail
  go_ret
  exact ⟨rfl, rfl⟩

/-- how many since -/
def sinceV (x was : Int) : Int := if x < was then 0 else x - was

theorem since38 (a : Addr) (x was : Int) (w : World) (hc : w.cell? a = some (.int .i64 x)) (hx : 0 ≤ x ∧ x ≤ 2305843009213693952) (hw : -2305843009213693952 ≤ was) :
    Calls Try.prog 38 #[.pointer (some a), .int .i64 was] w fun e w' => e = .returned (.int .i64 (sinceV x was)) ∧ w' = w := by
  have H := Lib.hid (count37 a x w hc)
  clear hc
  by_cases h : x < was
  · have d : decide (x < was) = true := by simp [h]
    have E := Lib.hid (show sinceV x was = 0 by unfold sinceV; rw [if_pos h])
    clear hx hw h
    go_enter Try.func38, Try.ntmps38
    go_wp2_with fail
    refine H.out.mono ?_; rintro e w' ⟨rfl, rfl⟩
    go_wp2_with fail
    go_ret
    exact ⟨ret_int E.out.symm, rfl⟩
  · have d : decide (x < was) = false := by simp; omega
    have E := Lib.hid (show sinceV x was = x - was by unfold sinceV; rw [if_neg h])
    have q : IntKind.i64.wrap (x - was) = x - was := IntWalk.i64_in _ (by omega)
    clear hx hw h
    go_enter Try.func38, Try.ntmps38
    go_wp2_with fail
    refine H.out.mono ?_; rintro e w' ⟨rfl, rfl⟩
    go_wp2_with fail
    go_ret
    exact ⟨ret_int E.out.symm, rfl⟩

theorem since38_nil (was : Int) (w : World) : Calls Try.prog 38 #[.pointer none, .int .i64 was] w fun e w' => e = .returned (.int .i64 0) ∧ w' = w := by
  have H := Lib.hid (count37_nil w)
  go_enter Try.func38, Try.ntmps38
  go_wp2_with fail
  refine H.out.mono ?_; rintro e w' ⟨rfl, rfl⟩
  go_wp2_with fail
  go_ret
  exact ⟨rfl, rfl⟩

theorem rmade36 (x n : Int) (w : World) (hs : 0 < n → IntKind.i64.wrap (x + n) = x + n) :
    Calls Try.prog 36 #[.agg #[.int .i64 x], .int .i64 n] w fun e w' => e = .returned (.agg #[.int .i64 (if 0 < n then x + n else x)]) ∧ Below w.heap.size w w' := by
  by_cases h : 0 < n
  · have d : decide (0 < n) = true := by simp [h]
    have q := hs h
    rw [if_pos h]
    clear hs h
    go_enter Try.func36, Try.ntmps36
    go_wp2
    go_returns
    exact ⟨rfl, ((Below.refl w.heap.size w).alloc (Nat.le_refl _) _).alloc (by rw [World.size_alloc]; omega) _⟩
  · have d : decide (0 < n) = false := by simp; omega
    rw [if_neg h]
    clear hs h
    go_enter Try.func36, Try.ntmps36
    go_wp2
    go_returns
    exact ⟨rfl, ((Below.refl w.heap.size w).alloc (Nat.le_refl _) _).alloc (by rw [World.size_alloc]; omega) _⟩

theorem rsince39 (x was : Int) (w : World) (hx : 0 ≤ x ∧ x ≤ 2305843009213693952) (hw : -2305843009213693952 ≤ was) :
    Calls Try.prog 39 #[.agg #[.int .i64 x], .int .i64 was] w fun e w' => e = .returned (.int .i64 (sinceV x was)) ∧ Below w.heap.size w w' := by
  have HB := Lib.hid (fun o => (Below.refl w.heap.size w).alloc (Nat.le_refl _) o)
  by_cases h : x < was
  · have d : decide (x < was) = true := by simp [h]
    have E := Lib.hid (show sinceV x was = 0 by unfold sinceV; rw [if_pos h])
    clear hx hw h
    go_enter Try.func39, Try.ntmps39
    go_wp2
    go_ret
    exact ⟨ret_int E.out.symm, HB.out _⟩
  · have d : decide (x < was) = false := by simp; omega
    have E := Lib.hid (show sinceV x was = x - was by unfold sinceV; rw [if_neg h])
    have q : IntKind.i64.wrap (x - was) = x - was := IntWalk.i64_in _ (by omega)
    clear hx hw h
    go_enter Try.func39, Try.ntmps39
    go_wp2
    go_ret
    exact ⟨ret_int E.out.symm, HB.out _⟩

end Go.Proofs.Ythohpeinmkdfeaa
