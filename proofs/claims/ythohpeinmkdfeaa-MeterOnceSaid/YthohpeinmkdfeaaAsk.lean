/-
  What MeterOnce asks: its closure, and the document's Get.
-/
import Derived.Test.YthohpeinmkdfeaaLaw08c
namespace Go.Proofs.Ythohpeinmkdfeaa
open Go.RowKit
set_option linter.unusedVariables false

theorem ask23 (ba bn : Nat) (x z s : Int) (w : World) (ha : Var w ba 0 (.int .i64 x)) (hn : w.cell? ⟨bn, 0, none⟩ = some (.int .i32 z)) (hab : ¬ bn = ba) (hs : IntKind.i64.wrap (x + 1) = s) (hz : IntKind.i64.wrap z = z) :
    Calls Try.prog 23 #[.pointer (some ⟨ba, 0, none⟩), .pointer (some ⟨bn, 0, none⟩)] w fun e w' => e = .returned (.int .i64 z) ∧ w' = w.setCell ⟨ba, 0, none⟩ (.int .i64 s) := by
  have g := ha.cell
  have gf := ha.free
  have g2 : (w.setCell ⟨ba, 0, none⟩ (.int .i64 s)).cell? ⟨bn, 0, none⟩ = some (.int .i32 z) := set_keep hn hab
  clear ha
  go_enter Try.func23, Try.ntmps23
  go_wp2
  go_ret
  exact ⟨rfl, rfl⟩

set_option maxHeartbeats 800000 in
theorem rget24_no (n m : Int) (w : World) :
    Calls Try.prog 24 #[.agg #[.int .i64 n, .bool false], .int .i64 m] w fun e w' => e = .returned (.tuple #[.agg #[.int .i64 m, .bool true], .int .i64 m, .bool true]) ∧ Below w.heap.size w w' := by
  have HB := Lib.hid (fun o o' => ((Below.refl w.heap.size w).alloc (Nat.le_refl _) o).alloc (by rw [World.size_alloc]; omega) o')
  go_enter Try.func24, Try.ntmps24
  go_wp2
  go_returns
  exact ⟨rfl, HB.out _ _⟩

set_option maxHeartbeats 800000 in
theorem rget24_yes (n m : Int) (w : World) :
    Calls Try.prog 24 #[.agg #[.int .i64 n, .bool true], .int .i64 m] w fun e w' => e = .returned (.tuple #[.agg #[.int .i64 n, .bool true], .int .i64 n, .bool false]) ∧ Below w.heap.size w w' := by
  have HB := Lib.hid (fun o o' => ((Below.refl w.heap.size w).alloc (Nat.le_refl _) o).alloc (by rw [World.size_alloc]; omega) o')
  go_enter Try.func24, Try.ntmps24
  go_wp2
  go_region_held3 (fun w' => w'.cell? ⟨w.heap.size, 0, none⟩ = some (.int .i64 n) ∧ w'.cell? ⟨w.heap.size, 1, none⟩ = some (.bool true)) (first | go_keep | (constructor <;> (simp; done))) (fail)
  all_goals
    go_wp2
    go_returns
    exact ⟨rfl, below_drewN (HB.out _ _) _⟩

end Go.Proofs.Ythohpeinmkdfeaa
