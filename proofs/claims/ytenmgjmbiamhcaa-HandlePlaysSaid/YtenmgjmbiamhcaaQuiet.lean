/-
  Quiet operations of a region that draws its order, over any class of worlds.
-/
import Derived.Test.YtenmgjmbiamhcaaTab1
import Derived.Deep.QuietTactic
namespace Go.Proofs.Ytenmgjmbiamhcaa
open Go.RowKit
set_option linter.unusedVariables false

section
variable {P : Program} {ops : Array Oper} {C : World → Prop} {o : Oper} {a : Act} {K : Act → Prop}

theorem quiet_load (hw : Region.wanted o (yielded ops a.tmps) = true) (ty : TypeId) (x : Operand) (ho : o.op = .load ty x) (p : Addr) (hx : a.eval x = .pointer (some p)) (v : Value)
    (hL : ∀ W, C W → (loadVar ty p).run P W = .ok v W)
    (h : K (a.put o.dst v)) : if Region.wanted o (yielded ops a.tmps) = true then o.quiet P a C K else K (a.put o.dst undef) := by
  rw [if_pos hw]
  refine ⟨v, fun W hW => ?_, h⟩
  unfold Oper.quietAt execOp
  simp only [ho, hx, Instr.loadAt, Instr.sureAddr, Sem.run_bind, Sem.run_pure, Result.andThen_ok, hL W hW]
  exact ⟨rfl, rfl⟩

theorem quiet_pure (hw : Region.wanted o (yielded ops a.tmps) = true) (v : Value) (hP : ∀ W, (execOp a.eval o).run P W = .ok (.value v) W)
    (h : K (a.put o.dst v)) : if Region.wanted o (yielded ops a.tmps) = true then o.quiet P a C K else K (a.put o.dst undef) := by
  rw [if_pos hw]
  refine ⟨v, fun W hW => ?_, h⟩
  unfold Oper.quietAt
  rw [hP W]
  exact ⟨rfl, rfl⟩

theorem quiet_skip (hw : Region.wanted o (yielded ops a.tmps) = false) (h : K (a.put o.dst undef)) : if Region.wanted o (yielded ops a.tmps) = true then o.quiet P a C K else K (a.put o.dst undef) := by
  rw [if_neg (by rw [hw]; simp)]
  exact h

theorem quiet_call (hw : Region.wanted o (yielded ops a.tmps) = true) (f : FuncId) (args : Array Value) (hE : ∀ W, (execOp a.eval o).run P W = .ok (.enter f args) W) (v : Value)
    (hC : ∀ W, C W → Calls P f args W fun e w' => e = .returned v ∧ C w') (h : K (a.put o.dst v)) : if Region.wanted o (yielded ops a.tmps) = true then o.quiet P a C K else K (a.put o.dst undef) := by
  rw [if_pos hw]
  refine ⟨v, fun W hW => ?_, h⟩
  unfold Oper.quietAt
  rw [hE W]
  exact ⟨rfl, hC W hW⟩

theorem quiet_len (hw : Region.wanted o (yielded ops a.tmps) = true) (m : Operand) (t : TypeId) (ho : o.op = Op.call { callee := Callee.builtin Builtin.len, args := #[m], argTypes := #[t] }) (mv v : Value) (hm : a.eval m = mv)
    (hL : ∀ W ty, C W → (Builtin.len_ #[t] ty #[mv]).run P W = .ok v W)
    (h : K (a.put o.dst v)) : if Region.wanted o (yielded ops a.tmps) = true then o.quiet P a C K else K (a.put o.dst undef) := by
  rw [if_pos hw]
  refine ⟨v, fun W hW => ?_, h⟩
  unfold Oper.quietAt
  simp [execOp, ho, resolve, invoke, builtin, hm, hL W _ hW, Result.andThen]
  exact ⟨rfl, rfl⟩

theorem loadVar_cell {ty : TypeId} {p : Addr} {v : Value} {W : World} (hA : (isAgg ty).run P W = .ok false W) (hC : W.cell? p = some v) : (loadVar ty p).run P W = .ok v W := by
  simp [loadVar, Sem.run_bind, hA]
  rw [hC]
end

theorem region_quiet {P : Program} {C : World → Prop} {id : Nat} {Q : Exit → Act → World → Prop} {a : Act} {w : World} {l : List Oper} (hm : P.follows .mixedOrders = true) (hB : Region.lexB .any l.toArray = true) (hC : C w.drew)
    (h : wpQuiet P l.toArray C (fun a' => ∀ w', C w' → Q .normal a' w') l a) : (Code.region id l.toArray true).wp P Q a w :=
  wp_region_quiet (C := C) hm hB hC (by simpa using h)

end Go.Proofs.Ytenmgjmbiamhcaa
