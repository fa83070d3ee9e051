/-
  Small laws on worlds that this seat's texts share.
-/
import Derived.Test.YtenmgjmbiamhcaaRows
import Derived.WalkKit
import Derived.WalkLawsBesides
import Derived.Deep.QuietTactic
import Derived.Deep.RegionHeld3
import Derived.Deep.DrawnRows
import Derived.Deep.AppendLies
import Derived.BigQuiet
import Derived.Below
import Derived.Lib.Hide
import Derived.IntWalk
import Derived.Handy
import Derived.Laws.Pointers
import Derived.Laws.LoneSync
import Derived.Defers
import Derived.Laws.NewBlocks
namespace Go.Proofs.Ytenmgjmbiamhcaa
open Go.RowKit
set_option linter.unusedVariables false

theorem Below.step {w w1 w2 : World} (h : Below w.heap.size w w1) (k : Below w1.heap.size w1 w2) : Below w.heap.size w w2 := h.trans (k.mono h.size)
theorem below_drewN {B : Nat} {a w : World} (h : Below B a w) : ∀ n : Nat, Below B a (w.drewN n)
  | 0 => h
  | n + 1 => (below_drewN h n).drew
theorem ret2 {a b c d : Value} (h : a = c) (k : b = d) : Ending.returned (.tuple #[a, b]) = .returned (.tuple #[c, d]) := by rw [h, k]
theorem vint {k : IntKind} {a b : Int} (h : a = b) : Value.int k a = .int k b := by rw [h]
theorem ret_int {k : IntKind} {a b : Int} (h : a = b) : Ending.returned (.int k a) = .returned (.int k b) := by rw [h]
theorem stop {p : Prop} (h : Hid p) : p := h
theorem unhid {p : Prop} (h : p) : Hid p := h

/-- a cell that may be written, and what it holds -/
structure Var (w : World) (b j : Nat) (v : Value) : Prop where
  cell : w.cell? ⟨b, j, none⟩ = some v
  free : w.frozen? ⟨b, j, none⟩ = false

theorem Var.lt {w : World} {b j : Nat} {v : Value} (h : Var w b j v) : b < w.heap.size := block_lt_of_cell h.cell
theorem Var.new {w : World} {c : Array Value} {t : TypeId} {b j : Nat} {v : Value} (hb : b = w.heap.size) (h : c[j]? = some v) : Var (w.alloc (.cells c t)) b j v :=
  ⟨by rw [World.cell?_alloc_at _ _ _ _ hb]; exact h, World.frozen?_alloc_at _ _ _ _ hb⟩
theorem Var.alloc {w : World} {b j : Nat} {v : Value} (h : Var w b j v) (o : Obj) : Var (w.alloc o) b j v :=
  ⟨by rw [World.cell?_alloc_past _ _ _ h.lt]; exact h.cell, by rw [World.frozen?_alloc_past _ _ _ h.lt]; exact h.free⟩
theorem Var.drewN {w : World} {b j : Nat} {v : Value} (h : Var w b j v) (z : Nat) : Var (w.drewN z) b j v := ⟨h.cell, h.free⟩
theorem Var.set {w : World} {b j : Nat} {v u : Value} (h : Var w b j v) : Var (w.setCell ⟨b, j, none⟩ u) b j u :=
  ⟨World.cell?_setCell_same _ _ _ h.cell, by have := h.free; simpa using this⟩
theorem Var.off {w : World} {b i j : Nat} {v u : Value} (h : Var w b i v) (hij : ¬ i = j) : Var (w.setCell ⟨b, j, none⟩ u) b i v :=
  ⟨by rw [World.cell?_setCell_other _ _ _ _ (fun e => hij (by cases e; rfl))]; exact h.cell, by have := h.free; simpa using this⟩
theorem Var.other {w : World} {b i : Nat} {v u : Value} {a : Addr} (h : Var w b i v) (hb : ¬ b = a.block) : Var (w.setCell a u) b i v :=
  ⟨by rw [World.cell?_setCell_other _ _ _ _ (fun e => hb (by rw [e]))]; exact h.cell, by have := h.free; simpa using this⟩
theorem Var.below {w w' : World} {B b j : Nat} {v : Value} (h : Var w b j v) (hb : Below B w w') (hB : b < B) : Var w' b j v :=
  ⟨by rw [hb.cell (p := ⟨b, j, none⟩) hB]; exact h.cell, by rw [hb.frozen (p := ⟨b, j, none⟩) hB]; exact h.free⟩
theorem Var.step {w w' : World} {b j : Nat} {v : Value} (h : Var w b j v) (hb : Below w.heap.size w w') : Var w' b j v := h.below hb h.lt

end Go.Proofs.Ytenmgjmbiamhcaa
