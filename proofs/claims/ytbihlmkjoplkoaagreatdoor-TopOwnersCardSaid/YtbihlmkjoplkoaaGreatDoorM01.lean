/-
  For the statement TopOwners: Small laws on worlds that this seat's texts share; Small laws on worlds that differ in some blocks alone; Things that stand by bytes: pointers to nodes.
-/
import Derived.Test.YtbihlmkjoplkoaaGreatDoorRows
import Derived.WalkKit
import Derived.WalkLawsBesides
import Derived.Deep.QuietTactic
import Derived.Deep.RegionHeld3
import Derived.Deep.DrawnRows
import Derived.Deep.AppendLies
import Derived.BigQuiet
import Derived.Below
import Derived.Lib.Hide
import Derived.IntWalk
import Derived.Handy
import Derived.Laws.Pointers
import Derived.Laws.LoneSync
import Derived.Defers
import Derived.Laws.NewBlocks
import Derived.Laws.AppendOwn
import Derived.OwnWalk
/-
  Small laws on worlds that this seat's texts share.
-/
namespace Go.Proofs.YtbihlmkjoplkoaaGreatDoor
open Go.RowKit
set_option linter.unusedVariables false

theorem Below.step {w w1 w2 : World} (h : Below w.heap.size w w1) (k : Below w1.heap.size w1 w2) : Below w.heap.size w w2 := h.trans (k.mono h.size)
theorem below_drewN {B : Nat} {a w : World} (h : Below B a w) : ∀ n : Nat, Below B a (w.drewN n)
  | 0 => h
  | n + 1 => (below_drewN h n).drew
theorem ret2 {a b c d : Value} (h : a = c) (k : b = d) : Ending.returned (.tuple #[a, b]) = .returned (.tuple #[c, d]) := by rw [h, k]
theorem vint {k : IntKind} {a b : Int} (h : a = b) : Value.int k a = .int k b := by rw [h]
theorem ret_int {k : IntKind} {a b : Int} (h : a = b) : Ending.returned (.int k a) = .returned (.int k b) := by rw [h]
theorem stop {p : Prop} (h : Hid p) : p := h
theorem unhid {p : Prop} (h : p) : Hid p := h

/-- a cell that may be written, and what it holds -/
structure Var (w : World) (b j : Nat) (v : Value) : Prop where
  cell : w.cell? ⟨b, j, none⟩ = some v
  free : w.frozen? ⟨b, j, none⟩ = false

theorem Var.lt {w : World} {b j : Nat} {v : Value} (h : Var w b j v) : b < w.heap.size := block_lt_of_cell h.cell
theorem Var.new {w : World} {c : Array Value} {t : TypeId} {b j : Nat} {v : Value} (hb : b = w.heap.size) (h : c[j]? = some v) : Var (w.alloc (.cells c t)) b j v :=
  ⟨by rw [World.cell?_alloc_at _ _ _ _ hb]; exact h, World.frozen?_alloc_at _ _ _ _ hb⟩
theorem Var.alloc {w : World} {b j : Nat} {v : Value} (h : Var w b j v) (o : Obj) : Var (w.alloc o) b j v :=
  ⟨by rw [World.cell?_alloc_past _ _ _ h.lt]; exact h.cell, by rw [World.frozen?_alloc_past _ _ _ h.lt]; exact h.free⟩
theorem Var.drewN {w : World} {b j : Nat} {v : Value} (h : Var w b j v) (z : Nat) : Var (w.drewN z) b j v := ⟨h.cell, h.free⟩
theorem Var.set {w : World} {b j : Nat} {v u : Value} (h : Var w b j v) : Var (w.setCell ⟨b, j, none⟩ u) b j u :=
  ⟨World.cell?_setCell_same _ _ _ h.cell, by have := h.free; simpa using this⟩
theorem Var.off {w : World} {b i j : Nat} {v u : Value} (h : Var w b i v) (hij : ¬ i = j) : Var (w.setCell ⟨b, j, none⟩ u) b i v :=
  ⟨by rw [World.cell?_setCell_other _ _ _ _ (fun e => hij (by cases e; rfl))]; exact h.cell, by have := h.free; simpa using this⟩
theorem Var.other {w : World} {b i : Nat} {v u : Value} {a : Addr} (h : Var w b i v) (hb : ¬ b = a.block) : Var (w.setCell a u) b i v :=
  ⟨by rw [World.cell?_setCell_other _ _ _ _ (fun e => hb (by rw [e]))]; exact h.cell, by have := h.free; simpa using this⟩
theorem Var.below {w w' : World} {B b j : Nat} {v : Value} (h : Var w b j v) (hb : Below B w w') (hB : b < B) : Var w' b j v :=
  ⟨by rw [hb.cell (p := ⟨b, j, none⟩) hB]; exact h.cell, by rw [hb.frozen (p := ⟨b, j, none⟩) hB]; exact h.free⟩
theorem Var.step {w w' : World} {b j : Nat} {v : Value} (h : Var w b j v) (hb : Below w.heap.size w w') : Var w' b j v := h.below hb h.lt

end Go.Proofs.YtbihlmkjoplkoaaGreatDoor
/-
  Small laws on worlds that differ in some blocks alone.
-/
namespace Go.Proofs.YtbihlmkjoplkoaaGreatDoor
open Go.RowKit
set_option linter.unusedVariables false

/-- all memory but some blocks is as it was -/
structure Exc (S : List Nat) (w w' : World) : Prop where
  os : w'.os = w.os
  tape : w'.tape = w.tape
  output : w'.output = w.output
  size : w.heap.size ≤ w'.heap.size
  block : ∀ k, k < w.heap.size → k ∉ S → w'.heap[k]? = w.heap[k]?

theorem Exc.refl (S : List Nat) (w : World) : Exc S w w := ⟨rfl, rfl, rfl, Nat.le_refl _, fun _ _ _ => rfl⟩
theorem Exc.trans {S : List Nat} {a b c : World} (h : Exc S a b) (k : Exc S b c) : Exc S a c :=
  ⟨k.os.trans h.os, k.tape.trans h.tape, k.output.trans h.output, Nat.le_trans h.size k.size, fun i hi hs => (k.block i (Nat.lt_of_lt_of_le hi h.size) hs).trans (h.block i hi hs)⟩
theorem Exc.wide {S T : List Nat} {a b : World} (h : Exc S a b) (hs : ∀ x ∈ S, x ∈ T) : Exc T a b := ⟨h.os, h.tape, h.output, h.size, fun i hi ht => h.block i hi (fun x => ht (hs i x))⟩
theorem Exc.drewN {S : List Nat} {a b : World} (h : Exc S a b) (z : Nat) : Exc S a (b.drewN z) := ⟨h.os, h.tape, h.output, h.size, h.block⟩
theorem Exc.alloc {S : List Nat} {a b : World} (h : Exc S a b) (o : Obj) : Exc S a (b.alloc o) :=
  ⟨h.os, h.tape, h.output, by rw [World.size_alloc]; have := h.size; omega, fun i hi ht => by rw [Below.heap_alloc _ _ _ (Nat.lt_of_lt_of_le hi h.size)]; exact h.block i hi ht⟩
theorem Exc.set {S : List Nat} {a b : World} (h : Exc S a b) {p : Addr} (hp : p.block ∈ S) (u : Value) : Exc S a (b.setCell p u) := by
  have e := (Below.refl 0 b).setCell (p := p) (Nat.zero_le _) u
  exact ⟨e.os.trans h.os, e.tape.trans h.tape, e.output.trans h.output, Nat.le_trans h.size e.size, fun i hi ht => by
    rw [Below.heap_setCell _ _ _ _ (fun x => ht (by rw [x]; exact hp))]; exact h.block i hi ht⟩
theorem Exc.below {S : List Nat} {a w w' : World} {B : Nat} (h : Exc S w w') (k : Below B a w) (hS : ∀ x ∈ S, B ≤ x) (hB : B ≤ w.heap.size) : Below B a w' :=
  ⟨h.os.trans k.os, h.tape.trans k.tape, h.output.trans k.output, Nat.le_trans k.size h.size, fun i hi => (h.block i (Nat.lt_of_lt_of_le hi hB) (fun x => by have := hS i x; omega)).trans (k.block i hi)⟩
theorem Exc.cell {S : List Nat} {w w' : World} (h : Exc S w w') {p : Addr} {v : Value} (hc : w.cell? p = some v) (hp : p.block ∉ S) : w'.cell? p = some v := by
  rw [World.cell?_of_block (w := w) (h.block p.block (block_lt_of_cell hc) hp)]; exact hc
theorem Exc.frozen {S : List Nat} {w w' : World} (h : Exc S w w') {p : Addr} {v : Value} (hc : w.cell? p = some v) (hz : w.frozen? p = false) (hp : p.block ∉ S) : w'.frozen? p = false := by
  rw [World.frozen?_of_block (w := w) (h.block p.block (block_lt_of_cell hc) hp)]; exact hz
theorem Exc.var {S : List Nat} {w w' : World} {b j : Nat} {v : Value} (h : Exc S w w') (k : Var w b j v) (hb : b ∉ S) : Var w' b j v := ⟨h.cell k.cell hb, h.frozen k.cell k.free hb⟩
theorem Exc.ofBelow {w w' : World} (h : Below w.heap.size w w') (S : List Nat) : Exc S w w' := ⟨h.os, h.tape, h.output, h.size, fun i hi _ => h.block i hi⟩

theorem set_keep {w : World} {p a : Addr} {v u : Value} (h : w.cell? p = some v) (hp : ¬ p.block = a.block) : (w.setCell a u).cell? p = some v := by
  rw [World.cell?_setCell_other _ _ _ _ (fun e => hp (by rw [e]))]; exact h
theorem set_off {w : World} {b i j : Nat} {v u : Value} (h : w.cell? ⟨b, i, none⟩ = some v) (hp : ¬ i = j) : (w.setCell ⟨b, j, none⟩ u).cell? ⟨b, i, none⟩ = some v := by
  rw [World.cell?_setCell_other _ _ _ _ (fun e => hp (by cases e; rfl))]; exact h
theorem set_same {w : World} {a : Addr} {v u : Value} (h : w.cell? a = some v) : (w.setCell a u).cell? a = some u := World.cell?_setCell_same _ _ _ h

theorem own_block {w w' : World} {base : Nat} {e : TypeId} {size : Nat} {v : Value} {n : Nat} {xs : List Value} (h : w.ownsRow base e size v n xs) (k : ∀ g, v.ownBlock = some g → w'.heap[g]? = w.heap[g]?) : w'.ownsRow base e size v n xs := by
  refine ⟨h.1, ?_⟩
  rcases h.2 with hn | ⟨g, cap, cur, hv, hb, hg, rest⟩
  · exact .inl hn
  · exact .inr ⟨g, cap, cur, hv, hb, by rw [k g (by rw [hv]; rfl)]; exact hg, rest⟩
theorem own_set {w : World} {base : Nat} {e : TypeId} {size : Nat} {v : Value} {n : Nat} {xs : List Value} (h : w.ownsRow base e size v n xs) {a : Addr} {u : Value} (k : v.ownBlock ≠ some a.block) : (w.setCell a u).ownsRow base e size v n xs :=
  own_block h fun g hg => heap_setCell_other _ _ _ _ (fun e => k (by rw [hg, e]))
theorem own_exc {w w' : World} {S : List Nat} {base : Nat} {e : TypeId} {size : Nat} {v : Value} {n : Nat} {xs : List Value} (h : w.ownsRow base e size v n xs) (k : Exc S w w') (hS : ∀ g, v.ownBlock = some g → g ∉ S) : w'.ownsRow base e size v n xs :=
  own_block h fun g hg => by
    rcases h.2 with ⟨hn, _⟩ | ⟨g', cap, cur, hv, hb, hh, _⟩
    · rw [hn] at hg; cases hg
    · rw [hv] at hg
      have : g' = g := by simpa [Value.ownBlock] using hg
      subst this
      refine k.block g' ?_ (hS g' (by rw [hv]; rfl))
      by_cases hlt : g' < w.heap.size
      · exact hlt
      · have : w.heap[g']? = none := by simp; omega
        rw [this] at hh; cases hh
theorem own_lt {w : World} {base : Nat} {e : TypeId} {size : Nat} {v : Value} {n : Nat} {xs : List Value} (h : w.ownsRow base e size v n xs) : ∀ g, v.ownBlock = some g → base ≤ g ∧ g < w.heap.size := fun g hg => by
  rcases h.2 with ⟨hn, _⟩ | ⟨g', cap, cur, hv, hb, hh, _⟩
  · rw [hn] at hg; cases hg
  · rw [hv] at hg
    have : g' = g := by simpa [Value.ownBlock] using hg
    subst this
    refine ⟨hb, ?_⟩
    by_cases hlt : g' < w.heap.size
    · exact hlt
    · have : w.heap[g']? = none := by simp; omega
      rw [this] at hh; cases hh

end Go.Proofs.YtbihlmkjoplkoaaGreatDoor
/-
  Things that stand by bytes: pointers to nodes.
-/
namespace Go.Proofs.YtbihlmkjoplkoaaGreatDoor
/-- a thing: a pointer to a node, or none -/
abbrev Th := Option Addr
end Go.Proofs.YtbihlmkjoplkoaaGreatDoor
