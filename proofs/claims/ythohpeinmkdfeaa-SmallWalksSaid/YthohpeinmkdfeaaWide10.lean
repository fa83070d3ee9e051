/-
  The board: Copy.
-/
import Derived.Test.YthohpeinmkdfeaaWide9
namespace Go.Proofs.Ythohpeinmkdfeaa
open Go.RowKit
set_option linter.unusedVariables false

theorem wpList_store_new {w : World} {ops : Array Oper} {rest : List Oper} {o : Oper} {a : Act} {Q : Exit → Act → World → Prop} (hgd : o.guard = none) (ty : TypeId) (x y : Operand) (ho : o.op = .store ty x y)
    (c c' : Array Value) (hx : a.eval x = .pointer (some ⟨w.heap.size, 0, none⟩)) (hy : a.eval y = .agg c') (hi : (Try.prog.info? ty).map (·.size) = some c'.size) (hs : c.size = c'.size) (h1 : c'.all (·.oneCell') = true)
    (h : wpList Try.prog ops Q rest (a.put o.dst undef) (w.alloc (.cells c' ty))) : wpList Try.prog ops Q (o :: rest) a (w.alloc (.cells c ty)) := by
  refine wpList_plain hgd fun K hK => ?_
  unfold Oper.wp execOp
  simp only [ho, hx, hy, Instr.storeAt, Instr.sureAddr, Sem.run_bind, Sem.run_pure, Result.andThen_ok, run_storeVar_new w ty c c' hi hs h1]
  exact hK _ _ h

theorem size83 : (Try.prog.info? 83).map (·.size) = some 260 := by kernel_rfl

set_option maxRecDepth 100000 in
set_option maxHeartbeats 1600000 in
theorem copy15 (g room n m cx cf base : Nat) (px pf : Option Addr) (xs ys : List Value) (cs : Array Value) (w : World) (hg : w.heap[g]? = some (.cells cs 83 (0, 0))) (hs : cs.size = 260) (hr : w.cell? ⟨g, 0, none⟩ = some (.int .i64 room)) (h0 : 0 < room) (h1 : cs.all (·.oneCell') = true)
    (hx : w.cell? ⟨g, 258, none⟩ = some (.slice px n cx)) (hf : w.cell? ⟨g, 259, none⟩ = some (.slice pf m cf)) (ha : cs[258]? = some (.slice px n cx)) (hb : cs[259]? = some (.slice pf m cf))
    (H54 : Hid (∀ W, Below (w.heap.size + 1) (w.alloc (.cells cs 83)) W → Calls Try.prog 54 #[.slice px n cx] W fun e w' => ∃ q d, e = .returned (.slice q n d) ∧ ClR W w' base 3 q n d xs ∧ Below (w.heap.size + 1) (w.alloc (.cells cs 83)) w'))
    (H55 : Hid (∀ W, Below (w.heap.size + 1) (w.alloc (.cells cs 83)) W → Calls Try.prog 55 #[.slice pf m cf] W fun e w' => ∃ q d, e = .returned (.slice q m d) ∧ ClR W w' base 38 q m d ys ∧ Below (w.heap.size + 1) (w.alloc (.cells cs 83)) w')) :
    Calls Try.prog 15 #[.pointer (some ⟨g, 0, none⟩)] w fun e w' => e = .returned (.pointer (some ⟨w.heap.size, 0, none⟩)) ∧
      ∃ w1 W1 w2 w3 q d q2 d2, w1 = w.alloc (.cells cs 83) ∧ Below (w.heap.size + 1) w1 W1 ∧ ClR W1 w2 base 3 q n d xs ∧ ClR w2 w3 base 38 q2 m d2 ys ∧ Below (w.heap.size + 1) w1 w3 ∧
        w' = (w3.setCell ⟨w.heap.size, 258, none⟩ (.slice q n d)).setCell ⟨w.heap.size, 259, none⟩ (.slice q2 m d2) := by
  have H := Lib.hid (ok52 g room w hr h0)
  have hnot : ∀ (x : Bool) (w : World), (Op.unary .not (.bool x)).run Try.prog w = .ok (.bool (!x)) w := fun _ _ => rfl
  have hi : (Try.prog.info? 83).map (·.size) = some cs.size := by rw [hs]; exact size83
  have HG := Lib.hid hg
  have HI := Lib.hid hi
  have H1 := Lib.hid h1
  have hgl : g < w.heap.size := block_lt_of_cell hx
  have hgn : ¬ g = w.heap.size := by omega
  clear hi hg h1
  go_enter Try.func15, Try.ntmps15
  go_wp2_with fail
  refine H.out.mono ?_; rintro e w' ⟨rfl, rfl⟩
  go_wp2_with (refine wpList_load_row rfl 83 _ (by rfl) g (by rfl) 83 cs (0, 0) _ HG.out Try.underlying83 rfl HI.out ?_; refine stop ?_)
  refine unhid ?_
  go_wp2_with (refine wpList_store_new rfl 83 _ _ (by rfl) Try.zeroCells83 cs (by rfl) (by rfl) HI.out (by rw [hs]; exact zero_size 256 rfl) H1.out ?_; refine stop ?_)
  refine unhid ?_
  obtain ⟨w1, hw1⟩ : ∃ w1, w1 = w'.alloc (.cells cs 83) := ⟨_, rfl⟩
  rw [← hw1] at H54 H55 ⊢
  have c1 : w1.cell? ⟨g, 258, none⟩ = some (.slice px n cx) := by rw [hw1, World.cell?_alloc_past _ _ _ hgl]; exact hx
  have c2 : w1.cell? ⟨g, 259, none⟩ = some (.slice pf m cf) := by rw [hw1, World.cell?_alloc_past _ _ _ hgl]; exact hf
  have k1 : Var w1 w'.heap.size 258 (.slice px n cx) := by rw [hw1]; exact Var.new rfl ha
  have k2 : Var w1 w'.heap.size 259 (.slice pf m cf) := by rw [hw1]; exact Var.new rfl hb
  have hs1 : w'.heap.size + 1 ≤ w1.heap.size := by rw [hw1, World.size_alloc]; omega
  have HW1 := Lib.hid hw1
  have K1 := Lib.hid k1
  have K2 := Lib.hid k2
  clear hw1 k1 k2 hx hf ha hb hr HG
  go_wp2_with fail
  go_region_held3 (fun W => W.cell? ⟨g, 258, none⟩ = some (.slice px n cx) ∧ W.cell? ⟨g, 259, none⟩ = some (.slice pf m cf))
    (first
      | go_keep
      | (exact ⟨(hbA.cell (p := ⟨g, 258, none⟩) (Nat.lt_succ_of_lt hgl)).trans c1, (hbA.cell (p := ⟨g, 259, none⟩) (Nat.lt_succ_of_lt hgl)).trans c2⟩)
      | (exact ⟨(hbB.cell (p := ⟨g, 258, none⟩) (Nat.lt_succ_of_lt hgl)).trans c1, (hbB.cell (p := ⟨g, 259, none⟩) (Nat.lt_succ_of_lt hgl)).trans c2⟩)
      | (exact ⟨set_keep ((hbB.cell (p := ⟨g, 258, none⟩) (Nat.lt_succ_of_lt hgl)).trans c1) hgn, set_keep ((hbB.cell (p := ⟨g, 259, none⟩) (Nat.lt_succ_of_lt hgl)).trans c2) hgn⟩)
      | (exact ⟨set_keep (set_keep ((hbB.cell (p := ⟨g, 258, none⟩) (Nat.lt_succ_of_lt hgl)).trans c1) hgn) hgn, set_keep (set_keep ((hbB.cell (p := ⟨g, 259, none⟩) (Nat.lt_succ_of_lt hgl)).trans c2) hgn) hgn⟩))
    (first
     | (go_at_call 54; refine (H54.out _ (by first | (exact Below.refl _ _) | (exact below_drewN (Below.refl _ _) _))).mono ?_; rintro e w2 ⟨q, d, rfl, hc1, hbA⟩)
     | (go_at_call 55; refine (H55.out _ (by first | (exact hbA) | (exact below_drewN hbA _))).mono ?_; rintro e w3 ⟨q2, d2, rfl, hc2, hbB⟩; have v1 := K1.out.below hbB (Nat.lt_succ_self _); have v2 := K2.out.below hbB (Nat.lt_succ_self _); have x1 := v1.cell; have x2 := v1.free; have x3 := v2.cell; have x4 := v2.free; clear v1 v2))
  go_wp2_with fail
  go_returns
  exact ⟨rfl, w1, w1.drew, w2, w3, q, d, q2, d2, HW1.out, below_drewN (Below.refl _ w1) 1, hc1, hc2, hbB, rfl⟩

end Go.Proofs.Ythohpeinmkdfeaa
