/-
  The document's row by value: Set, New; laws on quiet operations.
-/
import Derived.Test.YthohpeinmkdfeaaRef
import Derived.Deep.QuietTactic
import Derived.Deep.DrawnRows
namespace Go.Proofs.Ythohpeinmkdfeaa
open Go.RowKit
set_option linter.unusedVariables false

section
variable {P : Program} {ops : Array Oper} {C : World → Prop} {o : Oper} {a : Act} {K : Act → Prop}

theorem quiet_load (hw : Region.wanted o (yielded ops a.tmps) = true) (ty : TypeId) (x : Operand) (ho : o.op = .load ty x) (p : Addr) (hx : a.eval x = .pointer (some p)) (v : Value)
    (hL : ∀ W, C W → (loadVar ty p).run P W = .ok v W)
    (h : K (a.put o.dst v)) : if Region.wanted o (yielded ops a.tmps) = true then o.quiet P a C K else K (a.put o.dst undef) := by
  rw [if_pos hw]
  refine ⟨v, fun W hW => ?_, h⟩
  unfold Oper.quietAt execOp
  simp only [ho, hx, Instr.loadAt, Instr.sureAddr, Sem.run_bind, Sem.run_pure, Result.andThen_ok, hL W hW]
  exact ⟨rfl, rfl⟩

theorem quiet_pure (hw : Region.wanted o (yielded ops a.tmps) = true) (v : Value) (hP : ∀ W, (execOp a.eval o).run P W = .ok (.value v) W)
    (h : K (a.put o.dst v)) : if Region.wanted o (yielded ops a.tmps) = true then o.quiet P a C K else K (a.put o.dst undef) := by
  rw [if_pos hw]
  refine ⟨v, fun W hW => ?_, h⟩
  unfold Oper.quietAt
  rw [hP W]
  exact ⟨rfl, rfl⟩

theorem quiet_skip (hw : Region.wanted o (yielded ops a.tmps) = false) (h : K (a.put o.dst undef)) : if Region.wanted o (yielded ops a.tmps) = true then o.quiet P a C K else K (a.put o.dst undef) := by
  rw [if_neg (by rw [hw]; simp)]
  exact h

theorem quiet_call (hw : Region.wanted o (yielded ops a.tmps) = true) (f : FuncId) (args : Array Value) (hE : ∀ W, (execOp a.eval o).run P W = .ok (.enter f args) W) (v : Value)
    (hC : ∀ W, C W → Calls P f args W fun e w' => e = .returned v ∧ C w') (h : K (a.put o.dst v)) : if Region.wanted o (yielded ops a.tmps) = true then o.quiet P a C K else K (a.put o.dst undef) := by
  rw [if_pos hw]
  refine ⟨v, fun W hW => ?_, h⟩
  unfold Oper.quietAt
  rw [hE W]
  exact ⟨rfl, hC W hW⟩

theorem loadVar_cell {ty : TypeId} {p : Addr} {v : Value} {W : World} (hA : (isAgg ty).run P W = .ok false W) (hC : W.cell? p = some v) : (loadVar ty p).run P W = .ok v W := by
  simp [loadVar, Sem.run_bind, hA]
  rw [hC]
end

theorem loadVar72 {W : World} {g : Nat} {cs : Array Value} (hg : W.heap[g]? = some (.cells cs 72 (0, 0))) (hs : cs.size = 513) : (loadVar 72 ⟨g, 0, none⟩).run Try.prog W = .ok (.agg cs) W :=
  run_loadVar_row W g 72 72 cs (0, 0) _ hg Try.underlying72 rfl (by rw [hs]; exact size72)

theorem region_quiet {P : Program} {C : World → Prop} {id : Nat} {Q : Exit → Act → World → Prop} {a : Act} {w : World} {l : List Oper} (hm : P.follows .mixedOrders = true) (hB : Region.lexB .any l.toArray = true) (hC : C w.drew)
    (h : wpQuiet P l.toArray C (fun a' => ∀ w', C w' → Q .normal a' w') l a) : (Code.region id l.toArray true).wp P Q a w :=
  wp_region_quiet (C := C) hm hB hC (by simpa using h)

/-- the row lies where it lay -/
structure Row2 (w W W' : World) : Prop where
  below : Below W.heap.size W W'
theorem Row2.same {w W W' : World} (h : Row2 w W W') (k : Nat) (hk : k < W.heap.size) : W'.heap[k]? = W.heap[k]? := h.below.block k hk
theorem Row2.alloc {w W W' : World} (h : Row2 w W W') (o : Obj) : Row2 w W (W'.alloc o) := ⟨h.below.alloc h.below.size o⟩

set_option maxRecDepth 100000 in
set_option maxHeartbeats 1600000 in
theorem set29_full (cs : Array Value) (room : Int) (f : Nat → Option Int) (b : Nat) (x : Int) (w : World) (h : Rf cs room f) (hb : b < 256) (hf : (f b).isSome = false) (hn : (cntF f : Int) = room) :
    Calls Try.prog 29 #[.agg cs, .int .u8 b, .int .i64 x] w (OutRow w room f 10) := by
  have q0 : IntKind.i64.wrap (b : Int) = (b : Int) := IntWalk.i64_in _ (by omega)
  have b0 : (0 : Int) ≤ (b : Int) := by omega
  have b1 : (b : Int) < 256 := by omega
  have q5 : ((cntF f : Int) == room) = true := by simp [hn]
  obtain ⟨W, hW⟩ : ∃ W, W = (w.alloc (.cells cs 72)).alloc (.cells Try.zeroCells72 72) := ⟨_, rfl⟩
  have s1 : (w.alloc (.cells cs 72)).heap.size = w.heap.size + 1 := World.size_alloc _ _
  have sW : W.heap.size = w.heap.size + 2 := by rw [hW, World.size_alloc, s1]
  have g1 : W.heap[w.heap.size]? = some (.cells cs 72 (0, 0)) := by rw [hW]; exact heap_alloc2_old _ _ _
  have g2 : W.heap[w.heap.size + 1]? = some (.cells Try.zeroCells72 72 (0, 0)) := by rw [hW]; exact heap_alloc2_new _ _ _
  have hB : Below w.heap.size w W := by rw [hW]; exact ((Below.refl _ _).alloc (Nat.le_refl _) _).alloc (by omega) _
  have hi : (Try.prog.info? 72).map (·.size) = some cs.size := by rw [h.size]; exact size72
  have H := Lib.hid h
  have HG1 := Lib.hid g1
  have HG2 := Lib.hid g2
  have HB := Lib.hid hB
  have HI := Lib.hid hi
  have HW := Lib.hid hW
  have HF := Lib.hid hf
  have HN := Lib.hid hn
  have SW := Lib.hid sW
  clear h g1 g2 hB hi hW s1 hf hn sW
  go_enter Try.func29, Try.ntmps29
  go_wp2_with (rw [← HW.out])
  refine region_quiet (C := Row2 w W) (by kernel_rfl) (by kernel_rfl) ⟨⟨rfl, rfl, rfl, Nat.le_refl _, fun _ _ => rfl⟩⟩ ?_
  repeat (
    refine wpQuiet_step (fun K hK => ?_)
    first
    | (refine quiet_load (by rfl) 72 _ (by rfl) ⟨w.heap.size, 0, none⟩ (by rfl) (.agg cs) (fun W' hC => loadVar72 ((hC.same w.heap.size (by rw [SW.out]; omega)).trans HG1.out) H.out.size) ?_
       refine hK _ ?_; clear hK K)
    | (refine quiet_load (by rfl) 4 _ (by rfl) ⟨w.heap.size, 1 + b, none⟩ (by rfl) (.bool (f b).isSome) (fun W' hC => loadVar_cell (Try.isAgg4 _) ((cell_of_row _ _ _ _ _ _ ((hC.same w.heap.size (by rw [SW.out]; omega)).trans HG1.out)).trans (H.out.has b hb))) ?_
       rw [HF.out]
       refine hK _ ?_; clear hK K)
    | (refine quiet_load (by rfl) 3 _ (by rfl) ⟨w.heap.size, 0, none⟩ (by rfl) (.int .i64 room) (fun W' hC => loadVar_cell (Try.isAgg3 _) ((cell_of_row _ _ _ _ _ _ ((hC.same w.heap.size (by rw [SW.out]; omega)).trans HG1.out)).trans H.out.room)) ?_
       refine hK _ ?_; clear hK K)
    | (refine quiet_skip (by rfl) ?_
       refine hK _ ?_; clear hK K)
    | (refine quiet_call (by rfl) 61 #[.agg cs] ?_ (.int .i64 (cntF f)) (fun W' hC => (len61 cs room f W' H.out).mono ?_) ?_
       · (intro W'; go_simp)
       · rintro e w' ⟨he, hw⟩; exact ⟨he, hw ▸ hC.alloc _⟩
       refine hK _ ?_; clear hK K)
    | (refine quiet_pure (v := ?_) (by rfl) ?_ ?_
       rotate_left
       focus (intro W'; go_simp; try (with_reducible rfl))
       refine hK _ ?_; clear hK K)
    try simp only [Act.put, List.setIfInBounds_toArray, List.set_cons_zero, List.set_cons_succ])
  refine wpQuiet_nil ?_
  intro W2 hC
  have e1 : W2.heap[w.heap.size]? = some (.cells cs 72 (0, 0)) := (hC.same w.heap.size (by rw [SW.out]; omega)).trans HG1.out
  have e2 : W2.heap[w.heap.size + 1]? = some (.cells Try.zeroCells72 72 (0, 0)) := (hC.same (w.heap.size + 1) (by rw [SW.out]; omega)).trans HG2.out
  have hB2 : Below w.heap.size w W2 := Below.step HB.out (hC.below)
  have HE1 := Lib.hid e1
  have HE2 := Lib.hid e2
  have HB2 := Lib.hid hB2
  clear e1 e2 hB2 hC HW
  go_wp2_with (refine wpList_load_row rfl 72 _ (by rfl) w.heap.size (by rfl) 72 cs (0, 0) _ HE1.out Try.underlying72 rfl HI.out ?_; refine stop ?_)
  refine unhid ?_
  go_wp2_with (refine wpList_store_row rfl 72 _ _ (by rfl) (w.heap.size + 1) cs (by rfl) (by rfl) 72 Try.zeroCells72 HE2.out HI.out (zsize72.trans H.out.size.symm) H.out.one ?_; refine stop ?_)
  refine unhid ?_
  go_wp2_with fail
  exact OutRow.ret rfl rfl rfl rfl (setRow_heap _ _ _ cs _ _ HE2.out) H.out (Below.setRow HB2.out (by omega) _)

set_option maxRecDepth 100000 in
set_option maxHeartbeats 1600000 in
theorem set29_new (cs : Array Value) (room : Int) (f : Nat → Option Int) (b : Nat) (x : Int) (w : World) (h : Rf cs room f) (hb : b < 256) (hf : (f b).isSome = false) (hn : ¬ (cntF f : Int) = room) :
    Calls Try.prog 29 #[.agg cs, .int .u8 b, .int .i64 x] w (OutRow w room (updF f b (some x)) 0) := by
  have q0 : IntKind.i64.wrap (b : Int) = (b : Int) := IntWalk.i64_in _ (by omega)
  have b0 : (0 : Int) ≤ (b : Int) := by omega
  have b1 : (b : Int) < 256 := by omega
  have q5 : ((cntF f : Int) == room) = false := by simp [hn]
  obtain ⟨W, hW⟩ : ∃ W, W = (w.alloc (.cells cs 72)).alloc (.cells Try.zeroCells72 72) := ⟨_, rfl⟩
  have s1 : (w.alloc (.cells cs 72)).heap.size = w.heap.size + 1 := World.size_alloc _ _
  have sW : W.heap.size = w.heap.size + 2 := by rw [hW, World.size_alloc, s1]
  have g1 : W.heap[w.heap.size]? = some (.cells cs 72 (0, 0)) := by rw [hW]; exact heap_alloc2_old _ _ _
  have g2 : W.heap[w.heap.size + 1]? = some (.cells Try.zeroCells72 72 (0, 0)) := by rw [hW]; exact heap_alloc2_new _ _ _
  have hB : Below w.heap.size w W := by rw [hW]; exact ((Below.refl _ _).alloc (Nat.le_refl _) _).alloc (by omega) _
  have hi : (Try.prog.info? 72).map (·.size) = some cs.size := by rw [h.size]; exact size72
  have H := Lib.hid h
  have HG1 := Lib.hid g1
  have HG2 := Lib.hid g2
  have HB := Lib.hid hB
  have HI := Lib.hid hi
  have HW := Lib.hid hW
  have HF := Lib.hid hf
  have HN := Lib.hid hn
  have SW := Lib.hid sW
  clear h g1 g2 hB hi hW s1 hf hn sW
  go_enter Try.func29, Try.ntmps29
  go_wp2_with (rw [← HW.out])
  refine region_quiet (C := Row2 w W) (by kernel_rfl) (by kernel_rfl) ⟨⟨rfl, rfl, rfl, Nat.le_refl _, fun _ _ => rfl⟩⟩ ?_
  repeat (
    refine wpQuiet_step (fun K hK => ?_)
    first
    | (refine quiet_load (by rfl) 72 _ (by rfl) ⟨w.heap.size, 0, none⟩ (by rfl) (.agg cs) (fun W' hC => loadVar72 ((hC.same w.heap.size (by rw [SW.out]; omega)).trans HG1.out) H.out.size) ?_
       refine hK _ ?_; clear hK K)
    | (refine quiet_load (by rfl) 4 _ (by rfl) ⟨w.heap.size, 1 + b, none⟩ (by rfl) (.bool (f b).isSome) (fun W' hC => loadVar_cell (Try.isAgg4 _) ((cell_of_row _ _ _ _ _ _ ((hC.same w.heap.size (by rw [SW.out]; omega)).trans HG1.out)).trans (H.out.has b hb))) ?_
       rw [HF.out]
       refine hK _ ?_; clear hK K)
    | (refine quiet_load (by rfl) 3 _ (by rfl) ⟨w.heap.size, 0, none⟩ (by rfl) (.int .i64 room) (fun W' hC => loadVar_cell (Try.isAgg3 _) ((cell_of_row _ _ _ _ _ _ ((hC.same w.heap.size (by rw [SW.out]; omega)).trans HG1.out)).trans H.out.room)) ?_
       refine hK _ ?_; clear hK K)
    | (refine quiet_skip (by rfl) ?_
       refine hK _ ?_; clear hK K)
    | (refine quiet_call (by rfl) 61 #[.agg cs] ?_ (.int .i64 (cntF f)) (fun W' hC => (len61 cs room f W' H.out).mono ?_) ?_
       · (intro W'; go_simp)
       · rintro e w' ⟨he, hw⟩; exact ⟨he, hw ▸ hC.alloc _⟩
       refine hK _ ?_; clear hK K)
    | (refine quiet_pure (v := ?_) (by rfl) ?_ ?_
       rotate_left
       focus (intro W'; go_simp; try (with_reducible rfl))
       refine hK _ ?_; clear hK K)
    try simp only [Act.put, List.setIfInBounds_toArray, List.set_cons_zero, List.set_cons_succ])
  refine wpQuiet_nil ?_
  intro W2 hC
  have e1 : W2.heap[w.heap.size]? = some (.cells cs 72 (0, 0)) := (hC.same w.heap.size (by rw [SW.out]; omega)).trans HG1.out
  have e2 : W2.heap[w.heap.size + 1]? = some (.cells Try.zeroCells72 72 (0, 0)) := (hC.same (w.heap.size + 1) (by rw [SW.out]; omega)).trans HG2.out
  have hB2 : Below w.heap.size w W2 := Below.step HB.out (hC.below)
  have x1 : W2.cell? ⟨w.heap.size, 1 + b, none⟩ = some (.bool (f b).isSome) := by rw [cell_of_row _ _ _ _ _ _ e1]; exact H.out.has b hb
  have x2 : W2.cell? ⟨w.heap.size, 257 + b, none⟩ = some (.int .i64 (valO (f b))) := by rw [cell_of_row _ _ _ _ _ _ e1]; exact H.out.val b hb
  have z1 : W2.frozen? ⟨w.heap.size, 1 + b, none⟩ = false := frozen_of_row _ _ _ _ _ e1
  have z2 : W2.frozen? ⟨w.heap.size, 257 + b, none⟩ = false := frozen_of_row _ _ _ _ _ e1
  have hs1 := heap_setCell_same W2 w.heap.size (1 + b) cs 72 (.bool true) e1
  have hs2 := heap_setCell_same _ w.heap.size (257 + b) _ 72 (.int .i64 x) hs1
  have hs3 : ((W2.setCell ⟨w.heap.size, 1 + b, none⟩ (.bool true)).setCell ⟨w.heap.size, 257 + b, none⟩ (.int .i64 x)).heap[w.heap.size + 1]? = some (.cells Try.zeroCells72 72 (0, 0)) := by
    rw [heap_setCell_other _ _ _ _ (by simp), heap_setCell_other _ _ _ _ (by simp)]; exact e2
  have hb3 := (hB2.setCell (p := ⟨w.heap.size, 1 + b, none⟩) (Nat.le_refl _) (.bool true)).setCell (p := ⟨w.heap.size, 257 + b, none⟩) (Nat.le_refl _) (.int .i64 x)
  have hr := H.out.upd b hb (some x)
  have HS2 := Lib.hid hs2
  have HS3 := Lib.hid hs3
  have HB3 := Lib.hid hb3
  have HR := Lib.hid hr
  have HI2 : Hid ((Try.prog.info? 72).map (·.size) = some ((cs.setIfInBounds (1 + b) (.bool (some x : Option Int).isSome)).setIfInBounds (257 + b) (.int .i64 (valO (some x)))).size) := by
    show (Try.prog.info? 72).map (·.size) = some _
    rw [hr.size]; exact size72
  clear hs1 hs2 hs3 hb3 hr e1 e2 hB2 hC HW
  go_wp2_with (refine wpList_load_row rfl 72 _ (by rfl) w.heap.size (by rfl) 72 _ (0, 0) _ HS2.out Try.underlying72 rfl HI2.out ?_; refine stop ?_)
  refine unhid ?_
  go_wp2_with (refine wpList_store_row rfl 72 _ _ (by rfl) (w.heap.size + 1) _ (by rfl) (by rfl) 72 Try.zeroCells72 HS3.out HI2.out (zsize72.trans HR.out.size.symm) HR.out.one ?_; refine stop ?_)
  refine unhid ?_
  go_wp2_with fail
  exact OutRow.ret rfl rfl rfl rfl (setRow_heap _ _ _ _ _ _ HS3.out) HR.out (Below.setRow HB3.out (by omega) _)

set_option maxRecDepth 100000 in
set_option maxHeartbeats 1600000 in
theorem set29_old (cs : Array Value) (room : Int) (f : Nat → Option Int) (b : Nat) (x : Int) (w : World) (h : Rf cs room f) (hb : b < 256) (hf : (f b).isSome = true) :
    Calls Try.prog 29 #[.agg cs, .int .u8 b, .int .i64 x] w (OutRow w room (updF f b (some x)) 0) := by
  have q0 : IntKind.i64.wrap (b : Int) = (b : Int) := IntWalk.i64_in _ (by omega)
  have b0 : (0 : Int) ≤ (b : Int) := by omega
  have b1 : (b : Int) < 256 := by omega
  obtain ⟨W, hW⟩ : ∃ W, W = (w.alloc (.cells cs 72)).alloc (.cells Try.zeroCells72 72) := ⟨_, rfl⟩
  have s1 : (w.alloc (.cells cs 72)).heap.size = w.heap.size + 1 := World.size_alloc _ _
  have sW : W.heap.size = w.heap.size + 2 := by rw [hW, World.size_alloc, s1]
  have g1 : W.heap[w.heap.size]? = some (.cells cs 72 (0, 0)) := by rw [hW]; exact heap_alloc2_old _ _ _
  have g2 : W.heap[w.heap.size + 1]? = some (.cells Try.zeroCells72 72 (0, 0)) := by rw [hW]; exact heap_alloc2_new _ _ _
  have hB : Below w.heap.size w W := by rw [hW]; exact ((Below.refl _ _).alloc (Nat.le_refl _) _).alloc (by omega) _
  have hi : (Try.prog.info? 72).map (·.size) = some cs.size := by rw [h.size]; exact size72
  have H := Lib.hid h
  have HG1 := Lib.hid g1
  have HG2 := Lib.hid g2
  have HB := Lib.hid hB
  have HI := Lib.hid hi
  have HW := Lib.hid hW
  have HF := Lib.hid hf
  have SW := Lib.hid sW
  clear h g1 g2 hB hi hW s1 hf sW
  go_enter Try.func29, Try.ntmps29
  go_wp2_with (rw [← HW.out])
  refine region_quiet (C := Row2 w W) (by kernel_rfl) (by kernel_rfl) ⟨⟨rfl, rfl, rfl, Nat.le_refl _, fun _ _ => rfl⟩⟩ ?_
  repeat (
    refine wpQuiet_step (fun K hK => ?_)
    first
    | (refine quiet_load (by rfl) 72 _ (by rfl) ⟨w.heap.size, 0, none⟩ (by rfl) (.agg cs) (fun W' hC => loadVar72 ((hC.same w.heap.size (by rw [SW.out]; omega)).trans HG1.out) H.out.size) ?_
       refine hK _ ?_; clear hK K)
    | (refine quiet_load (by rfl) 4 _ (by rfl) ⟨w.heap.size, 1 + b, none⟩ (by rfl) (.bool (f b).isSome) (fun W' hC => loadVar_cell (Try.isAgg4 _) ((cell_of_row _ _ _ _ _ _ ((hC.same w.heap.size (by rw [SW.out]; omega)).trans HG1.out)).trans (H.out.has b hb))) ?_
       rw [HF.out]
       refine hK _ ?_; clear hK K)
    | (refine quiet_load (by rfl) 3 _ (by rfl) ⟨w.heap.size, 0, none⟩ (by rfl) (.int .i64 room) (fun W' hC => loadVar_cell (Try.isAgg3 _) ((cell_of_row _ _ _ _ _ _ ((hC.same w.heap.size (by rw [SW.out]; omega)).trans HG1.out)).trans H.out.room)) ?_
       refine hK _ ?_; clear hK K)
    | (refine quiet_skip (by rfl) ?_
       refine hK _ ?_; clear hK K)
    | (refine quiet_call (by rfl) 61 #[.agg cs] ?_ (.int .i64 (cntF f)) (fun W' hC => (len61 cs room f W' H.out).mono ?_) ?_
       · (intro W'; go_simp)
       · rintro e w' ⟨he, hw⟩; exact ⟨he, hw ▸ hC.alloc _⟩
       refine hK _ ?_; clear hK K)
    | (refine quiet_pure (v := ?_) (by rfl) ?_ ?_
       rotate_left
       focus (intro W'; go_simp; try (with_reducible rfl))
       refine hK _ ?_; clear hK K)
    try simp only [Act.put, List.setIfInBounds_toArray, List.set_cons_zero, List.set_cons_succ])
  refine wpQuiet_nil ?_
  intro W2 hC
  have e1 : W2.heap[w.heap.size]? = some (.cells cs 72 (0, 0)) := (hC.same w.heap.size (by rw [SW.out]; omega)).trans HG1.out
  have e2 : W2.heap[w.heap.size + 1]? = some (.cells Try.zeroCells72 72 (0, 0)) := (hC.same (w.heap.size + 1) (by rw [SW.out]; omega)).trans HG2.out
  have hB2 : Below w.heap.size w W2 := Below.step HB.out (hC.below)
  have x1 : W2.cell? ⟨w.heap.size, 1 + b, none⟩ = some (.bool (f b).isSome) := by rw [cell_of_row _ _ _ _ _ _ e1]; exact H.out.has b hb
  have x2 : W2.cell? ⟨w.heap.size, 257 + b, none⟩ = some (.int .i64 (valO (f b))) := by rw [cell_of_row _ _ _ _ _ _ e1]; exact H.out.val b hb
  have z1 : W2.frozen? ⟨w.heap.size, 1 + b, none⟩ = false := frozen_of_row _ _ _ _ _ e1
  have z2 : W2.frozen? ⟨w.heap.size, 257 + b, none⟩ = false := frozen_of_row _ _ _ _ _ e1
  have hs1 := heap_setCell_same W2 w.heap.size (1 + b) cs 72 (.bool true) e1
  have hs2 := heap_setCell_same _ w.heap.size (257 + b) _ 72 (.int .i64 x) hs1
  have hs3 : ((W2.setCell ⟨w.heap.size, 1 + b, none⟩ (.bool true)).setCell ⟨w.heap.size, 257 + b, none⟩ (.int .i64 x)).heap[w.heap.size + 1]? = some (.cells Try.zeroCells72 72 (0, 0)) := by
    rw [heap_setCell_other _ _ _ _ (by simp), heap_setCell_other _ _ _ _ (by simp)]; exact e2
  have hb3 := (hB2.setCell (p := ⟨w.heap.size, 1 + b, none⟩) (Nat.le_refl _) (.bool true)).setCell (p := ⟨w.heap.size, 257 + b, none⟩) (Nat.le_refl _) (.int .i64 x)
  have hr := H.out.upd b hb (some x)
  have HS2 := Lib.hid hs2
  have HS3 := Lib.hid hs3
  have HB3 := Lib.hid hb3
  have HR := Lib.hid hr
  have HI2 : Hid ((Try.prog.info? 72).map (·.size) = some ((cs.setIfInBounds (1 + b) (.bool (some x : Option Int).isSome)).setIfInBounds (257 + b) (.int .i64 (valO (some x)))).size) := by
    show (Try.prog.info? 72).map (·.size) = some _
    rw [hr.size]; exact size72
  clear hs1 hs2 hs3 hb3 hr e1 e2 hB2 hC HW
  go_wp2_with (refine wpList_load_row rfl 72 _ (by rfl) w.heap.size (by rfl) 72 _ (0, 0) _ HS2.out Try.underlying72 rfl HI2.out ?_; refine stop ?_)
  refine unhid ?_
  go_wp2_with (refine wpList_store_row rfl 72 _ _ (by rfl) (w.heap.size + 1) _ (by rfl) (by rfl) 72 Try.zeroCells72 HS3.out HI2.out (zsize72.trans HR.out.size.symm) HR.out.one ?_; refine stop ?_)
  refine unhid ?_
  go_wp2_with fail
  exact OutRow.ret rfl rfl rfl rfl (setRow_heap _ _ _ _ _ _ HS3.out) HR.out (Below.setRow HB3.out (by omega) _)

end Go.Proofs.Ythohpeinmkdfeaa
