/-
  The document's row by value: New, of a board and of a row.
-/
import Derived.Test.YthohpeinmkdfeaaRef2
namespace Go.Proofs.Ythohpeinmkdfeaa
open Go.RowKit
set_option linter.unusedVariables false

theorem wpList_built {P : Program} {ops : Array Oper} {rest : List Oper} {o : Oper} {a : Act} {w : World} {Q : Exit → Act → World → Prop} (hg : o.guard = none) (t : TypeId) (parts : Array (Nat × Operand)) (ho : o.op = .build t parts) (cells : Array Value)
    (hc : P.built t (parts.map fun (i, x) => (i, a.eval x)).toList = some cells)
    (h : wpList P ops Q rest (a.put o.dst (.agg cells)) w) : wpList P ops Q (o :: rest) a w :=
  wpList_build hg t parts ho (by rw [hc]; rfl) (by rw [hc]; exact h)

theorem built72_nil : Try.prog.built 72 [] = some Try.zeroCells72 := by kernel_rfl
theorem built72_room (room : Int) : Try.prog.built 72 [(0, .int .i64 room)] = some (Try.zeroCells72.setIfInBounds 0 (.int .i64 room)) := by kernel_rfl

theorem Rf.room' {cs : Array Value} {room : Int} {f : Nat → Option Int} (h : Rf cs room f) (n : Int) : Rf (cs.setIfInBounds 0 (.int .i64 n)) n f := by
  have hs := h.size
  refine ⟨by simp [hs], ?_, fun c hc => ?_, fun c hc => ?_, ?_⟩
  · rw [Array.getElem?_setIfInBounds_self_of_lt (by omega)]
  · rw [Array.getElem?_setIfInBounds_ne (by omega)]; exact h.has c hc
  · rw [Array.getElem?_setIfInBounds_ne (by omega)]; exact h.val c hc
  · rw [Array.all_eq_true_iff_forall_mem]
    intro v hv
    rcases Array.mem_or_eq_of_mem_setIfInBounds hv with hv | rfl
    · exact (Array.all_eq_true_iff_forall_mem.1 h.one) v hv
    · rfl

set_option maxRecDepth 100000 in
set_option maxHeartbeats 800000 in
theorem new27_no (room : Int) (w : World) (h1 : ¬ room = 48) (h2 : ¬ room = 256) :
    Calls Try.prog 27 #[.int .i64 room] w (OutRow w 0 (fun _ => none) 1) := by
  have d1 : (room != 48) = true := by simp [h1]
  have d2 : (room != 256) = true := by simp [h2]
  have g1 : (w.alloc (.cells Try.zeroCells72 72)).heap[w.heap.size]? = some (.cells Try.zeroCells72 72 (0, 0)) := heap_alloc_new _ _
  have hB : Below w.heap.size w (w.alloc (.cells Try.zeroCells72 72)) := (Below.refl _ _).alloc (Nat.le_refl _) _
  have hr : Rf (Try.zeroCells72) 0 (fun _ => none) := zero72_rf
  have hi : (Try.prog.info? 72).map (·.size) = some (Try.zeroCells72).size := by rw [hr.size]; exact size72
  have HG1 := Lib.hid g1
  have HB := Lib.hid hB
  have HR := Lib.hid hr
  have HI := Lib.hid hi
  clear g1 hB hr hi
  go_enter Try.func27, Try.ntmps27
  go_wp2_with (first
    | (refine wpList_built rfl 72 _ (by rfl) _ built72_nil ?_)
    | (refine wpList_store_row rfl 72 _ _ (by rfl) w.heap.size _ (by rfl) (by rfl) 72 Try.zeroCells72 HG1.out HI.out (zsize72.trans HR.out.size.symm) HR.out.one ?_; refine stop ?_))
  refine unhid ?_
  go_wp2_with fail
  exact OutRow.ret rfl rfl rfl rfl (setRow_heap _ _ _ _ _ _ HG1.out) HR.out (Below.setRow HB.out (by omega) _)

set_option maxRecDepth 100000 in
set_option maxHeartbeats 800000 in
theorem new27_48 (room : Int) (w : World) (h1 : room = 48) :
    Calls Try.prog 27 #[.int .i64 room] w (OutRow w room (fun _ => none) 0) := by
  have d1 : (room != 48) = false := by simp [h1]
  clear h1
  have g1 : (w.alloc (.cells Try.zeroCells72 72)).heap[w.heap.size]? = some (.cells Try.zeroCells72 72 (0, 0)) := heap_alloc_new _ _
  have hB : Below w.heap.size w (w.alloc (.cells Try.zeroCells72 72)) := (Below.refl _ _).alloc (Nat.le_refl _) _
  have hr : Rf (Try.zeroCells72.setIfInBounds 0 (.int .i64 room)) room (fun _ => none) := zero72_rf.room' room
  have hi : (Try.prog.info? 72).map (·.size) = some (Try.zeroCells72.setIfInBounds 0 (.int .i64 room)).size := by rw [hr.size]; exact size72
  have HG1 := Lib.hid g1
  have HB := Lib.hid hB
  have HR := Lib.hid hr
  have HI := Lib.hid hi
  clear g1 hB hr hi
  go_enter Try.func27, Try.ntmps27
  go_wp2_with (first
    | (refine wpList_built rfl 72 _ (by rfl) _ (built72_room room) ?_)
    | (refine wpList_store_row rfl 72 _ _ (by rfl) w.heap.size _ (by rfl) (by rfl) 72 Try.zeroCells72 HG1.out HI.out (zsize72.trans HR.out.size.symm) HR.out.one ?_; refine stop ?_))
  refine unhid ?_
  go_wp2_with fail
  exact OutRow.ret rfl rfl rfl rfl (setRow_heap _ _ _ _ _ _ HG1.out) HR.out (Below.setRow HB.out (by omega) _)

set_option maxRecDepth 100000 in
set_option maxHeartbeats 800000 in
theorem new27_256 (room : Int) (w : World) (h1 : room = 256) :
    Calls Try.prog 27 #[.int .i64 room] w (OutRow w room (fun _ => none) 0) := by
  have d1 : (room != 48) = true := by simp [h1]
  have d2 : (room != 256) = false := by simp [h1]
  clear h1
  have g1 : (w.alloc (.cells Try.zeroCells72 72)).heap[w.heap.size]? = some (.cells Try.zeroCells72 72 (0, 0)) := heap_alloc_new _ _
  have hB : Below w.heap.size w (w.alloc (.cells Try.zeroCells72 72)) := (Below.refl _ _).alloc (Nat.le_refl _) _
  have hr : Rf (Try.zeroCells72.setIfInBounds 0 (.int .i64 room)) room (fun _ => none) := zero72_rf.room' room
  have hi : (Try.prog.info? 72).map (·.size) = some (Try.zeroCells72.setIfInBounds 0 (.int .i64 room)).size := by rw [hr.size]; exact size72
  have HG1 := Lib.hid g1
  have HB := Lib.hid hB
  have HR := Lib.hid hr
  have HI := Lib.hid hi
  clear g1 hB hr hi
  go_enter Try.func27, Try.ntmps27
  go_wp2_with (first
    | (refine wpList_built rfl 72 _ (by rfl) _ (built72_room room) ?_)
    | (refine wpList_store_row rfl 72 _ _ (by rfl) w.heap.size _ (by rfl) (by rfl) 72 Try.zeroCells72 HG1.out HI.out (zsize72.trans HR.out.size.symm) HR.out.one ?_; refine stop ?_))
  refine unhid ?_
  go_wp2_with fail
  exact OutRow.ret rfl rfl rfl rfl (setRow_heap _ _ _ _ _ _ HG1.out) HR.out (Below.setRow HB.out (by omega) _)

set_option maxRecDepth 100000 in
set_option maxHeartbeats 800000 in
theorem new41_low (room : Int) (w : World) (h1 : room < 1) :
    Calls Try.prog 41 #[.int .i64 room] w (OutRow w 0 (fun _ => none) 1) := by
  have d1 : decide (room < 1) = true := by simp; omega
  have g1 : (w.alloc (.cells Try.zeroCells72 72)).heap[w.heap.size]? = some (.cells Try.zeroCells72 72 (0, 0)) := heap_alloc_new _ _
  have hB : Below w.heap.size w (w.alloc (.cells Try.zeroCells72 72)) := (Below.refl _ _).alloc (Nat.le_refl _) _
  have hr : Rf (Try.zeroCells72) 0 (fun _ => none) := zero72_rf
  have hi : (Try.prog.info? 72).map (·.size) = some (Try.zeroCells72).size := by rw [hr.size]; exact size72
  have HG1 := Lib.hid g1
  have HB := Lib.hid hB
  have HR := Lib.hid hr
  have HI := Lib.hid hi
  clear g1 hB hr hi
  go_enter Try.func41, Try.ntmps41
  go_wp2_with (first
    | (refine wpList_built rfl 72 _ (by rfl) _ built72_nil ?_)
    | (refine wpList_store_row rfl 72 _ _ (by rfl) w.heap.size _ (by rfl) (by rfl) 72 Try.zeroCells72 HG1.out HI.out (zsize72.trans HR.out.size.symm) HR.out.one ?_; refine stop ?_))
  refine unhid ?_
  go_wp2_with fail
  exact OutRow.ret rfl rfl rfl rfl (setRow_heap _ _ _ _ _ _ HG1.out) HR.out (Below.setRow HB.out (by omega) _)

set_option maxRecDepth 100000 in
set_option maxHeartbeats 800000 in
theorem new41_high (room : Int) (w : World) (h1 : ¬ room < 1) (h2 : 16 < room) :
    Calls Try.prog 41 #[.int .i64 room] w (OutRow w 0 (fun _ => none) 1) := by
  have d1 : decide (room < 1) = false := by simp; omega
  have d2 : decide (16 < room) = true := by simp; omega
  have g1 : (w.alloc (.cells Try.zeroCells72 72)).heap[w.heap.size]? = some (.cells Try.zeroCells72 72 (0, 0)) := heap_alloc_new _ _
  have hB : Below w.heap.size w (w.alloc (.cells Try.zeroCells72 72)) := (Below.refl _ _).alloc (Nat.le_refl _) _
  have hr : Rf (Try.zeroCells72) 0 (fun _ => none) := zero72_rf
  have hi : (Try.prog.info? 72).map (·.size) = some (Try.zeroCells72).size := by rw [hr.size]; exact size72
  have HG1 := Lib.hid g1
  have HB := Lib.hid hB
  have HR := Lib.hid hr
  have HI := Lib.hid hi
  clear g1 hB hr hi
  go_enter Try.func41, Try.ntmps41
  go_wp2_with (first
    | (refine wpList_built rfl 72 _ (by rfl) _ built72_nil ?_)
    | (refine wpList_store_row rfl 72 _ _ (by rfl) w.heap.size _ (by rfl) (by rfl) 72 Try.zeroCells72 HG1.out HI.out (zsize72.trans HR.out.size.symm) HR.out.one ?_; refine stop ?_))
  refine unhid ?_
  go_wp2_with fail
  exact OutRow.ret rfl rfl rfl rfl (setRow_heap _ _ _ _ _ _ HG1.out) HR.out (Below.setRow HB.out (by omega) _)

set_option maxRecDepth 100000 in
set_option maxHeartbeats 800000 in
theorem new41_yes (room : Int) (w : World) (h1 : ¬ room < 1) (h2 : ¬ 16 < room) :
    Calls Try.prog 41 #[.int .i64 room] w (OutRow w room (fun _ => none) 0) := by
  have d1 : decide (room < 1) = false := by simp; omega
  have d2 : decide (16 < room) = false := by simp; omega
  have g1 : (w.alloc (.cells Try.zeroCells72 72)).heap[w.heap.size]? = some (.cells Try.zeroCells72 72 (0, 0)) := heap_alloc_new _ _
  have hB : Below w.heap.size w (w.alloc (.cells Try.zeroCells72 72)) := (Below.refl _ _).alloc (Nat.le_refl _) _
  have hr : Rf (Try.zeroCells72.setIfInBounds 0 (.int .i64 room)) room (fun _ => none) := zero72_rf.room' room
  have hi : (Try.prog.info? 72).map (·.size) = some (Try.zeroCells72.setIfInBounds 0 (.int .i64 room)).size := by rw [hr.size]; exact size72
  have HG1 := Lib.hid g1
  have HB := Lib.hid hB
  have HR := Lib.hid hr
  have HI := Lib.hid hi
  clear g1 hB hr hi
  go_enter Try.func41, Try.ntmps41
  go_wp2_with (first
    | (refine wpList_built rfl 72 _ (by rfl) _ (built72_room room) ?_)
    | (refine wpList_store_row rfl 72 _ _ (by rfl) w.heap.size _ (by rfl) (by rfl) 72 Try.zeroCells72 HG1.out HI.out (zsize72.trans HR.out.size.symm) HR.out.one ?_; refine stop ?_))
  refine unhid ?_
  go_wp2_with fail
  exact OutRow.ret rfl rfl rfl rfl (setRow_heap _ _ _ _ _ _ HG1.out) HR.out (Below.setRow HB.out (by omega) _)

end Go.Proofs.Ythohpeinmkdfeaa
