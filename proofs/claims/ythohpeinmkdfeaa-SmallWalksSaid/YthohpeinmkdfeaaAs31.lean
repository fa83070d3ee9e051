/-
  Whether a board is the document's.
-/
import Derived.Test.YthohpeinmkdfeaaRef3
namespace Go.Proofs.Ythohpeinmkdfeaa
open Go.RowKit
set_option linter.unusedVariables false

set_option maxRecDepth 100000 in
set_option maxHeartbeats 1600000 in
theorem as31 {base g room : Nat} {f : Nat → Option Int} {U : Nat} {fp : List Nat} (cs : Array Value) (from' : Int) (w : World) (hE : BdE w base g room f U fp) (h : Rf cs (room : Int) f) :
    Calls Try.prog 31 #[.pointer (some ⟨g, 0, none⟩), .agg cs, .int .i64 from'] w fun e w' => e = .returned (.bool true) ∧ Below w.heap.size w w' := by
  obtain ⟨w1, hw1⟩ : ∃ w1, w1 = w.alloc (.cells cs 72) := ⟨_, rfl⟩
  have s1 : w1.heap.size = w.heap.size + 1 := by rw [hw1, World.size_alloc]
  have g1 : w1.heap[w.heap.size]? = some (.cells cs 72 (0, 0)) := by rw [hw1]; exact heap_alloc_new _ _
  have hB : Below w.heap.size w w1 := by rw [hw1]; exact (Below.refl _ _).alloc (Nat.le_refl _) _
  have hE1 : BdE w1 base g room f U fp := hE.step hB
  have hi : (Try.prog.info? 72).map (·.size) = some cs.size := by rw [h.size]; exact size72
  have hsz := h.size
  have hroom := h.room
  have HE : Hid (∀ W, Below w1.heap.size w1 W → BdE W base g room f U fp) := fun W hW => hE1.step hW
  have HG : Hid (∀ W, Below w1.heap.size w1 W → W.heap[w.heap.size]? = some (.cells cs 72 (0, 0))) := fun W hW => (hW.block w.heap.size (by omega)).trans g1
  have HO : Hid (∀ W, Below w1.heap.size w1 W → Below w.heap.size w W) := fun W hW => Below.step hB (hW.mono (by omega))
  have H := Lib.hid h
  have HI := Lib.hid hi
  have HW := Lib.hid hw1
  have HS := Lib.hid hsz
  have HR := Lib.hid hroom
  clear hE h hw1 s1 g1 hB hE1 hi hsz hroom
  go_enter Try.func31, Try.ntmps31
  go_wp2_with (rw [← HW.out])
  refine (nextE (HE.out _ (Below.refl _ _)) from').mono ?_
  rintro e w2 ⟨⟨rb, rx, rk⟩, hn, rfl, z, hw2⟩
  have B2 : Hid (Below w1.heap.size w1 w2) := by show Below _ _ _; rw [hw2]; exact below_drewN (Below.refl _ _) z
  clear hw2
  simp only [tri]
  go_wp2_with fail
  refine (prevE (HE.out _ B2.out) from').mono ?_
  rintro e w3 ⟨⟨pb, px, pk⟩, hp, rfl, z, hw3⟩
  have B3 : Hid (Below w1.heap.size w1 w3) := by show Below _ _ _; rw [hw3]; exact below_drewN B2.out z
  clear hw3
  simp only [tri]
  have HG3 := Lib.hid (HG.out _ B3.out)
  go_wp2_with (refine wpList_load_row rfl 72 _ (by rfl) w.heap.size (by rfl) 72 cs (0, 0) _ HG3.out Try.underlying72 rfl HI.out ?_; refine stop ?_)
  refine unhid ?_
  go_wp2_with fail
  refine (next62 cs room f from' _ w3 H.out (by omega) rfl).mono ?_
  rintro e w4 ⟨r, hn2, rfl, hw4⟩
  obtain rfl := NextR.det hn hn2
  have B4 : Hid (Below w1.heap.size w1 w4) := Below.step B3.out hw4
  clear hw4 hn hn2
  simp only [tri]
  have HG4 := Lib.hid (HG.out _ B4.out)
  go_wp2_with (refine wpList_load_row rfl 72 _ (by rfl) w.heap.size (by rfl) 72 cs (0, 0) _ HG4.out Try.underlying72 rfl HI.out ?_; refine stop ?_)
  refine unhid ?_
  go_wp2_with fail
  refine (prev63 cs room f from' _ w4 H.out (by omega) rfl).mono ?_
  rintro e w5 ⟨r, hp2, rfl, hw5⟩
  obtain rfl := PrevR.det hp hp2
  have B5 : Hid (Below w1.heap.size w1 w5) := Below.step B4.out hw5
  clear hw5 hp hp2
  simp only [tri]
  have q1 : ((rb : Int) == (rb : Int)) = true := by simp
  have q2 : (rx == rx) = true := by simp
  have q3 : (rk == rk) = true := by simp
  have q4 : ((pb : Int) == (pb : Int)) = true := by simp
  have q5 : (px == px) = true := by simp
  have q6 : (pk == pk) = true := by simp
  have q7 : ((cntF f : Int) == (cntF f : Int)) = true := by simp
  have q8 : ((room : Int) == (room : Int)) = true := by simp
  go_wp2_with fail
  refine region_quiet (C := fun W => Below w1.heap.size w1 W) (by kernel_rfl) (by kernel_rfl) (below_drewN B5.out 1) ?_
  repeat (
    refine wpQuiet_step (fun K hK => ?_)
    first
    | (refine quiet_load (by rfl) 72 _ (by rfl) ⟨w.heap.size, 0, none⟩ (by rfl) (.agg cs) (fun W' hC => loadVar72 (HG.out W' hC) HS.out) ?_
       refine hK _ ?_; clear hK K)
    | (refine quiet_load (by rfl) 3 _ (by rfl) ⟨w.heap.size, 0, none⟩ (by rfl) (.int .i64 room) (fun W' hC => loadVar_cell (Try.isAgg3 _) ((cell_of_row _ _ _ _ _ _ (HG.out W' hC)).trans HR.out)) ?_
       refine hK _ ?_; clear hK K)
    | (refine quiet_call (by rfl) 61 #[.agg cs] ?_ (.int .i64 (cntF f)) (fun W' hC => (len61 cs room f W' H.out).mono ?_) ?_
       · (intro W'; go_simp)
       · rintro e w' ⟨he, hw⟩; exact ⟨he, hw ▸ hC.alloc hC.size _⟩
       refine hK _ ?_; clear hK K)
    | (refine quiet_call (by rfl) 17 #[.pointer (some ⟨g, 0, none⟩)] ?_ (.int .i64 (cntF f)) (fun W' hC => (lenE (HE.out W' hC)).mono ?_) ?_
       · (intro W'; go_simp)
       · rintro e w' ⟨he, hw⟩; exact ⟨he, hw ▸ hC⟩
       refine hK _ ?_; clear hK K)
    | (refine quiet_call (by rfl) 34 #[.pointer (some ⟨g, 0, none⟩)] ?_ (.int .i64 room) (fun W' hC => (roomE (HE.out W' hC)).mono ?_) ?_
       · (intro W'; go_simp)
       · rintro e w' ⟨he, hw⟩; exact ⟨he, hw ▸ hC⟩
       refine hK _ ?_; clear hK K)
    | (refine quiet_pure (v := ?_) (by rfl) ?_ ?_
       rotate_left
       focus (intro W'; go_simp; try (with_reducible rfl))
       refine hK _ ?_; clear hK K)
    try simp only [Act.put, List.setIfInBounds_toArray, List.set_cons_zero, List.set_cons_succ])
  refine wpQuiet_nil ?_
  intro w6 B6
  have HB6 := Lib.hid (HO.out _ B6)
  clear B6
  go_wp2_with fail
  go_ret
  exact ⟨rfl, HB6.out⟩

end Go.Proofs.Ythohpeinmkdfeaa
