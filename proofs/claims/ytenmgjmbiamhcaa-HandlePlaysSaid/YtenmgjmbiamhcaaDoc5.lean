/-
  The document's table, by value: Add where there is room.
-/
import Derived.Test.YtenmgjmbiamhcaaDoc4
namespace Go.Proofs.Ytenmgjmbiamhcaa
open Go.RowKit
set_option linter.unusedVariables false

set_option maxRecDepth 100000 in
set_option maxHeartbeats 1600000 in
theorem add14_yes {w : World} {base ch ca m : Nat} {ph pa : Option Addr} {hs : List Bool} {xs : List Int} {f : Int → Option Int} (h : Rt w base ph ch pa ca m hs xs f) (room : Int) (x : Int) (hr : ¬ (cntB hs m : Int) = room) (hm : m < 80) :
    Calls Try.prog 14 #[.agg #[.int .i64 room, .slice ph m ch, .slice pa m ca], .int .i64 x] w fun e w' => ∃ (ph' pa' : Option Addr) (ch' ca' : Nat), e = .returned (.tuple #[.agg #[.int .i64 room, .slice ph' (m + 1 : Nat) ch', .slice pa' (m + 1 : Nat) ca'], .int .i64 ((m : Int) + 1), .int .i64 0]) ∧
      Rt w' base ph' ch' pa' ca' (m + 1) (hs ++ [true]) (xs ++ [x]) (updI f ((m : Int) + 1) (some x)) ∧ Below base w w' ∧ Others w w' := by
  obtain ⟨W, hW⟩ : ∃ W, W = (w.alloc (.cells #[.int .i64 room, .slice ph m ch, .slice pa m ca] 30)).alloc (.cells #[.int .i64 0, .slice none 0 0, .slice none 0 0] 30) := ⟨_, rfl⟩
  have s1 : (w.alloc (.cells #[.int .i64 room, .slice ph m ch, .slice pa m ca] 30)).heap.size = w.heap.size + 1 := World.size_alloc _ _
  have sW : W.heap.size = w.heap.size + 2 := by rw [hW, World.size_alloc, s1]
  have hB : Below w.heap.size w W := by rw [hW]; exact ((Below.refl _ _).alloc (Nat.le_refl _) _).alloc (by omega) _
  have hrow : W.heap[w.heap.size + 1]? = some (.cells #[.int .i64 0, .slice none 0 0, .slice none 0 0] 30 (0, 0)) := by rw [hW]; exact heap_alloc2_new _ _ _
  have hrow0 : W.heap[w.heap.size]? = some (.cells #[.int .i64 room, .slice ph m ch, .slice pa m ca] 30 (0, 0)) := by
    rw [hW]; exact heap_alloc2_old _ _ _
  have v0 : ∀ j v, (#[.int .i64 room, .slice ph m ch, .slice pa m ca] : Array Value)[j]? = some v → Var W w.heap.size j v := fun j v hv => by rw [hW]; exact (Var.new rfl hv).alloc _
  have a0 := v0 0 _ rfl
  have HA0 := Lib.hid a0
  have HROW := Lib.hid hrow
  have HROW0 := Lib.hid hrow0
  have HB := Lib.hid hB
  have HW := Lib.hid hW
  have SW := Lib.hid sW
  have HR := Lib.hid (h.step hB)
  have HX := Lib.hid h
  have hfit := h.fits
  clear h hW s1 sW hB hrow hrow0 v0 a0
  have dd : ((cntB hs m : Int) == room) = false := by simpa using hr
  clear hr
  go_enter Try.func14, Try.ntmps14
  go_wp2_with (rw [← HW.out])
  refine region_quiet (C := fun W' => Below W.heap.size W W') (by kernel_rfl) (by kernel_rfl) ((Below.refl _ _).drew) ?_
  repeat (
    refine wpQuiet_step (fun K hK => ?_)
    first
    | (refine quiet_load (by rfl) 30 _ (by rfl) ⟨w.heap.size, 0, none⟩ (by rfl) (.agg #[.int .i64 room, .slice ph m ch, .slice pa m ca]) (fun W' hC => loadVar_row30 ((hC.block w.heap.size (by have := SW.out; omega)).trans HROW0.out)) ?_
       refine hK _ ?_; clear hK K)
    | (refine quiet_load (by rfl) 3 _ (by rfl) ⟨w.heap.size, 0, none⟩ (by rfl) (.int .i64 room) (fun W' hC => loadVar_cell (Try.isAgg3 _) (HA0.out.step hC).cell) ?_
       refine hK _ ?_; clear hK K)
    | (refine quiet_call (by rfl) 24 #[.agg #[.int .i64 room, .slice ph m ch, .slice pa m ca]] ?_ (.int .i64 (cntB hs m)) (fun W' hC => (len24 (HR.out.step hC) _).mono ?_) ?_
       · (intro W'; go_simp)
       · rintro e w' ⟨he, hw⟩; exact ⟨he, by rw [hw]; exact hC.alloc hC.size _⟩
       refine hK _ ?_; clear hK K)
    | (refine quiet_pure (v := ?_) (by rfl) ?_ ?_
       rotate_left
       focus (intro W'; go_simp; try (with_reducible rfl))
       refine hK _ ?_; clear hK K)
    try simp only [Act.put, List.setIfInBounds_toArray, List.set_cons_zero, List.set_cons_succ])
  refine wpQuiet_nil ?_
  intro w2 hB2
  have hz := SW.out
  have hr0 := (hB2.block w.heap.size (by omega)).trans HROW0.out
  have hr1 := (hB2.block (w.heap.size + 1) (by omega)).trans HROW.out
  have HR0 := Lib.hid hr0
  have HR1 := Lib.hid hr1
  have HRt := Lib.hid (HX.out.step (Below.step HB.out hB2))
  have HB2 := Lib.hid (Below.step HB.out hB2)
  have HZ2 : Hid (w.heap.size + 2 ≤ w2.heap.size) := by show _ ≤ _; have := hB2.size; omega
  obtain ⟨b0, hb0⟩ : ∃ b0, b0 = w.heap.size := ⟨_, rfl⟩
  rw [← hb0] at HR0 HR1 HZ2
  rw [← hb0]
  have HB0 := Lib.hid hb0
  clear hz hr0 hr1 hB2 hb0 HROW HROW0 HA0 HR HW SW HB
  go_wp2_with fail
  have HH : Hid (Hd w w2.drew base b0 #[.int .i64 room, .slice ph m ch, .slice pa m ca] #[.int .i64 0, .slice none 0 0, .slice none 0 0] (.slice ph m ch) m (hs.map bv) (.slice pa m ca) m (xs.map iv)) :=
    ⟨HRt.out.ownH, HRt.out.ownA, HR0.out, HR1.out, (HB2.out.mono hfit).drew, HRt.out.fits, fun b cs t _ _ hb => (HB2.out.block b (blk_lt hb)).trans hb⟩
  obtain ⟨w3, hw3⟩ : ∃ w3, w3 = w2.drew := ⟨_, rfl⟩
  refine wp_region_split (K := fun a' w' => ∃ (k1 g1 c1 k2 g2 c2 : Nat), a' = { tmps := #[.agg #[.int .i64 room, .slice ph m ch, .slice pa m ca], .int .i64 x, .pointer (some ⟨b0, 0, none⟩), undef, .pointer (some ⟨b0 + 1, 0, none⟩), .int .i64 0, .int .i64 0, .agg #[.int .i64 room, .slice ph m ch, .slice pa m ca],
      .int .i64 (cntB hs m), .pointer (some ⟨b0, 0, none⟩), .int .i64 room, .bool false, undef, .pointer (some ⟨b0, 1, none⟩), .slice ph m ch, .slice (some ⟨k1, 0, none⟩) 1 1, .slice (some ⟨g1, 0, none⟩) (m + 1 : Nat) c1,
      .pointer (some ⟨b0, 2, none⟩), .slice pa m ca, .int .i64 x, .slice (some ⟨k2, 0, none⟩) 1 1, .slice (some ⟨g2, 0, none⟩) (m + 1 : Nat) c2, .pointer (some ⟨b0, 1, none⟩), undef, undef, undef, undef, undef], defers := [] } ∧
      Hd w w' base b0 #[.int .i64 room, .slice ph m ch, .slice pa m ca] #[.int .i64 0, .slice none 0 0, .slice none 0 0] (.slice (some ⟨g1, 0, none⟩) (m + 1 : Nat) c1) (m + 1) (hs.map bv ++ [.bool true]) (.slice (some ⟨g2, 0, none⟩) (m + 1 : Nat) c2) (m + 1) (xs.map iv ++ [.int .i64 x])) 10 (by kernel_rfl) (by kernel_rfl) (fun a4 w4 h => ?_) ?_
  rotate_left
  rw [← hw3] at HH ⊢
  simp only [List.take_succ_cons, List.take_zero]
  generalize Exit.then _ _ = QQ
  clear HR0 HR1 HZ2 HRt HB2 hw3 HX hfit dd
  have hHeld : (fun W' : World => W'.heap[b0]? = some (.cells #[.int .i64 room, .slice ph m ch, .slice pa m ca] 30 (0, 0))) w3 := HH.out.r0
  refine wpAny_of_held (S := fun W' : World => W'.heap[b0]? = some (.cells #[.int .i64 room, .slice ph m ch, .slice pa m ca] 30 (0, 0))) _ _ _ _ ?_
  refine wpAnyH_take (i := 0) (v := ?_) rfl (by kernel_rfl) (by kernel_rfl) (by kernel_rfl) (fun _ _ _ h => h) (Or.inl ⟨by rfl, ?_⟩) (by assumption) ?_
  rotate_left
  focus (intro W' hS; go_simp; try (with_reducible rfl))
  dsimp only [List.getElem_toArray, List.getElem_cons_succ, List.getElem_cons_zero]
  (try simp only [Act.put, List.setIfInBounds_toArray, List.set_cons_zero, List.set_cons_succ])
  refine wpAnyH_take (i := 4) (v := ?_) rfl (by kernel_rfl) (by kernel_rfl) (by kernel_rfl) (fun _ _ _ h => h) (Or.inl ⟨by rfl, ?_⟩) (by assumption) ?_
  rotate_left
  focus (intro W' hS; go_simp; try (with_reducible rfl))
  dsimp only [List.getElem_toArray, List.getElem_cons_succ, List.getElem_cons_zero]
  (try simp only [Act.put, List.setIfInBounds_toArray, List.set_cons_zero, List.set_cons_succ])
  refine wpAnyH_take (i := 6) (v := ?_) rfl (by kernel_rfl) (by kernel_rfl) (by kernel_rfl) (fun _ _ _ h => h) (Or.inl ⟨by rfl, ?_⟩) (by assumption) ?_
  rotate_left
  focus (intro W' hS; go_simp; try (with_reducible rfl))
  dsimp only [List.getElem_toArray, List.getElem_cons_succ, List.getElem_cons_zero]
  (try simp only [Act.put, List.setIfInBounds_toArray, List.set_cons_zero, List.set_cons_succ])
  refine wpAnyH_take (i := 1) (v := .slice ph m ch) rfl (by kernel_rfl) (by kernel_rfl) (by kernel_rfl) (fun _ _ _ h => h) (Or.inl ⟨by rfl, fun W' hS => by have hC : W'.cell? ⟨b0, 1, none⟩ = some (.slice ph m ch) := cell_of_row _ _ _ _ _ _ hS; go_simp⟩) (by assumption) ?_
  dsimp only [List.getElem_toArray, List.getElem_cons_succ, List.getElem_cons_zero]
  (try simp only [Act.put, List.setIfInBounds_toArray, List.set_cons_zero, List.set_cons_succ])
  refine wpAnyH_take (i := 5) (v := .slice pa m ca) rfl (by kernel_rfl) (by kernel_rfl) (by kernel_rfl) (fun _ _ _ h => h) (Or.inl ⟨by rfl, fun W' hS => by have hC : W'.cell? ⟨b0, 2, none⟩ = some (.slice pa m ca) := cell_of_row _ _ _ _ _ _ hS; go_simp⟩) (by assumption) ?_
  dsimp only [List.getElem_toArray, List.getElem_cons_succ, List.getElem_cons_zero]
  (try simp only [Act.put, List.setIfInBounds_toArray, List.set_cons_zero, List.set_cons_succ])
  have hml : m ≤ 4096 := by omega
  refine wpAnyH_ready (rs := [2, 7]) (by kernel_rfl) (by simp) ?_
  refine AllReadyH.cons rfl (fun K hK => ?_) ?_
  · skip
    dsimp only [List.getElem_toArray, List.getElem_cons_succ, List.getElem_cons_zero]
    go_simp
    obtain ⟨w1, hW⟩ : ∃ W', W' = w3.alloc (.cells #[.bool true] 4) := ⟨_, rfl⟩
    obtain ⟨k2, hk⟩ : ∃ k, k = w3.heap.size := ⟨_, rfl⟩
    have H3 := Lib.hid (HH.out.alloc (.cells #[.bool true] 4))
    have HC4 : Hid (w1.heap[k2]? = some (.cells #[.bool true] 4 (0, 0))) := by show _ = _; rw [hW, hk]; exact heap_alloc_new _ _
    rw [← hW] at H3 ⊢
    rw [← hk]
    refine hK.out _ _ H3.out.r0 (fun hHeld => ?_)
    clear hK K hW hk
    refine wpAnyH_ready (rs := [3, 7]) (by kernel_rfl) (by simp) ?_
    refine AllReadyH.cons rfl (fun K hK => ?_) ?_
    · skip
      dsimp only [List.getElem_toArray, List.getElem_cons_succ, List.getElem_cons_zero]
      rw [if_pos (by rfl)]
      refine wp_one (w := w1) Try.underlying27 info4 rfl (by decide) (.tmp 14) (.tmp 15) (by rfl) base (.slice ph m ch) m (hs.map bv) (by rfl) H3.out.oh k2 (.bool true) 4 (by rfl) HC4.out rfl hml H3.out.fit ?_
      intro g6 c7 w5 hO hG
      have H8 := Lib.hid (H3.out.growH hO hG)
      refine hK.out _ _ H8.out.r0 (fun hHeld => ?_)
      clear hK K hO hG
      (try simp only [Act.put, List.setIfInBounds_toArray, List.set_cons_zero, List.set_cons_succ])
      refine wpAnyH_take (i := 9) (v := ?_) rfl (by kernel_rfl) (by kernel_rfl) (by kernel_rfl) (fun _ _ _ h => h) (Or.inl ⟨by rfl, ?_⟩) (by assumption) ?_
      rotate_left
      focus (intro W' hS; go_simp; try (with_reducible rfl))
      dsimp only [List.getElem_toArray, List.getElem_cons_succ, List.getElem_cons_zero]
      (try simp only [Act.put, List.setIfInBounds_toArray, List.set_cons_zero, List.set_cons_succ])
      refine wpAnyH_ready (rs := [7]) (by kernel_rfl) (by simp) ?_
      refine AllReadyH.cons rfl (fun K hK => ?_) ?_
      · skip
        dsimp only [List.getElem_toArray, List.getElem_cons_succ, List.getElem_cons_zero]
        go_simp
        obtain ⟨w9, hW⟩ : ∃ W', W' = w5.alloc (.cells #[.int .i64 x] 3) := ⟨_, rfl⟩
        obtain ⟨k10, hk⟩ : ∃ k, k = w5.heap.size := ⟨_, rfl⟩
        have H11 := Lib.hid (H8.out.alloc (.cells #[.int .i64 x] 3))
        have HC12 : Hid (w9.heap[k10]? = some (.cells #[.int .i64 x] 3 (0, 0))) := by show _ = _; rw [hW, hk]; exact heap_alloc_new _ _
        rw [← hW] at H11 ⊢
        rw [← hk]
        refine hK.out _ _ H11.out.r0 (fun hHeld => ?_)
        clear hK K hW hk
        refine wpAnyH_ready (rs := [8]) (by kernel_rfl) (by simp) ?_
        refine AllReadyH.cons rfl (fun K hK => ?_) ?_
        · skip
          dsimp only [List.getElem_toArray, List.getElem_cons_succ, List.getElem_cons_zero]
          rw [if_pos (by rfl)]
          refine wp_one (w := w9) Try.underlying28 info3 rfl (by decide) (.tmp 18) (.tmp 20) (by rfl) base (.slice pa m ca) m (xs.map iv) (by rfl) H11.out.oa k10 (.int .i64 x) 3 (by rfl) HC12.out rfl hml H11.out.fit ?_
          intro g14 c15 w13 hO hG
          have H16 := Lib.hid (H11.out.growA hO hG)
          refine hK.out _ _ H16.out.r0 (fun hHeld => ?_)
          clear hK K hO hG
          (try simp only [Act.put, List.setIfInBounds_toArray, List.set_cons_zero, List.set_cons_succ])
          refine wpAnyH_done (by kernel_rfl) ?_ _
          exact ⟨k2, g6, c7, k10, g14, c15, rfl, H16.out⟩
        exact AllReadyH.nil
      exact AllReadyH.nil
    refine AllReadyH.cons rfl (fun K hK => ?_) ?_
    · skip
      dsimp only [List.getElem_toArray, List.getElem_cons_succ, List.getElem_cons_zero]
      go_simp
      obtain ⟨w17, hW⟩ : ∃ W', W' = w1.alloc (.cells #[.int .i64 x] 3) := ⟨_, rfl⟩
      obtain ⟨k18, hk⟩ : ∃ k, k = w1.heap.size := ⟨_, rfl⟩
      have H19 := Lib.hid (H3.out.alloc (.cells #[.int .i64 x] 3))
      have HC20 : Hid (w17.heap[k18]? = some (.cells #[.int .i64 x] 3 (0, 0))) := by show _ = _; rw [hW, hk]; exact heap_alloc_new _ _
      have HC21 : Hid (w17.heap[k2]? = some (.cells #[.bool true] 4 (0, 0))) := by show _ = _; rw [hW, heap_alloc_old _ _ (blk_lt HC4.out)]; exact HC4.out
      rw [← hW] at H19 ⊢
      rw [← hk]
      refine hK.out _ _ H19.out.r0 (fun hHeld => ?_)
      clear hK K hW hk
      refine wpAnyH_ready (rs := [3]) (by kernel_rfl) (by simp) ?_
      refine AllReadyH.cons rfl (fun K hK => ?_) ?_
      · skip
        dsimp only [List.getElem_toArray, List.getElem_cons_succ, List.getElem_cons_zero]
        rw [if_pos (by rfl)]
        refine wp_one (w := w17) Try.underlying27 info4 rfl (by decide) (.tmp 14) (.tmp 15) (by rfl) base (.slice ph m ch) m (hs.map bv) (by rfl) H19.out.oh k2 (.bool true) 4 (by rfl) HC21.out rfl hml H19.out.fit ?_
        intro g23 c24 w22 hO hG
        have H25 := Lib.hid (H19.out.growH hO hG)
        have HC26 : Hid (w22.heap[k18]? = some (.cells #[.int .i64 x] 3 (0, 0))) := (hG.block k18 (blk_lt HC20.out) (fun e => own_ne H19.out.oh HC20.out (by decide) e.symm)).trans HC20.out
        refine hK.out _ _ H25.out.r0 (fun hHeld => ?_)
        clear hK K hO hG
        (try simp only [Act.put, List.setIfInBounds_toArray, List.set_cons_zero, List.set_cons_succ])
        refine wpAnyH_take (i := 9) (v := ?_) rfl (by kernel_rfl) (by kernel_rfl) (by kernel_rfl) (fun _ _ _ h => h) (Or.inl ⟨by rfl, ?_⟩) (by assumption) ?_
        rotate_left
        focus (intro W' hS; go_simp; try (with_reducible rfl))
        dsimp only [List.getElem_toArray, List.getElem_cons_succ, List.getElem_cons_zero]
        (try simp only [Act.put, List.setIfInBounds_toArray, List.set_cons_zero, List.set_cons_succ])
        refine wpAnyH_ready (rs := [8]) (by kernel_rfl) (by simp) ?_
        refine AllReadyH.cons rfl (fun K hK => ?_) ?_
        · skip
          dsimp only [List.getElem_toArray, List.getElem_cons_succ, List.getElem_cons_zero]
          rw [if_pos (by rfl)]
          refine wp_one (w := w22) Try.underlying28 info3 rfl (by decide) (.tmp 18) (.tmp 20) (by rfl) base (.slice pa m ca) m (xs.map iv) (by rfl) H25.out.oa k18 (.int .i64 x) 3 (by rfl) HC26.out rfl hml H25.out.fit ?_
          intro g28 c29 w27 hO hG
          have H30 := Lib.hid (H25.out.growA hO hG)
          refine hK.out _ _ H30.out.r0 (fun hHeld => ?_)
          clear hK K hO hG
          (try simp only [Act.put, List.setIfInBounds_toArray, List.set_cons_zero, List.set_cons_succ])
          refine wpAnyH_done (by kernel_rfl) ?_ _
          exact ⟨k2, g23, c24, k18, g28, c29, rfl, H30.out⟩
        exact AllReadyH.nil
      exact AllReadyH.nil
    exact AllReadyH.nil
  refine AllReadyH.cons rfl (fun K hK => ?_) ?_
  · skip
    dsimp only [List.getElem_toArray, List.getElem_cons_succ, List.getElem_cons_zero]
    go_simp
    obtain ⟨w31, hW⟩ : ∃ W', W' = w3.alloc (.cells #[.int .i64 x] 3) := ⟨_, rfl⟩
    obtain ⟨k32, hk⟩ : ∃ k, k = w3.heap.size := ⟨_, rfl⟩
    have H33 := Lib.hid (HH.out.alloc (.cells #[.int .i64 x] 3))
    have HC34 : Hid (w31.heap[k32]? = some (.cells #[.int .i64 x] 3 (0, 0))) := by show _ = _; rw [hW, hk]; exact heap_alloc_new _ _
    rw [← hW] at H33 ⊢
    rw [← hk]
    refine hK.out _ _ H33.out.r0 (fun hHeld => ?_)
    clear hK K hW hk
    refine wpAnyH_ready (rs := [2]) (by kernel_rfl) (by simp) ?_
    refine AllReadyH.cons rfl (fun K hK => ?_) ?_
    · skip
      dsimp only [List.getElem_toArray, List.getElem_cons_succ, List.getElem_cons_zero]
      go_simp
      obtain ⟨w35, hW⟩ : ∃ W', W' = w31.alloc (.cells #[.bool true] 4) := ⟨_, rfl⟩
      obtain ⟨k36, hk⟩ : ∃ k, k = w31.heap.size := ⟨_, rfl⟩
      have H37 := Lib.hid (H33.out.alloc (.cells #[.bool true] 4))
      have HC38 : Hid (w35.heap[k36]? = some (.cells #[.bool true] 4 (0, 0))) := by show _ = _; rw [hW, hk]; exact heap_alloc_new _ _
      have HC39 : Hid (w35.heap[k32]? = some (.cells #[.int .i64 x] 3 (0, 0))) := by show _ = _; rw [hW, heap_alloc_old _ _ (blk_lt HC34.out)]; exact HC34.out
      rw [← hW] at H37 ⊢
      rw [← hk]
      refine hK.out _ _ H37.out.r0 (fun hHeld => ?_)
      clear hK K hW hk
      refine wpAnyH_ready (rs := [3]) (by kernel_rfl) (by simp) ?_
      refine AllReadyH.cons rfl (fun K hK => ?_) ?_
      · skip
        dsimp only [List.getElem_toArray, List.getElem_cons_succ, List.getElem_cons_zero]
        rw [if_pos (by rfl)]
        refine wp_one (w := w35) Try.underlying27 info4 rfl (by decide) (.tmp 14) (.tmp 15) (by rfl) base (.slice ph m ch) m (hs.map bv) (by rfl) H37.out.oh k36 (.bool true) 4 (by rfl) HC38.out rfl hml H37.out.fit ?_
        intro g41 c42 w40 hO hG
        have H43 := Lib.hid (H37.out.growH hO hG)
        have HC44 : Hid (w40.heap[k32]? = some (.cells #[.int .i64 x] 3 (0, 0))) := (hG.block k32 (blk_lt HC39.out) (fun e => own_ne H37.out.oh HC39.out (by decide) e.symm)).trans HC39.out
        refine hK.out _ _ H43.out.r0 (fun hHeld => ?_)
        clear hK K hO hG
        (try simp only [Act.put, List.setIfInBounds_toArray, List.set_cons_zero, List.set_cons_succ])
        refine wpAnyH_take (i := 9) (v := ?_) rfl (by kernel_rfl) (by kernel_rfl) (by kernel_rfl) (fun _ _ _ h => h) (Or.inl ⟨by rfl, ?_⟩) (by assumption) ?_
        rotate_left
        focus (intro W' hS; go_simp; try (with_reducible rfl))
        dsimp only [List.getElem_toArray, List.getElem_cons_succ, List.getElem_cons_zero]
        (try simp only [Act.put, List.setIfInBounds_toArray, List.set_cons_zero, List.set_cons_succ])
        refine wpAnyH_ready (rs := [8]) (by kernel_rfl) (by simp) ?_
        refine AllReadyH.cons rfl (fun K hK => ?_) ?_
        · skip
          dsimp only [List.getElem_toArray, List.getElem_cons_succ, List.getElem_cons_zero]
          rw [if_pos (by rfl)]
          refine wp_one (w := w40) Try.underlying28 info3 rfl (by decide) (.tmp 18) (.tmp 20) (by rfl) base (.slice pa m ca) m (xs.map iv) (by rfl) H43.out.oa k32 (.int .i64 x) 3 (by rfl) HC44.out rfl hml H43.out.fit ?_
          intro g46 c47 w45 hO hG
          have H48 := Lib.hid (H43.out.growA hO hG)
          refine hK.out _ _ H48.out.r0 (fun hHeld => ?_)
          clear hK K hO hG
          (try simp only [Act.put, List.setIfInBounds_toArray, List.set_cons_zero, List.set_cons_succ])
          refine wpAnyH_done (by kernel_rfl) ?_ _
          exact ⟨k36, g41, c42, k32, g46, c47, rfl, H48.out⟩
        exact AllReadyH.nil
      exact AllReadyH.nil
    exact AllReadyH.nil
  exact AllReadyH.nil
  obtain ⟨k1, g1, c1, k2, g2, c2, rfl, hD⟩ := h
  simp only [List.drop_succ_cons, List.drop_zero]
  have e0 : w4.cell? ⟨b0, 0, none⟩ = some (.int .i64 room) := cell_of_row _ _ _ _ _ _ hD.r0
  have e1 : w4.cell? ⟨b0, 1, none⟩ = some (.slice ph m ch) := cell_of_row _ _ _ _ _ _ hD.r0
  have e2 : w4.cell? ⟨b0, 2, none⟩ = some (.slice pa m ca) := cell_of_row _ _ _ _ _ _ hD.r0
  have z1 : w4.frozen? ⟨b0, 1, none⟩ = false := frozen_of_row _ _ _ _ _ hD.r0
  have z2 : w4.frozen? ⟨b0, 2, none⟩ = false := frozen_of_row _ _ _ _ _ hD.r0
  have hbb : base ≤ b0 := by have := HB0.out; omega
  have hbw : w.heap.size ≤ b0 := by have := HB0.out; omega
  obtain ⟨w5, hw5⟩ : ∃ w5, w5 = (w4.setCell ⟨b0, 1, none⟩ (.slice (some ⟨g1, 0, none⟩) (m + 1 : Nat) c1)).setCell ⟨b0, 2, none⟩ (.slice (some ⟨g2, 0, none⟩) (m + 1 : Nat) c2) := ⟨_, rfl⟩
  have hD5 := hD.put (u := .slice (some ⟨g1, 0, none⟩) (m + 1 : Nat) c1) (v := .slice (some ⟨g2, 0, none⟩) (m + 1 : Nat) c2) hbb hbw
  rw [← hw5] at hD5
  have f0 : w5.cell? ⟨b0, 0, none⟩ = some (.int .i64 room) := cell_of_row _ _ _ _ _ _ hD5.r0
  have f1 : w5.cell? ⟨b0, 1, none⟩ = some (.slice (some ⟨g1, 0, none⟩) (m + 1 : Nat) c1) := cell_of_row _ _ _ _ _ _ hD5.r0
  have f2 : w5.cell? ⟨b0, 2, none⟩ = some (.slice (some ⟨g2, 0, none⟩) (m + 1 : Nat) c2) := cell_of_row _ _ _ _ _ _ hD5.r0
  have p0 : w5.cell? ⟨b0 + 1, 0, none⟩ = some (.int .i64 0) := cell_of_row _ _ _ _ _ _ hD5.r1
  have p1 : w5.cell? ⟨b0 + 1, 1, none⟩ = some (.slice none 0 0) := cell_of_row _ _ _ _ _ _ hD5.r1
  have p2 : w5.cell? ⟨b0 + 1, 2, none⟩ = some (.slice none 0 0) := cell_of_row _ _ _ _ _ _ hD5.r1
  have y0 : w5.frozen? ⟨b0 + 1, 0, none⟩ = false := frozen_of_row _ _ _ _ _ hD5.r1
  have y1 : w5.frozen? ⟨b0 + 1, 1, none⟩ = false := frozen_of_row _ _ _ _ _ hD5.r1
  have y2 : w5.frozen? ⟨b0 + 1, 2, none⟩ = false := frozen_of_row _ _ _ _ _ hD5.r1
  have HD5 := Lib.hid hD5
  have HW5 := Lib.hid hw5
  clear hD hD5 dd HR0 HR1 HRt HB2 HZ2 HH hw5
  go_wp2_with (rw [← HW5.out])
  clear e0 e1 e2 z1 z2
  go_region_held3 (fun W' : World => W'.cell? ⟨b0, 0, none⟩ = some (.int .i64 room) ∧ W'.cell? ⟨b0, 1, none⟩ = some (.slice (some ⟨g1, 0, none⟩) (m + 1 : Nat) c1) ∧ W'.cell? ⟨b0, 2, none⟩ = some (.slice (some ⟨g2, 0, none⟩) (m + 1 : Nat) c2)) (first | (go_keep; done) | simp [*]) (fail)
  have HD6 := Lib.hid (HD5.out.put1 (a := .int .i64 room) (b := .slice (some ⟨g1, 0, none⟩) (m + 1 : Nat) c1) (c := .slice (some ⟨g2, 0, none⟩) (m + 1 : Nat) c2) hbb hbw)
  go_wp2_with fail
  refine ret30' (cs := #[.int .i64 room, .slice (some ⟨g1, 0, none⟩) (m + 1 : Nat) c1, .slice (some ⟨g2, 0, none⟩) (m + 1 : Nat) c2]) rfl rfl rfl rfl rfl HD6.out.r1 rfl ?_
  refine ⟨some ⟨g1, 0, none⟩, some ⟨g2, 0, none⟩, c1, c2, rfl, ⟨?_, ?_, by omega, HD6.out.fit, fun i b y h1 h2 => ?_, fun k hk => ?_⟩, HD6.out.bl.drew, HD6.out.oth⟩
  · rw [List.map_append]; exact HD6.out.oh
  · rw [List.map_append]; exact HD6.out.oa
  · have l1 := HX.out.lenH
    have l2 := HX.out.lenA
    by_cases hi : i < m
    · rw [List.getElem?_append_left (by omega)] at h1 h2
      rw [updI_ne _ _ _ _ (by omega)]
      exact HX.out.hit i b y h1 h2
    · have h3 := (List.getElem?_eq_some_iff.1 h1).1
      rw [List.length_append] at h3
      simp at h3
      obtain rfl : i = m := by omega
      rw [List.getElem?_append_right (by omega)] at h1 h2
      simp [l1] at h1
      simp [l2] at h2
      rw [updI_at, ← h1, ← h2]; simp
  · unfold updI at hk
    by_cases e : k = (m : Int) + 1
    · omega
    · rw [if_neg e] at hk
      have := HX.out.out k hk
      omega

end Go.Proofs.Ytenmgjmbiamhcaa
