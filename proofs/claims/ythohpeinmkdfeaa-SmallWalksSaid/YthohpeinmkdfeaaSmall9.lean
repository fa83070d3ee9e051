/-
  The small row: alive; whether a row is the document's; the walk of SmallNobody.
-/
import Derived.Test.YthohpeinmkdfeaaSmall8
namespace Go.Proofs.Ythohpeinmkdfeaa
open Go.RowKit
set_option linter.unusedVariables false

set_option maxRecDepth 100000 in
set_option maxHeartbeats 1600000 in
theorem alive42 (w : World) : Calls Try.prog 42 #[] w fun e w' => e = .returned (.bool true) ∧ Below w.heap.size w w' := by
  go_enter Try.func42, Try.ntmps42
  go_wp2_with fail
  refine (new40_yes 1 w ⟨by decide, by decide⟩).mono ?_
  rintro e w1 ⟨rfl, hE, hB⟩
  have HE := Lib.hid hE
  have HB := Lib.hid hB
  clear hE hB
  go_wp2_with fail
  refine (setS HE.out 7 (by decide) 5).mono ?_
  rintro e w2 ⟨n, f', rfl, hn, hE, hX⟩
  have hnf : n = 0 ∧ f' = f75 := by
    rcases hn with ⟨_, h, _⟩ | ⟨_, h1, h2⟩
    · rw [cntF_zero] at h; omega
    · exact ⟨h1, h2⟩
  obtain ⟨rfl, rfl⟩ := hnf
  have HE2 := Lib.hid hE
  have HB2 : Hid (Below w.heap.size w w2) := hX.below HB.out (by simp) HB.out.size
  clear hE hX hn HE HB
  go_wp2_with fail
  refine (setS HE2.out 8 (by decide) 1).mono ?_
  rintro e w3 ⟨n, f', rfl, hn, hE, hX⟩
  have hnf : n = 10 ∧ f' = f75 := by
    rcases hn with ⟨_, _, h1, h2⟩ | ⟨h, _⟩
    · exact ⟨h1, h2⟩
    · exact absurd ⟨rfl, by rw [cnt_f75]⟩ h
  obtain ⟨rfl, rfl⟩ := hnf
  have HE3 := Lib.hid hE
  have HB3 : Hid (Below w.heap.size w w3) := hX.below HB2.out (by simp) HB2.out.size
  clear hE hX hn HE2 HB2
  go_wp2_with fail
  refine (getS HE3.out 7 (by decide)).mono ?_
  rw [show f75 7 = some 5 from rfl]
  rintro e w4 ⟨rfl, z, hw4⟩
  have HE4 : Hid (SmE w4 w.heap.size 1 f75) := by show SmE _ _ _ _; rw [hw4]; exact HE3.out.drewN z
  have HB4 : Hid (Below w.heap.size w w4) := by show Below _ _ _; rw [hw4]; exact below_drewN HB3.out z
  clear hw4 HE3 HB3
  simp only [Option.isSome, valO, Option.getD]
  go_wp2_with fail
  refine (nextS HE4.out 0).mono ?_
  rintro e w5 ⟨r, hr, rfl, z, hw5⟩
  have hr7 : r = ⟨7, 5, true⟩ := hr.det (Or.inl ⟨7, 5, by decide, by decide, rfl, fun c h1 _ => by unfold f75 updF; rw [if_neg (by omega)], rfl⟩)
  have HE5 : Hid (SmE w5 w.heap.size 1 f75) := by show SmE _ _ _ _; rw [hw5]; exact HE4.out.drewN z
  have HB5 : Hid (Below w.heap.size w w5) := by show Below _ _ _; rw [hw5]; exact below_drewN HB4.out z
  clear hw5 HE4 HB4 hr
  subst hr7
  simp only [tri]
  go_wp2_with fail
  refine (lenS HE5.out).mono ?_
  rw [cnt_f75]
  rintro e w' ⟨rfl, hw'⟩
  rw [hw']; clear hw' w'
  go_wp2_with fail
  refine (roomS HE5.out).mono ?_
  rintro e w' ⟨rfl, hw'⟩
  rw [hw']; clear hw' w'
  go_wp2_with fail
  refine (copy46 _ _ _ _ HE5.out).mono ?_
  rintro e w6 ⟨rfl, hE, hB⟩
  have HE6 := Lib.hid hE
  have HB6 := Lib.hid (Below.step HB5.out hB)
  clear hE hB
  go_wp2_with fail
  refine (lenS HE6.out).mono ?_
  rw [cnt_f75]
  rintro e w' ⟨rfl, hw'⟩
  rw [hw']; clear hw' w'
  go_wp2_with fail
  go_ret
  exact ⟨rfl, HB6.out⟩

set_option maxRecDepth 100000 in
set_option maxHeartbeats 1600000 in
theorem as45 {g room : Nat} {f : Nat → Option Int} (cs : Array Value) (b : Nat) (from' : Int) (w : World) (hE : SmE w g room f) (h : Rf cs (room : Int) f) (hb : b < 256) :
    Calls Try.prog 45 #[.pointer (some ⟨g, 0, none⟩), .agg cs, .int .u8 b, .int .i64 from'] w fun e w' => e = .returned (.bool true) ∧ Below w.heap.size w w' := by
  obtain ⟨w1, hw1⟩ : ∃ w1, w1 = w.alloc (.cells cs 72) := ⟨_, rfl⟩
  have s1 : w1.heap.size = w.heap.size + 1 := by rw [hw1, World.size_alloc]
  have g1 : w1.heap[w.heap.size]? = some (.cells cs 72 (0, 0)) := by rw [hw1]; exact heap_alloc_new _ _
  have hB : Below w.heap.size w w1 := by rw [hw1]; exact (Below.refl _ _).alloc (Nat.le_refl _) _
  have hE1 : SmE w1 g room f := hE.step hB
  have hi : (Try.prog.info? 72).map (·.size) = some cs.size := by rw [h.size]; exact size72
  have hsz := h.size
  have hroom := h.room
  have HE : Hid (∀ W, Below w1.heap.size w1 W → SmE W g room f) := fun W hW => hE1.step hW
  have HG : Hid (∀ W, Below w1.heap.size w1 W → W.heap[w.heap.size]? = some (.cells cs 72 (0, 0))) := fun W hW => (hW.block w.heap.size (by omega)).trans g1
  have HO : Hid (∀ W, Below w1.heap.size w1 W → Below w.heap.size w W) := fun W hW => Below.step hB (hW.mono (by omega))
  have H := Lib.hid h
  have HI := Lib.hid hi
  have HW := Lib.hid hw1
  have HS := Lib.hid hsz
  have HR := Lib.hid hroom
  have q0 : IntKind.i64.wrap (b : Int) = (b : Int) := IntWalk.i64_in _ (by omega)
  have b0 : (0 : Int) ≤ (b : Int) := by omega
  have b1 : (b : Int) < 256 := by omega
  clear hE h hw1 s1 g1 hB hE1 hi hsz hroom
  go_enter Try.func45, Try.ntmps45
  go_wp2_with (rw [← HW.out])
  refine (getS (HE.out _ (Below.refl _ _)) b hb).mono ?_
  rintro e w2 ⟨rfl, z, hw2⟩
  have B2 : Hid (Below w1.heap.size w1 w2) := by show Below _ _ _; rw [hw2]; exact below_drewN (Below.refl _ _) z
  clear hw2
  have hcv := H.out.val b hb
  have hch := H.out.has b hb
  obtain ⟨xv, hxv⟩ : ∃ xv, xv = valO (f b) := ⟨_, rfl⟩
  obtain ⟨kv, hkv⟩ : ∃ kv, kv = (f b).isSome := ⟨_, rfl⟩
  rw [← hxv] at hcv ⊢
  rw [← hkv] at hch ⊢
  have HCV := Lib.hid hcv
  have HCH := Lib.hid hch
  clear hxv hkv hcv hch
  go_wp2_with fail
  refine (nextS (HE.out _ B2.out) from').mono ?_
  rintro e w3 ⟨⟨rb, rx, rk⟩, hn, rfl, z, hw3⟩
  have B3 : Hid (Below w1.heap.size w1 w3) := by show Below _ _ _; rw [hw3]; exact below_drewN B2.out z
  clear hw3
  simp only [tri]
  go_wp2_with fail
  refine (prevS (HE.out _ B3.out) from').mono ?_
  rintro e w4 ⟨⟨pb, px, pk⟩, hp, rfl, z, hw4⟩
  have B4 : Hid (Below w1.heap.size w1 w4) := by show Below _ _ _; rw [hw4]; exact below_drewN B3.out z
  clear hw4
  simp only [tri]
  have HG4 := Lib.hid (HG.out _ B4.out)
  go_wp2_with (refine wpList_load_row rfl 72 _ (by rfl) w.heap.size (by rfl) 72 cs (0, 0) _ HG4.out Try.underlying72 rfl HI.out ?_; refine stop ?_)
  refine unhid ?_
  go_wp2_with fail
  refine (next62 cs room f from' _ w4 H.out (by omega) rfl).mono ?_
  rintro e w5 ⟨r, hn2, rfl, hw5⟩
  obtain rfl := NextR.det hn hn2
  have B5 : Hid (Below w1.heap.size w1 w5) := Below.step B4.out hw5
  clear hw5 hn hn2
  simp only [tri]
  have HG5 := Lib.hid (HG.out _ B5.out)
  go_wp2_with (refine wpList_load_row rfl 72 _ (by rfl) w.heap.size (by rfl) 72 cs (0, 0) _ HG5.out Try.underlying72 rfl HI.out ?_; refine stop ?_)
  refine unhid ?_
  go_wp2_with fail
  refine (prev63 cs room f from' _ w5 H.out (by omega) rfl).mono ?_
  rintro e w6 ⟨r, hp2, rfl, hw6⟩
  obtain rfl := PrevR.det hp hp2
  have B6 : Hid (Below w1.heap.size w1 w6) := Below.step B5.out hw6
  clear hw6 hp hp2
  simp only [tri]
  have q1 : ((rb : Int) != (rb : Int)) = false := by simp
  have q2 : (rx != rx) = false := by simp
  have q3 : (rk != rk) = false := by simp
  have q4 : ((pb : Int) != (pb : Int)) = false := by simp
  have q5 : (px != px) = false := by simp
  have q6 : (pk != pk) = false := by simp
  have q7 : ((cntF f : Int) == (cntF f : Int)) = true := by simp
  have q8 : ((room : Int) == (room : Int)) = true := by simp
  have q9 : (kv == kv) = true := by simp
  have q10 : (xv == xv) = true := by simp
  go_wp2_with fail
  refine region_quiet (C := fun W => Below w1.heap.size w1 W) (by kernel_rfl) (by kernel_rfl) (below_drewN B6.out 1) ?_
  repeat (
    refine wpQuiet_step (fun K hK => ?_)
    first
    | (refine quiet_load (by rfl) 72 _ (by rfl) ⟨w.heap.size, 0, none⟩ (by rfl) (.agg cs) (fun W' hC => loadVar72 (HG.out W' hC) HS.out) ?_
       refine hK _ ?_; clear hK K)
    | (refine quiet_load (by rfl) 3 _ (by rfl) ⟨w.heap.size, 0, none⟩ (by rfl) (.int .i64 room) (fun W' hC => loadVar_cell (Try.isAgg3 _) ((cell_of_row _ _ _ _ _ _ (HG.out W' hC)).trans HR.out)) ?_
       refine hK _ ?_; clear hK K)
    | (refine quiet_load (by rfl) 3 _ (by rfl) ⟨w.heap.size, 257 + b, none⟩ (by rfl) (.int .i64 xv) (fun W' hC => loadVar_cell (Try.isAgg3 _) ((cell_of_row _ _ _ _ _ _ (HG.out W' hC)).trans HCV.out)) ?_
       refine hK _ ?_; clear hK K)
    | (refine quiet_load (by rfl) 4 _ (by rfl) ⟨w.heap.size, 1 + b, none⟩ (by rfl) (.bool kv) (fun W' hC => loadVar_cell (Try.isAgg4 _) ((cell_of_row _ _ _ _ _ _ (HG.out W' hC)).trans HCH.out)) ?_
       refine hK _ ?_; clear hK K)
    | (refine quiet_call (by rfl) 61 #[.agg cs] ?_ (.int .i64 (cntF f)) (fun W' hC => (len61 cs room f W' H.out).mono ?_) ?_
       · (intro W'; go_simp)
       · rintro e w' ⟨he, hw⟩; exact ⟨he, hw ▸ hC.alloc hC.size _⟩
       refine hK _ ?_; clear hK K)
    | (refine quiet_call (by rfl) 50 #[.pointer (some ⟨g, 0, none⟩)] ?_ (.int .i64 (cntF f)) (fun W' hC => (lenS (HE.out W' hC)).mono ?_) ?_
       · (intro W'; go_simp)
       · rintro e w' ⟨he, hw⟩; exact ⟨he, hw ▸ hC⟩
       refine hK _ ?_; clear hK K)
    | (refine quiet_call (by rfl) 51 #[.pointer (some ⟨g, 0, none⟩)] ?_ (.int .i64 room) (fun W' hC => (roomS (HE.out W' hC)).mono ?_) ?_
       · (intro W'; go_simp)
       · rintro e w' ⟨he, hw⟩; exact ⟨he, hw ▸ hC⟩
       refine hK _ ?_; clear hK K)
    | (refine quiet_pure (v := ?_) (by rfl) ?_ ?_
       rotate_left
       focus (intro W'; go_simp; try (with_reducible rfl))
       refine hK _ ?_; clear hK K)
    try simp only [Act.put, List.setIfInBounds_toArray, List.set_cons_zero, List.set_cons_succ])
  refine wpQuiet_nil ?_
  intro w7 B7
  have HB7 := Lib.hid (HO.out _ B7)
  clear B7
  go_wp2_with fail
  go_ret
  exact ⟨rfl, HB7.out⟩

theorem built114_nil : Try.prog.built 114 [] = some (rowL 0 0 (fun _ => 0) (fun _ => 0)).toArray := by kernel_rfl

set_option maxRecDepth 100000 in
set_option maxHeartbeats 1600000 in
theorem walkSmallNobody (b from' : Int) (w : World) (w0 : (Lit.int .u8 b).wf = true) (w1 : (Lit.int .i64 from').wf = true) :
    Calls Try.prog 11 #[.int .u8 b, .int .i64 from'] w fun e w' => e = .returned (.bool true) ∧ Below w.heap.size w w' := by
  clear w0 w1
  obtain ⟨W, hW⟩ : ∃ W, W = (w.alloc (.cells #[.int .i64 0, .int .i64 0, .int .u8 0, .int .u8 0, .int .u8 0, .int .u8 0, .int .u8 0, .int .u8 0, .int .u8 0, .int .u8 0, .int .u8 0, .int .u8 0, .int .u8 0, .int .u8 0, .int .u8 0, .int .u8 0, .int .u8 0, .int .u8 0, .int .i64 0, .int .i64 0, .int .i64 0, .int .i64 0, .int .i64 0, .int .i64 0, .int .i64 0, .int .i64 0, .int .i64 0, .int .i64 0, .int .i64 0, .int .i64 0, .int .i64 0, .int .i64 0, .int .i64 0, .int .i64 0] 114)).alloc (.cells #[.pointer none, .pointer (some ⟨w.heap.size, 0, none⟩)] 101) := ⟨_, rfl⟩
  have v0 : Var W w.heap.size 0 (.int .i64 0) := by rw [hW]; exact (Var.new rfl rfl).alloc _
  have s1 : (w.alloc (.cells #[.int .i64 0, .int .i64 0, .int .u8 0, .int .u8 0, .int .u8 0, .int .u8 0, .int .u8 0, .int .u8 0, .int .u8 0, .int .u8 0, .int .u8 0, .int .u8 0, .int .u8 0, .int .u8 0, .int .u8 0, .int .u8 0, .int .u8 0, .int .u8 0, .int .i64 0, .int .i64 0, .int .i64 0, .int .i64 0, .int .i64 0, .int .i64 0, .int .i64 0, .int .i64 0, .int .i64 0, .int .i64 0, .int .i64 0, .int .i64 0, .int .i64 0, .int .i64 0, .int .i64 0, .int .i64 0] 114)).heap.size = w.heap.size + 1 := World.size_alloc _ _
  have c0 : W.cell? ⟨w.heap.size + 1, 0, none⟩ = some (.pointer none) := by rw [hW]; exact (Var.new s1.symm rfl).cell
  have c1 : W.cell? ⟨w.heap.size + 1, 1, none⟩ = some (.pointer (some ⟨w.heap.size, 0, none⟩)) := by rw [hW]; exact (Var.new s1.symm rfl).cell
  have hB : Below w.heap.size w W := by rw [hW]; exact ((Below.refl _ _).alloc (Nat.le_refl _) _).alloc (by omega) _
  have HN : Hid (∀ k, k < 2 → ∃ v, W.cell? ⟨w.heap.size + 1, k, none⟩ = some v ∧ NoSm W v) := by
    intro k hk
    match k, hk with
    | 0, _ => exact ⟨_, c0, Or.inl rfl⟩
    | 1, _ => exact ⟨_, c1, Or.inr ⟨_, rfl, v0.cell⟩⟩
  have HB := Lib.hid hB
  have HW := Lib.hid hW
  clear hW v0 c0 c1 hB s1
  go_enter Try.func11, Try.ntmps11
  go_wp2_with fail
  rw [← HW.out]
  go_loop [19] (fun i => ∃ k : Nat, i = .int .i64 k ∧ k ≤ 2) (fun i => 2 - (intOf i).toNat)
  case atStart => exact ⟨0, rfl, by omega⟩
  case round =>
    obtain ⟨k, rfl, hk⟩ := hrel
    by_cases hlt : k < 2
    · obtain ⟨v, g, hn⟩ := HN.out k hlt
      have d0 : decide ((k : Int) < 2) = true := by simp; omega
      have NB := Lib.hid hn
      clear hn
      go_wp2_with fail
      refine (get48_no v b _ NB.out).mono ?_
      rintro e w' ⟨rfl, hw'⟩
      rw [hw']; clear hw' w'
      go_wp2_with fail
      refine (next47_no v from' _ NB.out).mono ?_
      rintro e w' ⟨rfl, hw'⟩
      rw [hw']; clear hw' w'
      simp only [tri]
      go_wp2_with fail
      refine (prev49_no v from' _ NB.out).mono ?_
      rintro e w' ⟨rfl, hw'⟩
      rw [hw']; clear hw' w'
      simp only [tri]
      go_wp2_with fail
      refine (set44_no v b 1 _ NB.out).mono ?_
      rintro e w' ⟨rfl, hw'⟩
      rw [hw']; clear hw' w'
      go_wp2_with fail
      refine (drop43_no v b _ NB.out).mono ?_
      rintro e w' ⟨rfl, hw'⟩
      rw [hw']; clear hw' w'
      go_wp2_with fail
      refine (len50_no v _ NB.out).mono ?_
      rintro e w' ⟨rfl, hw'⟩
      rw [hw']; clear hw' w'
      go_wp2_with fail
      refine (room51_no v _ NB.out).mono ?_
      rintro e w' ⟨rfl, hw'⟩
      rw [hw']; clear hw' w'
      go_wp2_with fail
      refine (copy46_no v _ NB.out).mono ?_
      rintro e w' ⟨rfl, hw'⟩
      rw [hw']; clear hw' w'
      go_wp2_with fail
      go_round
      case rel => exact ⟨k + 1, by go_num, by omega⟩
      case measure => simp [intOf]; omega
    · obtain rfl : k = 2 := by omega
      go_wp2_with fail
      refine (alive42 _).mono ?_; rintro e w' ⟨rfl, hbel⟩
      have HL := Lib.hid (Below.step HB.out hbel)
      clear hbel
      go_wp2_with fail
      go_ret
      exact ⟨rfl, HL.out⟩

end Go.Proofs.Ythohpeinmkdfeaa
