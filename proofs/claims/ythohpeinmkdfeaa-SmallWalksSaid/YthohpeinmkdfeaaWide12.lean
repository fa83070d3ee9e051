/-
  The board: nobody's; the calls at the end of each statement of the chapter wide return true.
-/
import Derived.Test.YthohpeinmkdfeaaWide11
namespace Go.Proofs.Ythohpeinmkdfeaa
open Go.RowKit
set_option linter.unusedVariables false

theorem len17_nobd (v : Value) (w : World) (h : NoBd w v) : Calls Try.prog 17 #[v] w fun e w' => e = .returned (.int .i64 0) ∧ w' = w := by
  have H := Lib.hid (ok52_no v w h)
  have hnot : ∀ (x : Bool) (w : World), (Op.unary .not (.bool x)).run Try.prog w = .ok (.bool (!x)) w := fun _ _ => rfl
  clear h
  go_enter Try.func17, Try.ntmps17
  go_wp2_with fail
  refine H.out.mono ?_; rintro e w' ⟨rfl, rfl⟩
  go_wp2_with fail
  go_ret
  exact ⟨rfl, rfl⟩
theorem room34_nobd (v : Value) (w : World) (h : NoBd w v) : Calls Try.prog 34 #[v] w fun e w' => e = .returned (.int .i64 0) ∧ w' = w := by
  have H := Lib.hid (ok52_no v w h)
  have hnot : ∀ (x : Bool) (w : World), (Op.unary .not (.bool x)).run Try.prog w = .ok (.bool (!x)) w := fun _ _ => rfl
  clear h
  go_enter Try.func34, Try.ntmps34
  go_wp2_with fail
  refine H.out.mono ?_; rintro e w' ⟨rfl, rfl⟩
  go_wp2_with fail
  go_ret
  exact ⟨rfl, rfl⟩
theorem used30_nobd (v : Value) (w : World) (h : NoBd w v) : Calls Try.prog 30 #[v] w fun e w' => e = .returned (.int .i64 0) ∧ w' = w := by
  have H := Lib.hid (ok52_no v w h)
  have hnot : ∀ (x : Bool) (w : World), (Op.unary .not (.bool x)).run Try.prog w = .ok (.bool (!x)) w := fun _ _ => rfl
  clear h
  go_enter Try.func30, Try.ntmps30
  go_wp2_with fail
  refine H.out.mono ?_; rintro e w' ⟨rfl, rfl⟩
  go_wp2_with fail
  go_ret
  exact ⟨rfl, rfl⟩
theorem copy15_nobd (v : Value) (w : World) (h : NoBd w v) : Calls Try.prog 15 #[v] w fun e w' => e = .returned (.pointer none) ∧ w' = w := by
  have H := Lib.hid (ok52_no v w h)
  have hnot : ∀ (x : Bool) (w : World), (Op.unary .not (.bool x)).run Try.prog w = .ok (.bool (!x)) w := fun _ _ => rfl
  clear h
  go_enter Try.func15, Try.ntmps15
  go_wp2_with fail
  refine H.out.mono ?_; rintro e w' ⟨rfl, rfl⟩
  go_wp2_with fail
  go_ret
  exact ⟨rfl, rfl⟩

theorem BdE.cnt_le {w : World} {base g room : Nat} {f : Nat → Option Int} {U : Nat} {fp : List Nat} (h : BdE w base g room f U fp) : cntF f ≤ U ∧ U ≤ 256 := by
  obtain ⟨A, X, F, px, cx, pf, cf, h, hf, rfl, e2⟩ := h
  have := h.plc.sum
  have := h.plc.most
  rw [← cnt_held A X f hf]
  omega

def f75 : Nat → Option Int := updF (fun _ => none) 7 (some 5)
theorem cnt_f75 : cntF f75 = 1 := by decide +kernel
theorem cnt_none : cntF (fun _ => none) = 0 := by decide +kernel

set_option maxRecDepth 100000 in
set_option maxHeartbeats 1600000 in
theorem alive18 (w : World) : Calls Try.prog 18 #[] w fun e w' => e = .returned (.bool true) ∧ Below w.heap.size w w' := by
  go_enter Try.func18, Try.ntmps18
  go_wp2_with fail
  refine (new12_yes w.heap.size 48 w (Or.inl rfl) (Nat.le_refl _)).mono ?_
  rintro e w1 ⟨rfl, hE, hB⟩
  have HE := Lib.hid hE
  have HB := Lib.hid hB
  clear hE hB
  go_wp2_with fail
  refine (setBd HE.out HB.out.size 7 (by decide) 5).mono ?_
  rintro e w2 hr
  have hr2 : e = .returned (.int .i64 0) ∧ ∃ U' fp', BdE w2 w.heap.size w.heap.size 48 f75 U' fp' ∧ Below w.heap.size w w2 ∧ U' = 1 := by
    rcases hr with ⟨_, h, _⟩ | ⟨_, he, U', fp', hE', hX, hfp, hU⟩
    · rw [cnt_none] at h; omega
    · refine ⟨he, U', fp', hE', hX.below HB.out (by simp) HB.out.size, ?_⟩
      have h1 := hE'.cnt_le.1
      have e1 : cntF (updF (fun _ => none) 7 (some 5)) = 1 := cnt_f75
      omega
  clear hr
  obtain ⟨rfl, U', fp', hE', hB', rfl⟩ := hr2
  have HE2 := Lib.hid hE'
  have HB2 := Lib.hid hB'
  clear hE' hB' HE HB
  go_wp2_with fail
  refine (getE HE2.out 7 (by decide)).mono ?_
  rw [show f75 7 = some 5 from rfl]
  rintro e w3 ⟨rfl, z, hw3⟩
  have HE3 : Hid (BdE w3 w.heap.size w.heap.size 48 f75 1 fp') := by show BdE _ _ _ _ _ _ _; rw [hw3]; exact HE2.out.drewN z
  have HB3 : Hid (Below w.heap.size w w3) := by show Below _ _ _; rw [hw3]; exact below_drewN HB2.out z
  clear hw3 HE2 HB2
  simp only [Option.isSome, valO, Option.getD]
  go_wp2_with fail
  refine (prevE HE3.out 255).mono ?_
  rintro e w4 ⟨r, hr, rfl, z, hw4⟩
  have hr7 : r = ⟨7, 5, true⟩ := hr.det (Or.inl ⟨7, 5, by decide, by decide, rfl, fun c h1 h2 _ => by unfold f75 updF; rw [if_neg (by omega)], rfl⟩)
  have HE4 : Hid (BdE w4 w.heap.size w.heap.size 48 f75 1 fp') := by show BdE _ _ _ _ _ _ _; rw [hw4]; exact HE3.out.drewN z
  have HB4 : Hid (Below w.heap.size w w4) := by show Below _ _ _; rw [hw4]; exact below_drewN HB3.out z
  clear hw4 HE3 HB3 hr
  subst hr7
  simp only [tri]
  go_wp2_with fail
  refine (lenE HE4.out).mono ?_
  rw [cnt_f75]
  rintro e w' ⟨rfl, hw'⟩
  rw [hw']; clear hw' w'
  go_wp2_with fail
  refine (roomE HE4.out).mono ?_
  rintro e w' ⟨rfl, hw'⟩
  rw [hw']; clear hw' w'
  go_wp2_with fail
  refine (usedE HE4.out).mono ?_
  rintro e w' ⟨rfl, hw'⟩
  rw [hw']; clear hw' w'
  go_wp2_with fail
  refine (copyE HE4.out HB4.out.size).mono ?_
  rintro e w5 ⟨rfl, hB5, fp5, hE5, _⟩
  have HE5 := Lib.hid hE5
  have HB5 := Lib.hid (Below.step HB4.out hB5)
  clear hE5 hB5
  go_wp2_with fail
  refine (lenE HE5.out).mono ?_
  rw [cnt_f75]
  rintro e w' ⟨rfl, hw'⟩
  rw [hw']; clear hw' w'
  go_wp2_with fail
  go_ret
  exact ⟨rfl, HB5.out⟩

end Go.Proofs.Ythohpeinmkdfeaa
