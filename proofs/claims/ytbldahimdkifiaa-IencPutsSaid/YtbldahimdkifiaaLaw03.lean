/-
  The walks of the statements IencPuts and IencTakes.
-/
import Derived.Test.YtbldahimdkifiaaIenc2
namespace Go.Proofs.Ytbldahimdkifiaa
open Go.RowKit
set_option linter.unusedVariables false

set_option maxRecDepth 100000 in
set_option maxHeartbeats 800000 in
theorem walkIencPuts (a0 a1 : Int) (w : World) (w0 : (Lit.int .i64 a0).wf = true) (w1 : (Lit.int .i64 a1).wf = true) :
    Calls Try.prog 10 #[.int .i64 a0, .int .i64 a1] w fun e w' => e = .returned (.bool true) ∧ Below w.heap.size w w' := by
  have H1 := Lib.hid (fun w => put45 a0 a1 w)
  have H2 := Lib.hid (fun w => put46 a0 a1 w)
  have H3 := Lib.hid (fun w => most47 a0 w)
  have H4 := Lib.hid (fun w => most48 a0 w)
  have H5 := Lib.hid (fun w => least49 a0 w)
  have H6 := Lib.hid (fun w => least50 a0 w)
  have hz : (cmpL (iputL a0 a1) (iputL a0 a1) == 0) = true := by rw [beq_iff_eq, cmpL_zero]
  clear w0 w1
  generalize iputE a0 a1 = pe at *
  generalize iputL a0 a1 = pl at *
  generalize errV a0 = er at *
  generalize imostV a0 = mo at *
  generalize ileastV a0 = le at *
  go_enter Try.func10, Try.ntmps10
  go_wp2_with fail
  refine (H1.out _).mono ?_; rintro e w1 ⟨v, rfl, p1, c1, rfl, hb1, hbel1⟩
  have HB1 := Lib.hid hb1
  have HL1 := Lib.hid hbel1
  clear hb1 hbel1
  go_wp2_with fail
  refine (H2.out _).mono ?_; rintro e w2 ⟨v, rfl, p2, c2, rfl, hb2, hbel2⟩
  have HB1' := Lib.hid (HB1.out.below hbel2)
  have HL2 := Lib.hid (Below.step HL1.out hbel2)
  have HB2 := Lib.hid hb2
  clear hb2 hbel2 HB1 HL1
  go_wp2_with fail
  refine (H3.out _).mono ?_; rintro e w3 ⟨rfl, hbel3⟩
  have HL3 := Lib.hid (Below.step HL2.out hbel3)
  have HX3 := Lib.hid (HB1'.out.below hbel3)
  have HY3 := Lib.hid (HB2.out.below hbel3)
  clear hbel3 HB1' HB2 HL2
  go_wp2_with fail
  refine (H4.out _).mono ?_; rintro e w' ⟨rfl, rfl⟩
  go_wp2_with fail
  refine (H5.out _).mono ?_; rintro e w4 ⟨rfl, hbel4⟩
  have HL4 := Lib.hid (Below.step HL3.out hbel4)
  have HX4 := Lib.hid (HX3.out.below hbel4)
  have HY4 := Lib.hid (HY3.out.below hbel4)
  clear hbel4 HX3 HY3 HL3
  go_wp2_with fail
  refine (H6.out _).mono ?_; rintro e w' ⟨rfl, rfl⟩
  go_wp2_with fail
  refine (same18 _ _ _ _ _ _ pl pl _ HX4.out HY4.out).mono ?_
  rw [hz]
  rintro e w' ⟨rfl, z, rfl⟩
  have q1 : (pe == pe) = true := by simp
  have q2 : (mo == mo) = true := by simp
  have q3 : (er == er) = true := by simp
  have q4 : (le == le) = true := by simp
  have HL5 := Lib.hid (below_drewN HL4.out z)
  go_wp2_with fail
  refine (alive51 _).mono ?_; rintro e w' ⟨rfl, hbel⟩
  have HL6 := Lib.hid (Below.step HL5.out hbel)
  clear hbel
  go_wp2_with fail
  go_ret
  exact ⟨rfl, HL6.out⟩

set_option maxRecDepth 100000 in
set_option maxHeartbeats 800000 in
theorem walkIencTakes (a0 : Int) (p : Option Addr) (n c : Nat) (w : World) (w0 : (Lit.int .i64 a0).wf = true) (w1 : RawB w p n c) :
    Calls Try.prog 11 #[.int .i64 a0, .slice p n c] w fun e w' => e = .returned (.bool true) ∧ Below w.heap.size w w' := by
  obtain ⟨hn, xs, hx⟩ := w1
  unfold maxLen at hn
  by_cases h300 : n ≤ 300
  · have hB := hx (by omega)
    clear hx w0
    have H1 := Lib.hid (fun w hB => take52 a0 p n c xs w hB)
    have H2 := Lib.hid (fun w hB => take53 a0 p n c xs w hB)
    have H3 := Lib.hid (fun w hB => tbool54 p n c xs w hB)
    have H4 := Lib.hid (fun w hB => tbool55 p n c xs w hB)
    have HB := Lib.hid hB
    clear hB
    have hz : (cmpL (takeL a0 xs) (takeL a0 xs) == 0) = true := by rw [beq_iff_eq, cmpL_zero]
    have hz2 : (cmpL (boolL xs) (boolL xs) == 0) = true := by rw [beq_iff_eq, cmpL_zero]
    generalize itakeN a0 xs = tn at *
    generalize takeE a0 xs.length = te at *
    generalize takeL a0 xs = tl at *
    generalize boolB xs = bb at *
    generalize boolE xs = be at *
    generalize boolL xs = bl at *
    go_enter Try.func11, Try.ntmps11
    go_wp2_with fail
    refine (H1.out _ HB.out).mono ?_; rintro e w1 ⟨v, rfl, p1, c1, rfl, hb1, hbel1⟩
    have HB1 := Lib.hid (HB.out.below hbel1)
    have HL1 := Lib.hid hbel1
    have HX1 := Lib.hid hb1
    clear hb1 hbel1
    go_wp2_with fail
    refine (H2.out _ HB1.out).mono ?_; rintro e w2 ⟨v, rfl, p2, c2, rfl, hb2, hbel2⟩
    have HB2 := Lib.hid (HB1.out.below hbel2)
    have HL2 := Lib.hid (Below.step HL1.out hbel2)
    have HX2 := Lib.hid (HX1.out.below hbel2)
    have HY2 := Lib.hid hb2
    clear hb2 hbel2 HX1 HL1 HB1
    go_wp2_with fail
    refine (H3.out _ HB2.out).mono ?_; rintro e w3 ⟨v, rfl, p3, c3, rfl, hb3, hbel3⟩
    have HB3 := Lib.hid (HB2.out.below hbel3)
    have HL3 := Lib.hid (Below.step HL2.out hbel3)
    have HX3 := Lib.hid (HX2.out.below hbel3)
    have HY3 := Lib.hid (HY2.out.below hbel3)
    have HU3 := Lib.hid hb3
    clear hb3 hbel3 HX2 HY2 HL2 HB2
    go_wp2_with fail
    refine (H4.out _ HB3.out).mono ?_; rintro e w4 ⟨v, rfl, p4, c4, rfl, hb4, hbel4⟩
    have HL4 := Lib.hid (Below.step HL3.out hbel4)
    have HX4 := Lib.hid (HX3.out.below hbel4)
    have HY4 := Lib.hid (HY3.out.below hbel4)
    have HU4 := Lib.hid (HU3.out.below hbel4)
    have HV4 := Lib.hid hb4
    clear hb4 hbel4 HX3 HY3 HU3 HL3 HB3
    have q1 : (tn == tn) = true := by simp
    have q2 : (te == te) = true := by simp
    have q3 : (bb == bb) = true := by simp
    have q4 : (be == be) = true := by simp
    go_wp2_with fail
    refine (same18 _ _ _ _ _ _ tl tl _ HX4.out HY4.out).mono ?_
    rw [hz]
    rintro e w' ⟨rfl, z, rfl⟩
    have HL5 := Lib.hid (below_drewN HL4.out z)
    have HU5 := Lib.hid (HU4.out.drewN z)
    have HV5 := Lib.hid (HV4.out.drewN z)
    clear HX4 HY4 HU4 HV4 HL4
    go_wp2_with fail
    refine (same18 _ _ _ _ _ _ bl bl _ HU5.out HV5.out).mono ?_
    rw [hz2]
    rintro e w' ⟨rfl, z2, rfl⟩
    have HL6 : Hid (Below w.heap.size w (w4.drewN (z + z2))) := by show Below _ _ _; rw [← World.drewN_drewN]; exact below_drewN HL5.out z2
    go_wp2_with fail
    refine (alive51 _).mono ?_; rintro e w' ⟨rfl, hbel⟩
    have HL7 := Lib.hid (Below.step HL6.out hbel)
    clear hbel
    go_wp2_with fail
    go_ret
    exact ⟨rfl, HL7.out⟩
  · clear hx w0
    have d : decide (300 < (n : Int)) = true := by simp; omega
    go_enter Try.func11, Try.ntmps11
    go_wp2_with fail
    refine (alive51 _).mono ?_; rintro e w' ⟨rfl, hbel⟩
    have HL6 := Lib.hid hbel
    clear hbel
    go_wp2_with fail
    go_ret
    exact ⟨rfl, HL6.out⟩

end Go.Proofs.Ytbldahimdkifiaa
