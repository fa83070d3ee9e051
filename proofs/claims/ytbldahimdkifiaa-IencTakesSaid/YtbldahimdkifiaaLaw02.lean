/-
  The walks of the three statements of the chapter uenc.
-/
import Derived.Test.YtbldahimdkifiaaAliveB
namespace Go.Proofs.Ytbldahimdkifiaa
open Go.RowKit
set_option linter.unusedVariables false

/-- what is known of a slice of bytes that came in: of a short one its bytes -/
def RawB (w : World) (p : Option Addr) (n c : Nat) : Prop := n ≤ maxLen ∧ ∃ xs : List Int, n ≤ 140737488351232 → Bs w p n c xs

theorem byte_of_wf {x : Int} (h : (Lit.int .u8 x).wf = true) : 0 ≤ x ∧ x < 256 := by
  have := h
  simp [Lit.wf, IntKind.min, IntKind.max, IntKind.signed, IntKind.bits] at this
  omega

theorem RawB.nil (w : World) : RawB w none 0 0 := ⟨by unfold maxLen; omega, [], fun _ => ⟨rfl, Nat.le_refl _, by omega, by simp, Lib.BytesIn.nil _ _ _⟩⟩

theorem RawB.of_cells {w : World} {x : Addr} {l c : Nat} {zs : List Int} (hl : l ≤ c) (hm : c ≤ maxLen) (hz : zs.length = c)
    (hcell : ∀ i, i < zs.length → w.cell? (x.add i) = some (.int .u8 (zs.getD i 0))) (hwz : ∀ n ∈ zs, (Lit.int .u8 n).wf = true) : RawB w (some x) l c :=
  ⟨by omega, zs.take l, fun hb => ⟨by rw [List.length_take]; omega, hl, hb, fun y hy => byte_of_wf (hwz y (List.mem_of_mem_take hy)),
    Lib.BytesIn.of_cells (fun i hi => by rw [hcell i (by omega)]; simp [List.getD_eq_getElem?_getD, hi])⟩⟩

set_option maxRecDepth 100000 in
set_option maxHeartbeats 400000 in
theorem walkUencPuts (a0 a1 : Int) (w : World) (w0 : (Lit.int .i64 a0).wf = true) (w1 : (Lit.int .u64 a1).wf = true) :
    Calls Try.prog 6 #[.int .i64 a0, .int .u64 a1] w fun e w' => e = .returned (.bool true) ∧ Below w.heap.size w w' := by
  have hb : 0 ≤ a1 ∧ a1 ≤ 18446744073709551615 := by
    have := w1
    simp [Lit.wf, IntKind.min, IntKind.max, IntKind.signed, IntKind.bits] at this
    omega
  have H1 := Lib.hid (fun w => put29 a0 a1 w hb.1 hb.2)
  have H2 := Lib.hid (fun w => put30 a0 a1 w hb.1 hb.2)
  have H3 := Lib.hid (fun w => most31 a0 w)
  have H4 := Lib.hid (fun w => most32 a0 w)
  have hz : (cmpL (putL a0 a1) (putL a0 a1) == 0) = true := by rw [beq_iff_eq, cmpL_zero]
  clear hb w0 w1
  generalize putE a0 a1 = pe at *
  generalize putL a0 a1 = pl at *
  generalize errV a0 = er at *
  generalize mostV a0 = mo at *
  go_enter Try.func6, Try.ntmps6
  go_wp2_with fail
  refine (H1.out _).mono ?_; rintro e w1 ⟨v, rfl, p1, c1, rfl, hb1, _, hbel1⟩
  have HB1 := Lib.hid hb1
  have HL1 := Lib.hid hbel1
  clear hb1 hbel1
  go_wp2_with fail
  refine (H2.out _).mono ?_; rintro e w2 ⟨v, rfl, p2, c2, rfl, hb2, _, hbel2⟩
  have HB1' := Lib.hid (HB1.out.below hbel2)
  have HL2 := Lib.hid (Below.step HL1.out hbel2)
  have HB2 := Lib.hid hb2
  clear hb2 hbel2 HB1 HL1
  go_wp2_with fail
  refine (H3.out _).mono ?_; rintro e w' ⟨rfl, rfl⟩
  go_wp2_with fail
  refine (H4.out _).mono ?_; rintro e w' ⟨rfl, rfl⟩
  go_wp2_with fail
  refine (same18 _ _ _ _ _ _ pl pl _ HB1'.out HB2.out).mono ?_
  rw [hz]
  rintro e w' ⟨rfl, z, rfl⟩
  have q1 : (pe == pe) = true := by simp
  have q2 : (mo == mo) = true := by simp
  have q3 : (er == er) = true := by simp
  have HL3 := Lib.hid (below_drewN HL2.out z)
  go_wp2_with fail
  refine (alive33 _).mono ?_; rintro e w' ⟨rfl, hbel⟩
  have HL4 := Lib.hid (Below.step HL3.out hbel)
  clear hbel
  go_wp2_with fail
  go_ret
  exact ⟨rfl, HL4.out⟩

theorem OldB.none {w : World} : OldB w w (.slice none 0 0) [] := NewB.none.old

set_option maxRecDepth 100000 in
set_option maxHeartbeats 400000 in
theorem walkUencTakes (a0 : Int) (p : Option Addr) (n c : Nat) (w : World) (w0 : (Lit.int .i64 a0).wf = true) (w1 : RawB w p n c) :
    Calls Try.prog 7 #[.int .i64 a0, .slice p n c] w fun e w' => e = .returned (.bool true) ∧ Below w.heap.size w w' := by
  obtain ⟨hn, xs, hx⟩ := w1
  unfold maxLen at hn
  by_cases h300 : n ≤ 300
  · have hB := hx (by omega)
    clear hx w0
    have H1 := Lib.hid (fun w hB => take34 a0 p n c xs w hB)
    have H2 := Lib.hid (fun w hB => take35 a0 p n c xs w hB)
    have H3 := Lib.hid (fun w hB => get36 a0 p n c xs w hB)
    have H4 := Lib.hid (fun w hB => get37 a0 p n c xs w hB)
    have HB := Lib.hid hB
    clear hB
    have hz : (cmpL (takeL a0 xs) (takeL a0 xs) == 0) = true := by rw [beq_iff_eq, cmpL_zero]
    generalize takeN a0 xs = tn at *
    generalize takeE a0 xs.length = te at *
    generalize takeL a0 xs = tl at *
    generalize getN a0 xs = gn at *
    generalize getE a0 xs = ge at *
    go_enter Try.func7, Try.ntmps7
    go_wp2_with fail
    refine (H1.out _ HB.out).mono ?_; rintro e w1 ⟨v, rfl, p1, c1, rfl, hb1, _, hbel1⟩
    have HB1 := Lib.hid (HB.out.below hbel1)
    have HL1 := Lib.hid hbel1
    have HX1 := Lib.hid hb1
    clear hb1 hbel1
    go_wp2_with fail
    refine (H2.out _ HB1.out).mono ?_; rintro e w2 ⟨v, rfl, p2, c2, rfl, hb2, hbel2⟩
    have HB2 := Lib.hid (HB1.out.below hbel2)
    have HL2 := Lib.hid (Below.step HL1.out hbel2)
    have HX2 := Lib.hid (HX1.out.below hbel2)
    have HY2 := Lib.hid hb2
    clear hb2 hbel2
    go_wp2_with fail
    refine (H3.out _ HB2.out).mono ?_; rintro e w3 ⟨rfl, hbel3⟩
    have HB3 := Lib.hid (HB2.out.below hbel3)
    have HL3 := Lib.hid (Below.step HL2.out hbel3)
    have HX3 := Lib.hid (HX2.out.below hbel3)
    have HY3 := Lib.hid (HY2.out.below hbel3)
    clear hbel3
    go_wp2_with fail
    refine (H4.out _ HB3.out).mono ?_; rintro e w4 ⟨rfl, hbel4⟩
    have HL4 := Lib.hid (Below.step HL3.out hbel4)
    have HX4 := Lib.hid (HX3.out.below hbel4)
    have HY4 := Lib.hid (HY3.out.below hbel4)
    clear hbel4
    have q1 : (tn == tn) = true := by simp
    have q2 : (te == te) = true := by simp
    have q3 : (gn == gn) = true := by simp
    have q4 : (ge == ge) = true := by simp
    go_wp2_with fail
    refine (same18 _ _ _ _ _ _ tl tl _ HX4.out HY4.out).mono ?_
    rw [hz]
    rintro e w' ⟨rfl, z, rfl⟩
    have HL5 := Lib.hid (below_drewN HL4.out z)
    go_wp2_with fail
    refine (alive33 _).mono ?_; rintro e w' ⟨rfl, hbel⟩
    have HL6 := Lib.hid (Below.step HL5.out hbel)
    clear hbel
    go_wp2_with fail
    go_ret
    exact ⟨rfl, HL6.out⟩
  · clear hx w0
    have d : decide (300 < (n : Int)) = true := by simp; omega
    go_enter Try.func7, Try.ntmps7
    go_wp2_with fail
    refine (alive33 _).mono ?_; rintro e w' ⟨rfl, hbel⟩
    have HL6 := Lib.hid hbel
    clear hbel
    go_wp2_with fail
    go_ret
    exact ⟨rfl, HL6.out⟩

end Go.Proofs.Ytbldahimdkifiaa
