/-
  The walk of the statement IencOrder.
-/
import Derived.Test.YtbldahimdkifiaaLaw03
namespace Go.Proofs.Ytbldahimdkifiaa
open Go.RowKit
set_option linter.unusedVariables false

set_option maxRecDepth 100000 in
set_option maxHeartbeats 400000 in
theorem iorder_long (a0 x y : Int) (p : Option Addr) (n c : Nat) (w : World) (h : 300 < n) (hn : n ≤ 9223372036854775807) :
    Calls Try.prog 12 #[.int .i64 a0, .agg #[.int .i64 x, .int .i64 y], .slice p n c] w fun e w' => e = .returned (.bool true) ∧ Below w.heap.size w w' := by
  have d : decide (300 < (n : Int)) = true := by simp; omega
  go_enter Try.func12, Try.ntmps12
  go_wp2_with fail
  refine (alive51 _).mono ?_; rintro e w' ⟨rfl, hbel⟩
  have HL6 := Lib.hid (Below.step ((Below.refl _ _).alloc (Nat.le_refl _) _) hbel)
  clear hbel
  go_wp2_with fail
  go_ret
  exact ⟨rfl, HL6.out⟩

set_option maxRecDepth 100000 in
set_option maxHeartbeats 800000 in
theorem iorder_bad (a0 x y : Int) (p : Option Addr) (n c : Nat) (w : World) (h : n ≤ 300) (hp : iputE a0 x ≠ 0 ∨ iputE a0 y ≠ 0) :
    Calls Try.prog 12 #[.int .i64 a0, .agg #[.int .i64 x, .int .i64 y], .slice p n c] w fun e w' => e = .returned (.bool true) ∧ Below w.heap.size w w' := by
  have H1 := Lib.hid (fun w => put45 a0 x w)
  have H2 := Lib.hid (fun w => put45 a0 y w)
  generalize iputE a0 x = ex at *
  generalize iputE a0 y = ey at *
  generalize iputL a0 x = lx at *
  generalize iputL a0 y = ly at *
  have hq : (ex != 0) = true ∨ (ex != 0) = false ∧ (ey != 0) = true := by
    by_cases q : ex = 0
    · right; simp [q]; omega
    · left; simp [q]
  clear hp
  have d : decide (300 < (n : Int)) = false := by simp; omega
  have hcmp : (cmpL [0] [1] : Int) = -1 := by decide +kernel
  go_enter Try.func12, Try.ntmps12
  go_wp2_with fail
  refine (pbool56 false _).mono ?_; rintro e w1 ⟨v, rfl, p1, c1, rfl, hb1, hbel1⟩
  have hb1' : Bs w1 p1 1 c1 [0] := hb1
  have HB1 := Lib.hid hb1'
  have HL1 := Lib.hid (Below.step ((Below.refl _ _).alloc (Nat.le_refl _) _) hbel1)
  have g0 : w1.cell? ⟨w.heap.size, 0, none⟩ = some (.int .i64 x) := by
    rw [hbel1.cell (by simp), cell_of_row _ _ _ _ 80 (0, 0) (heap_alloc_new w _)]; rfl
  have g1 : w1.cell? ⟨w.heap.size, 1, none⟩ = some (.int .i64 y) := by
    rw [hbel1.cell (by simp), cell_of_row _ _ _ _ 80 (0, 0) (heap_alloc_new w _)]; rfl
  have hlt1 := block_lt_of_cell g0
  have G0 := Lib.hid g0
  have G1 := Lib.hid g1
  have LT1 := Lib.hid hlt1
  clear hbel1 hb1 hb1' g0 g1 hlt1
  go_wp2_with fail
  refine (pbool56 true _).mono ?_; rintro e w2 ⟨v, rfl, p2, c2, rfl, hb2, hbel2⟩
  have hb2' : Bs w2 p2 1 c2 [1] := hb2
  have HC2 := Lib.hid hb2'
  have HB2 := Lib.hid (HB1.out.below hbel2)
  have HL2 := Lib.hid (Below.step HL1.out hbel2)
  have g0 : w2.cell? ⟨w.heap.size, 0, none⟩ = some (.int .i64 x) := by rw [hbel2.cell LT1.out]; exact G0.out
  have g1 : w2.cell? ⟨w.heap.size, 1, none⟩ = some (.int .i64 y) := by rw [hbel2.cell LT1.out]; exact G1.out
  have hlt2 := block_lt_of_cell g0
  have G0 := Lib.hid g0
  have G1 := Lib.hid g1
  have LT2 := Lib.hid hlt2
  clear hbel2 hb2 hb2' g0 g1 hlt2
  go_wp2_with fail
  refine (cmp16 p1 p2 1 c1 1 c2 [0] [1] _ HB2.out HC2.out).mono ?_
  rw [hcmp]
  rintro e w3 ⟨rfl, z, hw3⟩
  have HL3 : Hid (Below w.heap.size w w3) := by show Below _ _ _; rw [hw3]; exact below_drewN HL2.out z
  have g0 : w3.cell? ⟨w.heap.size, 0, none⟩ = some (.int .i64 x) := by rw [hw3]; exact G0.out
  have g1 : w3.cell? ⟨w.heap.size, 1, none⟩ = some (.int .i64 y) := by rw [hw3]; exact G1.out
  have hlt3 := Lib.hid (block_lt_of_cell g0)
  clear hw3 G0 G1 HL2 HB2 HC2 HL1 HB1 LT1 LT2
  rcases hq with q1 | ⟨q1, q2⟩
  all_goals
    go_wp2_with fail
    refine (H1.out _).mono ?_; rintro e w4 ⟨v, rfl, p4, c4, rfl, _, hbel4⟩
    have HL4 := Lib.hid (Below.step HL3.out hbel4)
    have k1 : w4.cell? ⟨w.heap.size, 1, none⟩ = some (.int .i64 y) := by rw [hbel4.cell hlt3.out]; exact g1
    clear hbel4 g0 g1
    go_wp2_with fail
    refine (H2.out _).mono ?_; rintro e w5 ⟨v, rfl, p5, c5, rfl, _, hbel5⟩
    have HL5 := Lib.hid (Below.step HL4.out hbel5)
    clear hbel5
    go_wp2_with fail
    refine (alive51 _).mono ?_; rintro e w' ⟨rfl, hbel⟩
    have HL6 := Lib.hid (Below.step HL5.out hbel)
    clear hbel
    go_wp2_with fail
    go_ret
    exact ⟨rfl, HL6.out⟩

/-- what is put is taken, whatever stands behind; the bytes are in order as the numbers -/
theorem itakeN_put (wd : Nat) (n : Int) (b : List Int) (he : errV (wd : Int) = 0) (hL : ileastV wd = -imostV wd - 1) (hm : mostV wd = 2 * imostV wd + 1) (h0 : ileastV wd ≤ n) (hn : n ≤ imostV wd) :
    takeE wd (beL wd (n - ileastV wd) ++ b).length = 0 ∧ itakeN wd (beL wd (n - ileastV wd) ++ b) = n ∧ takeL wd (beL wd (n - ileastV wd) ++ b) = b := by
  obtain ⟨a1, a2, a3⟩ := takeN_put wd (n - ileastV wd) b he (by omega) (by omega)
  refine ⟨a1, ?_, a3⟩
  unfold itakeN
  rw [if_pos a1, a2]
  omega

theorem ordI_sub (a b l : Int) : ordI (a - l) (b - l) = ordI a b := by
  unfold ordI
  by_cases h : a < b
  · rw [if_pos h, if_pos (by omega)]
  · by_cases h2 : b < a
    · rw [if_neg h, if_pos h2, if_neg (by omega), if_pos (by omega)]
    · rw [if_neg h, if_neg h2, if_neg (by omega), if_neg (by omega)]

set_option maxRecDepth 100000 in
set_option maxHeartbeats 1600000 in
theorem iorder_ok (wd : Nat) (x y : Int) (p : Option Addr) (n c : Nat) (xs : List Int) (w : World) (h : n ≤ 300) (hB : Bs w p n c xs) (h1 : 1 ≤ wd) (h8 : wd ≤ 8)
    (he : errV (wd : Int) = 0) (hL : ileastV wd = -imostV wd - 1) (hm : mostV wd = 2 * imostV wd + 1) (lx0 : ileastV wd ≤ x) (ly0 : ileastV wd ≤ y) (mx : x ≤ imostV wd) (my : y ≤ imostV wd) :
    Calls Try.prog 12 #[.int .i64 wd, .agg #[.int .i64 x, .int .i64 y], .slice p n c] w fun e w' => e = .returned (.bool true) ∧ Below w.heap.size w w' := by
  have H1 := Lib.hid (fun w => put45 wd x w)
  have H2 := Lib.hid (fun w => put45 wd y w)
  have ex : iputE wd x = 0 := by unfold iputE; rw [if_neg (by omega), if_neg (by omega)]
  have ey : iputE wd y = 0 := by unfold iputE; rw [if_neg (by omega), if_neg (by omega)]
  have lx : iputL wd x = beL wd (x - ileastV wd) := by unfold iputL; rw [if_pos ex]; rfl
  have ly : iputL wd y = beL wd (y - ileastV wd) := by unfold iputL; rw [if_pos ey]; rfl
  rw [ex, lx] at H1
  rw [ey, ly] at H2
  have tT := itakeN_put wd x xs he hL hm lx0 mx
  have oO := order_beL wd (x - ileastV wd) (y - ileastV wd) (by omega) (most_lt wd he _ (by omega)) (by omega) (most_lt wd he _ (by omega))
  rw [ordI_sub] at oO
  have lbx := length_beL wd (x - ileastV wd)
  have lby := length_beL wd (y - ileastV wd)
  have bbx := byte_beL wd (x - ileastV wd)
  generalize beL wd (x - ileastV wd) = bX at *
  generalize beL wd (y - ileastV wd) = bY at *
  generalize hord : ordI x y = od at *
  have HX := Lib.hid bbx
  have HT := Lib.hid tT
  have HO := Lib.hid oO
  have HOD := Lib.hid hord
  have LBX := Lib.hid lbx
  have LBY := Lib.hid lby
  have HB := Lib.hid hB
  clear ex ey lx ly lbx lby hB he mx my bbx oO tT hord hL hm lx0 ly0
  have d : decide (300 < (n : Int)) = false := by simp; omega
  have hcmp : (cmpL [0] [1] : Int) = -1 := by decide +kernel
  go_enter Try.func12, Try.ntmps12
  go_wp2_with fail
  refine (pbool56 false _).mono ?_; rintro e v1 ⟨v, rfl, p1, c1, rfl, hb1, hbel1⟩
  have hb1' : Bs v1 p1 1 c1 [0] := hb1
  have HB1 := Lib.hid hb1'
  have HL1 := Lib.hid (Below.step ((Below.refl _ _).alloc (Nat.le_refl _) _) hbel1)
  have g0 : v1.cell? ⟨w.heap.size, 0, none⟩ = some (.int .i64 x) := by
    rw [hbel1.cell (by simp), cell_of_row _ _ _ _ 80 (0, 0) (heap_alloc_new w _)]; rfl
  have g1 : v1.cell? ⟨w.heap.size, 1, none⟩ = some (.int .i64 y) := by
    rw [hbel1.cell (by simp), cell_of_row _ _ _ _ 80 (0, 0) (heap_alloc_new w _)]; rfl
  have LT1 := Lib.hid (block_lt_of_cell g0)
  have G0 := Lib.hid g0
  have G1 := Lib.hid g1
  clear hbel1 hb1 hb1' g0 g1
  go_wp2_with fail
  refine (pbool56 true _).mono ?_; rintro e v2 ⟨v, rfl, p2, c2, rfl, hb2, hbel2⟩
  have hb2' : Bs v2 p2 1 c2 [1] := hb2
  have HC2 := Lib.hid hb2'
  have HB2 := Lib.hid (HB1.out.below hbel2)
  have HL2 := Lib.hid (Below.step HL1.out hbel2)
  have g0 : v2.cell? ⟨w.heap.size, 0, none⟩ = some (.int .i64 x) := by rw [hbel2.cell LT1.out]; exact G0.out
  have g1 : v2.cell? ⟨w.heap.size, 1, none⟩ = some (.int .i64 y) := by rw [hbel2.cell LT1.out]; exact G1.out
  have G0' := Lib.hid g0
  have G1' := Lib.hid g1
  clear hbel2 hb2 hb2' g0 g1 G0 G1 HL1 HB1 LT1
  go_wp2_with fail
  refine (cmp16 p1 p2 1 c1 1 c2 [0] [1] _ HB2.out HC2.out).mono ?_
  rw [hcmp]
  rintro e v3 ⟨rfl, z, hw3⟩
  have HL3 : Hid (Below w.heap.size w v3) := by show Below _ _ _; rw [hw3]; exact below_drewN HL2.out z
  have g0 : v3.cell? ⟨w.heap.size, 0, none⟩ = some (.int .i64 x) := by rw [hw3]; exact G0'.out
  have g1 : v3.cell? ⟨w.heap.size, 1, none⟩ = some (.int .i64 y) := by rw [hw3]; exact G1'.out
  have LT3 := Lib.hid (block_lt_of_cell g0)
  clear hw3 G0' G1' HL2 HB2 HC2 hcmp
  go_wp2_with fail
  refine (H1.out _).mono ?_; rintro e w1 ⟨v, rfl, p1, c1, rfl, hb1, hbel1⟩
  have hbelA : Below w.heap.size w w1 := Below.step HL3.out hbel1
  have k0 : w1.cell? ⟨w.heap.size, 0, none⟩ = some (.int .i64 x) := by rw [hbel1.cell LT3.out]; exact g0
  have k1 : w1.cell? ⟨w.heap.size, 1, none⟩ = some (.int .i64 y) := by rw [hbel1.cell LT3.out]; exact g1
  clear g0 g1
  have g0 := k0
  have g1 := k1
  clear k0 k1 LT3 HL3
  have hlt : w.heap.size < w1.heap.size := block_lt_of_cell g0
  have HL1 := Lib.hid hbelA
  have HB1 := Lib.hid (HB.out.below hbelA)
  rw [LBX.out] at hb1
  have HC1 := Lib.hid hb1
  rw [LBX.out]
  clear hbel1 hbelA hb1
  go_wp2_with fail
  refine (H2.out _).mono ?_; rintro e w2 ⟨v, rfl, p2, c2, rfl, hb2, hbel2⟩
  have k0 : w2.cell? ⟨w.heap.size, 0, none⟩ = some (.int .i64 x) := by rw [hbel2.cell hlt]; exact g0
  have k1 : w2.cell? ⟨w.heap.size, 1, none⟩ = some (.int .i64 y) := by rw [hbel2.cell hlt]; exact g1
  have HL2 := Lib.hid (Below.step HL1.out hbel2)
  have HB2 := Lib.hid (HB1.out.below hbel2)
  have HC2 := Lib.hid (HC1.out.below hbel2)
  rw [LBY.out] at hb2
  have HD2 := Lib.hid hb2
  have hlt2 : w.heap.size < w2.heap.size := block_lt_of_cell k0
  rw [LBY.out]
  clear g0 g1 hbel2 hb2 hlt
  go_wp2_with (at_builtin; refine stop ?_)
  refine unhid ?_
  refine wpList_append_bytes rfl _ _ (by rfl) w2.heap.size none 0 0 [] (by rfl) (World.ownsRow_nil _ _ _ _) p1 wd c1 bX (by rfl) HC2.out (by omega) (Nat.le_refl _) ?_
  intro pA cA w3 hownA hbel3
  rw [Nat.zero_add] at hownA ⊢
  rw [List.nil_append] at hownA
  have HOA := Lib.hid hownA
  have HL23 := Lib.hid hbel3
  have HB3 := Lib.hid (HB2.out.below hbel3)
  have hs23 := hbel3.size
  clear hownA hbel3
  go_wp2_with (at_builtin; refine stop ?_)
  refine unhid ?_
  refine wpList_append_bytes rfl _ _ (by rfl) w2.heap.size pA wd cA bX (by rfl) HOA.out p n c xs (by rfl) HB3.out (by omega) hs23 ?_
  intro pB cB w4 hownB hbel4
  have hb24 : Below w2.heap.size w2 w4 := HL23.out.trans hbel4
  have HOB := Lib.hid (Bs.ofOwn hownB (by omega) (fun z hz => by
    rcases List.mem_append.1 hz with hz | hz
    · exact HX.out z hz
    · exact HB.out.byte z hz))
  have HL4 := Lib.hid (Below.step HL2.out hb24)
  have HC4 := Lib.hid (HC2.out.below hb24)
  have HD4 := Lib.hid (HD2.out.below hb24)
  have HB4 := Lib.hid (HB2.out.below hb24)
  have g0 : w4.cell? ⟨w.heap.size, 0, none⟩ = some (.int .i64 x) := by rw [hb24.cell hlt2]; exact k0
  have g1 : w4.cell? ⟨w.heap.size, 1, none⟩ = some (.int .i64 y) := by rw [hb24.cell hlt2]; exact k1
  have hlt4 : w.heap.size < w4.heap.size := block_lt_of_cell g0
  clear hownB hbel4 hb24 k0 k1 hs23 HOA HL23 HB3 hlt2
  go_wp2_with fail
  refine (take52 wd pB (wd + n) cB (bX ++ xs) _ HOB.out).mono ?_
  rw [HT.out.1, HT.out.2.1, HT.out.2.2]
  rintro e w5 ⟨v, rfl, p5, c5, rfl, hb5, hbel5⟩
  have k0 : w5.cell? ⟨w.heap.size, 0, none⟩ = some (.int .i64 x) := by rw [hbel5.cell hlt4]; exact g0
  have k1 : w5.cell? ⟨w.heap.size, 1, none⟩ = some (.int .i64 y) := by rw [hbel5.cell hlt4]; exact g1
  have HL5 := Lib.hid (Below.step HL4.out hbel5)
  have HC5 := Lib.hid (HC4.out.below hbel5)
  have HD5 := Lib.hid (HD4.out.below hbel5)
  have HB5 := Lib.hid (HB4.out.below hbel5)
  rw [HB.out.len] at hb5
  rw [HB.out.len]
  have HE5 := Lib.hid hb5
  clear hbel5 hb5 g0 g1 hlt4 HC4 HD4 HB4
  have H16 : Hid (∀ k, Calls Try.prog 16 #[.slice p1 wd c1, .slice p2 wd c2] (w5.drewN k) fun e w' => e = .returned (.int .i64 od) ∧ ∃ z, w' = (w5.drewN k).drewN z) := fun k => by
    have := cmp16 p1 p2 wd c1 wd c2 bX bY (w5.drewN k) (HC5.out.drewN k) (HD5.out.drewN k)
    rwa [HO.out] at this
  have H18 : Hid (∀ k, Calls Try.prog 18 #[.slice p5 n c5, .slice p n c] (w5.drewN k) fun e w' => e = .returned (.bool true) ∧ ∃ z, w' = (w5.drewN k).drewN z) := fun k => by
    have := same18 p5 p n c5 n c xs xs (w5.drewN k) (HE5.out.drewN k) (HB5.out.drewN k)
    rwa [show (cmpL xs xs == 0) = true by rw [beq_iff_eq, cmpL_zero]] at this
  have H38 : Hid (∀ W, Calls Try.prog 57 #[.int .i64 x, .int .i64 y] W fun e w' => e = .returned (.int .i64 od) ∧ w' = W) := fun W => by
    have := cmp57 x y W
    rwa [HOD.out] at this
  have H39 : Hid (∀ W, Calls Try.prog 58 #[.int .i64 x, .int .i64 y] W fun e w' => e = .returned (.int .i64 od) ∧ w' = W) := fun W => by
    have := cmp58 x y W
    rwa [HOD.out] at this
  have HLT := Lib.hid (block_lt_of_cell k0)
  have q1 : (od == od) = true := by simp
  have q2 : (x == x) = true := by simp
  have q3 : ((wd : Int) == wd) = true := by simp
  clear HC5 HD5 HE5 HB5 HO HX HT LBX LBY HOD HB HB1 HB2 HC1 HC2 HD2 H1 H2
  go_wp2_with fail
  go_region_held3 (fun w' => w'.cell? ⟨w.heap.size, 0, none⟩ = some (.int .i64 x) ∧ w'.cell? ⟨w.heap.size, 1, none⟩ = some (.int .i64 y)) (first | go_keep | (exact ⟨by rw [hbel.cell HLT.out]; exact k0, by rw [hbel.cell HLT.out]; exact k1⟩)) (first
    | (go_at_call 16; refine (H16.out _).mono ?_; rintro e w' ⟨rfl, z, rfl⟩)
    | (go_at_call 57; refine (H38.out _).mono ?_; rintro e w' ⟨rfl, rfl⟩)
    | (go_at_call 58; refine (H39.out _).mono ?_; rintro e w' ⟨rfl, rfl⟩)
    | (go_at_call 18; refine (H18.out _).mono ?_; rintro e w' ⟨rfl, z, rfl⟩)
    | (go_at_call 51; refine (alive51 _).mono ?_; rintro e w' ⟨rfl, hbel⟩))
  have HLE := Lib.hid (Below.step HL5.out (Below.step (below_drewN (Below.refl _ w5) _) hbel))
  clear hbel
  go_wp2_with fail
  go_ret
  exact ⟨rfl, HLE.out⟩

theorem walkIencOrder (a0 x y : Int) (p : Option Addr) (n c : Nat) (w : World) (w0 : (Lit.int .i64 a0).wf = true) (wx : (Lit.int .i64 x).wf = true) (wy : (Lit.int .i64 y).wf = true) (w2 : RawB w p n c) :
    Calls Try.prog 12 #[.int .i64 a0, .agg #[.int .i64 x, .int .i64 y], .slice p n c] w fun e w' => e = .returned (.bool true) ∧ Below w.heap.size w w' := by
  obtain ⟨hn, xs, hB⟩ := w2
  by_cases h300 : n ≤ 300
  · by_cases hp : iputE a0 x ≠ 0 ∨ iputE a0 y ≠ 0
    · exact iorder_bad a0 x y p n c w h300 hp
    · have e1 : iputE a0 x = 0 := by omega
      have e2 : iputE a0 y = 0 := by omega
      have he : errV a0 = 0 := by
        rcases err_or a0 with he | he
        · exact he
        · unfold iputE at e1; rw [if_pos he] at e1; omega
      obtain ⟨wd, rfl, h1, h8, hp, hl, hm, h0, h9, hb⟩ := width_nat a0 he
      have m1 : ¬ (x < ileastV wd ∨ imostV wd < x) := fun hh => by
        unfold iputE at e1; rw [if_neg (by omega), if_pos hh] at e1; omega
      have m2 : ¬ (y < ileastV wd ∨ imostV wd < y) := fun hh => by
        unfold iputE at e2; rw [if_neg (by omega), if_pos hh] at e2; omega
      exact iorder_ok wd x y p n c xs w h300 (hB (by omega)) h1 h8 he hl hm (by omega) (by omega) (by omega) (by omega)
  · exact iorder_long a0 x y p n c w (by omega) (by unfold maxLen at hn; omega)

end Go.Proofs.Ytbldahimdkifiaa
