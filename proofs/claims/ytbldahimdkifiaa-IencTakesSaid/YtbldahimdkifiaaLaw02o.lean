/-
  The walk of the statement UencOrder.
-/
import Derived.Test.YtbldahimdkifiaaLaw02
import Derived.Test.YtbldahimdkifiaaPlainB
import Derived.Test.YtbldahimdkifiaaApp
import Derived.Deep.RegionHeld3
import Derived.Deep.DrawnRows
import Derived.ProofKit
import Derived.OpenShut
namespace Go.Proofs.Ytbldahimdkifiaa
open Go.RowKit
set_option linter.unusedVariables false

set_option maxRecDepth 100000 in
set_option maxHeartbeats 400000 in
theorem order_long (a0 x y : Int) (p : Option Addr) (n c : Nat) (w : World) (h : 300 < n) (hn : n ≤ 9223372036854775807) :
    Calls Try.prog 8 #[.int .i64 a0, .agg #[.int .u64 x, .int .u64 y], .slice p n c] w fun e w' => e = .returned (.bool true) ∧ Below w.heap.size w w' := by
  have d : decide (300 < (n : Int)) = true := by simp; omega
  go_enter Try.func8, Try.ntmps8
  go_wp2_with fail
  refine (alive33 _).mono ?_; rintro e w' ⟨rfl, hbel⟩
  have HL6 := Lib.hid (Below.step ((Below.refl _ _).alloc (Nat.le_refl _) _) hbel)
  clear hbel
  go_wp2_with fail
  go_ret
  exact ⟨rfl, HL6.out⟩

set_option maxRecDepth 100000 in
set_option maxHeartbeats 400000 in
theorem order_bad (a0 x y : Int) (p : Option Addr) (n c : Nat) (w : World) (h : n ≤ 300) (hx : 0 ≤ x ∧ x ≤ 18446744073709551615) (hy : 0 ≤ y ∧ y ≤ 18446744073709551615) (hp : putE a0 x ≠ 0 ∨ putE a0 y ≠ 0) :
    Calls Try.prog 8 #[.int .i64 a0, .agg #[.int .u64 x, .int .u64 y], .slice p n c] w fun e w' => e = .returned (.bool true) ∧ Below w.heap.size w w' := by
  have H1 := Lib.hid (fun w => put29 a0 x w hx.1 hx.2)
  have H2 := Lib.hid (fun w => put29 a0 y w hy.1 hy.2)
  generalize putE a0 x = ex at *
  generalize putE a0 y = ey at *
  generalize putL a0 x = lx at *
  generalize putL a0 y = ly at *
  by_cases q : ex = 0
  · have q2 : (ey != 0) = true := by simp; omega
    have q1 : (ex != 0) = false := by simp [q]
    clear hp q
    go_enter Try.func8, Try.ntmps8
    go_wp2_with fail
    refine (H1.out _).mono ?_; rintro e w1 ⟨v, rfl, p1, c1, rfl, _, _, hbel1⟩
    have HL1 := Lib.hid (Below.step ((Below.refl _ _).alloc (Nat.le_refl _) _) hbel1)
    have g : w1.cell? ⟨w.heap.size, 1, none⟩ = some (.int .u64 y) := by
      rw [hbel1.cell (by simp), cell_of_row _ _ _ _ 57 (0, 0) (heap_alloc_new w _)]; rfl
    clear hbel1
    go_wp2_with fail
    refine (H2.out _).mono ?_; rintro e w2 ⟨v, rfl, p2, c2, rfl, _, _, hbel2⟩
    have HL2 := Lib.hid (Below.step HL1.out hbel2)
    clear hbel2
    go_wp2_with fail
    refine (alive33 _).mono ?_; rintro e w' ⟨rfl, hbel⟩
    have HL6 := Lib.hid (Below.step HL2.out hbel)
    clear hbel
    go_wp2_with fail
    go_ret
    exact ⟨rfl, HL6.out⟩
  · have q1 : (ex != 0) = true := by simp [q]
    clear hp q
    go_enter Try.func8, Try.ntmps8
    go_wp2_with fail
    refine (H1.out _).mono ?_; rintro e w1 ⟨v, rfl, p1, c1, rfl, _, _, hbel1⟩
    have HL1 := Lib.hid (Below.step ((Below.refl _ _).alloc (Nat.le_refl _) _) hbel1)
    have g : w1.cell? ⟨w.heap.size, 1, none⟩ = some (.int .u64 y) := by
      rw [hbel1.cell (by simp), cell_of_row _ _ _ _ 57 (0, 0) (heap_alloc_new w _)]; rfl
    clear hbel1
    go_wp2_with fail
    refine (H2.out _).mono ?_; rintro e w2 ⟨v, rfl, p2, c2, rfl, _, _, hbel2⟩
    have HL2 := Lib.hid (Below.step HL1.out hbel2)
    clear hbel2
    go_wp2_with fail
    refine (alive33 _).mono ?_; rintro e w' ⟨rfl, hbel⟩
    have HL6 := Lib.hid (Below.step HL2.out hbel)
    clear hbel
    go_wp2_with fail
    go_ret
    exact ⟨rfl, HL6.out⟩

set_option maxRecDepth 100000 in
set_option maxHeartbeats 400000 in
theorem order_ok (wd : Nat) (x y : Int) (p : Option Addr) (n c : Nat) (xs : List Int) (w : World) (h : n ≤ 300) (hB : Bs w p n c xs) (h1 : 1 ≤ wd) (h8 : wd ≤ 8)
    (hx : 0 ≤ x ∧ x ≤ 18446744073709551615) (hy : 0 ≤ y ∧ y ≤ 18446744073709551615) (he : errV (wd : Int) = 0) (mx : x ≤ mostV wd) (my : y ≤ mostV wd) :
    Calls Try.prog 8 #[.int .i64 wd, .agg #[.int .u64 x, .int .u64 y], .slice p n c] w fun e w' => e = .returned (.bool true) ∧ Below w.heap.size w w' := by
  have H1 := Lib.hid (fun w => put29 wd x w hx.1 hx.2)
  have H2 := Lib.hid (fun w => put29 wd y w hy.1 hy.2)
  have ex := putE_0 he mx
  have ey := putE_0 he my
  have lx : putL wd x = beL wd x := by unfold putL; rw [if_pos ex]; rfl
  have ly : putL wd y = beL wd y := by unfold putL; rw [if_pos ey]; rfl
  rw [ex, lx] at H1
  rw [ey, ly] at H2
  have tT := takeN_put wd x xs he hx.1 mx
  have oO := order_beL wd x y hx.1 (most_lt wd he x mx) hy.1 (most_lt wd he y my)
  have lbx := length_beL wd x
  have lby := length_beL wd y
  have bbx := byte_beL wd x
  generalize beL wd x = bX at *
  generalize beL wd y = bY at *
  generalize hord : ordI x y = od at *
  have HX := Lib.hid bbx
  have HT := Lib.hid tT
  have HO := Lib.hid oO
  have HOD := Lib.hid hord
  have LBX := Lib.hid lbx
  have LBY := Lib.hid lby
  have HB := Lib.hid hB
  clear ex ey lx ly lbx lby hB he mx my bbx oO tT hord
  have d : decide (300 < (n : Int)) = false := by simp; omega
  go_enter Try.func8, Try.ntmps8
  go_wp2_with fail
  refine (H1.out _).mono ?_; rintro e w1 ⟨v, rfl, p1, c1, rfl, hb1, _, hbel1⟩
  have hbelA : Below w.heap.size w w1 := Below.step ((Below.refl _ _).alloc (Nat.le_refl _) _) hbel1
  have g0 : w1.cell? ⟨w.heap.size, 0, none⟩ = some (.int .u64 x) := by
    rw [hbel1.cell (by simp), cell_of_row _ _ _ _ 57 (0, 0) (heap_alloc_new w _)]; rfl
  have g1 : w1.cell? ⟨w.heap.size, 1, none⟩ = some (.int .u64 y) := by
    rw [hbel1.cell (by simp), cell_of_row _ _ _ _ 57 (0, 0) (heap_alloc_new w _)]; rfl
  have hlt : w.heap.size < w1.heap.size := block_lt_of_cell g0
  have HL1 := Lib.hid hbelA
  have HB1 := Lib.hid (HB.out.below hbelA)
  rw [LBX.out] at hb1
  have HC1 := Lib.hid hb1
  rw [LBX.out]
  clear hbel1 hbelA hb1
  go_wp2_with fail
  refine (H2.out _).mono ?_; rintro e w2 ⟨v, rfl, p2, c2, rfl, hb2, _, hbel2⟩
  have k0 : w2.cell? ⟨w.heap.size, 0, none⟩ = some (.int .u64 x) := by rw [hbel2.cell hlt]; exact g0
  have k1 : w2.cell? ⟨w.heap.size, 1, none⟩ = some (.int .u64 y) := by rw [hbel2.cell hlt]; exact g1
  have HL2 := Lib.hid (Below.step HL1.out hbel2)
  have HB2 := Lib.hid (HB1.out.below hbel2)
  have HC2 := Lib.hid (HC1.out.below hbel2)
  rw [LBY.out] at hb2
  have HD2 := Lib.hid hb2
  have hlt2 : w.heap.size < w2.heap.size := block_lt_of_cell k0
  rw [LBY.out]
  clear g0 g1 hbel2 hb2 hlt
  go_wp2_with (at_builtin; refine stop ?_)
  refine unhid ?_
  refine wpList_append_bytes rfl _ _ (by rfl) w2.heap.size none 0 0 [] (by rfl) (World.ownsRow_nil _ _ _ _) p1 wd c1 bX (by rfl) HC2.out (by omega) (Nat.le_refl _) ?_
  intro pA cA w3 hownA hbel3
  rw [Nat.zero_add] at hownA ⊢
  rw [List.nil_append] at hownA
  have HOA := Lib.hid hownA
  have HL23 := Lib.hid hbel3
  have HB3 := Lib.hid (HB2.out.below hbel3)
  have hs23 := hbel3.size
  clear hownA hbel3
  go_wp2_with (at_builtin; refine stop ?_)
  refine unhid ?_
  refine wpList_append_bytes rfl _ _ (by rfl) w2.heap.size pA wd cA bX (by rfl) HOA.out p n c xs (by rfl) HB3.out (by omega) hs23 ?_
  intro pB cB w4 hownB hbel4
  have hb24 : Below w2.heap.size w2 w4 := HL23.out.trans hbel4
  have HOB := Lib.hid (Bs.ofOwn hownB (by omega) (fun z hz => by
    rcases List.mem_append.1 hz with hz | hz
    · exact HX.out z hz
    · exact HB.out.byte z hz))
  have HL4 := Lib.hid (Below.step HL2.out hb24)
  have HC4 := Lib.hid (HC2.out.below hb24)
  have HD4 := Lib.hid (HD2.out.below hb24)
  have HB4 := Lib.hid (HB2.out.below hb24)
  have g0 : w4.cell? ⟨w.heap.size, 0, none⟩ = some (.int .u64 x) := by rw [hb24.cell hlt2]; exact k0
  have g1 : w4.cell? ⟨w.heap.size, 1, none⟩ = some (.int .u64 y) := by rw [hb24.cell hlt2]; exact k1
  have hlt4 : w.heap.size < w4.heap.size := block_lt_of_cell g0
  clear hownB hbel4 hb24 k0 k1 hs23 HOA HL23 HB3 hlt2
  go_wp2_with fail
  refine (take34 wd pB (wd + n) cB (bX ++ xs) _ HOB.out).mono ?_
  rw [HT.out.1, HT.out.2.1, HT.out.2.2]
  rintro e w5 ⟨v, rfl, p5, c5, rfl, hb5, _, hbel5⟩
  have k0 : w5.cell? ⟨w.heap.size, 0, none⟩ = some (.int .u64 x) := by rw [hbel5.cell hlt4]; exact g0
  have k1 : w5.cell? ⟨w.heap.size, 1, none⟩ = some (.int .u64 y) := by rw [hbel5.cell hlt4]; exact g1
  have HL5 := Lib.hid (Below.step HL4.out hbel5)
  have HC5 := Lib.hid (HC4.out.below hbel5)
  have HD5 := Lib.hid (HD4.out.below hbel5)
  have HB5 := Lib.hid (HB4.out.below hbel5)
  rw [HB.out.len] at hb5
  rw [HB.out.len]
  have HE5 := Lib.hid hb5
  clear hbel5 hb5 g0 g1 hlt4 HC4 HD4 HB4
  have H16 : Hid (∀ k, Calls Try.prog 16 #[.slice p1 wd c1, .slice p2 wd c2] (w5.drewN k) fun e w' => e = .returned (.int .i64 od) ∧ ∃ z, w' = (w5.drewN k).drewN z) := fun k => by
    have := cmp16 p1 p2 wd c1 wd c2 bX bY (w5.drewN k) (HC5.out.drewN k) (HD5.out.drewN k)
    rwa [HO.out] at this
  have H18 : Hid (∀ k, Calls Try.prog 18 #[.slice p5 n c5, .slice p n c] (w5.drewN k) fun e w' => e = .returned (.bool true) ∧ ∃ z, w' = (w5.drewN k).drewN z) := fun k => by
    have := same18 p5 p n c5 n c xs xs (w5.drewN k) (HE5.out.drewN k) (HB5.out.drewN k)
    rwa [show (cmpL xs xs == 0) = true by rw [beq_iff_eq, cmpL_zero]] at this
  have H38 : Hid (∀ W, Calls Try.prog 38 #[.int .u64 x, .int .u64 y] W fun e w' => e = .returned (.int .i64 od) ∧ w' = W) := fun W => by
    have := cmp38 x y W
    rwa [HOD.out] at this
  have H39 : Hid (∀ W, Calls Try.prog 39 #[.int .u64 x, .int .u64 y] W fun e w' => e = .returned (.int .i64 od) ∧ w' = W) := fun W => by
    have := cmp39 x y W
    rwa [HOD.out] at this
  have HLT := Lib.hid (block_lt_of_cell k0)
  have q1 : (od == od) = true := by simp
  have q2 : (x == x) = true := by simp
  have q3 : ((wd : Int) == wd) = true := by simp
  clear HC5 HD5 HE5 HB5 HO HX HT LBX LBY HOD HB HB1 HB2 HC1 HC2 HD2 H1 H2 hx hy
  go_wp2_with fail
  go_region_held3 (fun w' => w'.cell? ⟨w.heap.size, 0, none⟩ = some (.int .u64 x) ∧ w'.cell? ⟨w.heap.size, 1, none⟩ = some (.int .u64 y)) (first | go_keep | (exact ⟨by rw [hbel.cell HLT.out]; exact k0, by rw [hbel.cell HLT.out]; exact k1⟩)) (first
    | (go_at_call 16; refine (H16.out _).mono ?_; rintro e w' ⟨rfl, z, rfl⟩)
    | (go_at_call 38; refine (H38.out _).mono ?_; rintro e w' ⟨rfl, rfl⟩)
    | (go_at_call 39; refine (H39.out _).mono ?_; rintro e w' ⟨rfl, rfl⟩)
    | (go_at_call 18; refine (H18.out _).mono ?_; rintro e w' ⟨rfl, z, rfl⟩)
    | (go_at_call 33; refine (alive33 _).mono ?_; rintro e w' ⟨rfl, hbel⟩))
  have HLE := Lib.hid (Below.step HL5.out (Below.step (below_drewN (Below.refl _ w5) _) hbel))
  clear hbel
  go_wp2_with fail
  go_ret
  exact ⟨rfl, HLE.out⟩

theorem walkUencOrder (a0 x y : Int) (p : Option Addr) (n c : Nat) (w : World) (w0 : (Lit.int .i64 a0).wf = true) (wx : (Lit.int .u64 x).wf = true) (wy : (Lit.int .u64 y).wf = true) (w2 : RawB w p n c) :
    Calls Try.prog 8 #[.int .i64 a0, .agg #[.int .u64 x, .int .u64 y], .slice p n c] w fun e w' => e = .returned (.bool true) ∧ Below w.heap.size w w' := by
  obtain ⟨hn, xs, hB⟩ := w2
  have hx : 0 ≤ x ∧ x ≤ 18446744073709551615 := by
    have := wx
    simp [Lit.wf, IntKind.min, IntKind.max, IntKind.signed, IntKind.bits] at this
    omega
  have hy : 0 ≤ y ∧ y ≤ 18446744073709551615 := by
    have := wy
    simp [Lit.wf, IntKind.min, IntKind.max, IntKind.signed, IntKind.bits] at this
    omega
  by_cases h300 : n ≤ 300
  · by_cases hp : putE a0 x ≠ 0 ∨ putE a0 y ≠ 0
    · exact order_bad a0 x y p n c w h300 hx hy hp
    · have e1 : putE a0 x = 0 := by omega
      have e2 : putE a0 y = 0 := by omega
      have he : errV a0 = 0 := by
        rcases width_cases a0 with ⟨_, he, _⟩ | ⟨_, he, _⟩ | ⟨_, he, _⟩ | ⟨_, he, _⟩ | ⟨_, _, _, _, he, _⟩
        · exact he
        · exact he
        · exact he
        · exact he
        · unfold putE at e1; rw [if_pos he] at e1; omega
      have m1 : x ≤ mostV a0 := by
        unfold putE at e1; rw [if_neg (by omega)] at e1; split at e1 <;> omega
      have m2 : y ≤ mostV a0 := by
        unfold putE at e2; rw [if_neg (by omega)] at e2; split at e2 <;> omega
      refine by_width a0 (fun a0 => x ≤ mostV a0 → y ≤ mostV a0 → Calls Try.prog 8 #[.int .i64 a0, .agg #[.int .u64 x, .int .u64 y], .slice p n c] w fun e w' => e = .returned (.bool true) ∧ Below w.heap.size w w') ?_ ?_ m1 m2
      · intro wd h1 h8 he _ m1 m2
        exact order_ok wd x y p n c xs w h300 (hB (by omega)) h1 h8 hx hy he m1 m2
      · intro he'; omega
  · exact order_long a0 x y p n c w (by omega) (by unfold maxLen at hn; omega)

/-- an array of two numbers that came in -/
theorem open_pair {H : Type} {enc : TypeId × Value → H} {w : World} {base : Nat} {spare : Nat → Bool} {held : Bool} {k : IntKind} {t e : TypeId} {v : Value} {d : DataW H} {p : List MemPlace} {b0 : Nat}
    (ht : Try.prog.underlying t = some (.array 2 e)) (he : Try.prog.underlying e = some (.int k)) (hc : Try.prog.cellsOf t = 2) (hce : Try.prog.cellsOf e = 1)
    (hv : Value.okWide Try.prog w .any b0 t v) (h : DataW.Trod enc Try.prog w base spare held t v d p) :
    ∃ x y, v = .agg #[.int k x, .int k y] ∧ (Lit.int k x).wf = true ∧ (Lit.int k y).wf = true := by
  obtain ⟨cs, rfl, hsz, _⟩ : ∃ cs, v = .agg cs ∧ cs.size = Try.prog.cellsOf t ∧ Row.okWide Try.prog w .any b0 t cs := by
    simpa [Value.okWide, ht] using hv
  rw [hc] at hsz
  obtain ⟨fuel, hf⟩ := h
  obtain ⟨l⟩ := cs
  match l, hsz with
  | [c0, c1], _ =>
    obtain ⟨xs, m, _, _, _, hl, hi⟩ := DataW.trod_array ht hf
    have h0 := hi 0 (by omega)
    have h1 := hi 1 (by omega)
    rw [hce] at h0 h1
    obtain ⟨y0, hy0⟩ : ∃ y0, xs[0]? = some y0 := ⟨xs[0], List.getElem?_eq_getElem (by omega)⟩
    obtain ⟨y1, hy1⟩ : ∃ y1, xs[1]? = some y1 := ⟨xs[1], List.getElem?_eq_getElem (by omega)⟩
    rw [hy0] at h0
    rw [hy1] at h1
    obtain ⟨x0, e0, _, w0⟩ := DataW.trod_int he h0
    obtain ⟨x1, e1, _, w1⟩ := DataW.trod_int he h1
    simp [Value.cells] at e0 e1
    subst e0 e1
    exact ⟨x0, x1, rfl, w0, w1⟩

end Go.Proofs.Ytbldahimdkifiaa
