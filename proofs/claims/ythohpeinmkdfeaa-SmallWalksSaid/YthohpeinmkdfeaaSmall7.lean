/-
  The small row: Drop.
-/
import Derived.Test.YthohpeinmkdfeaaSmall6
namespace Go.Proofs.Ythohpeinmkdfeaa
open Go.RowKit
set_option linter.unusedVariables false

set_option maxHeartbeats 800000 in
theorem drop43_none (g n b i : Nat) (room : Nat) (B : Nat → Nat) (X : Nat → Int) (w : World) (h : Sm w g room n B X) (hn : n ≤ 16) (h0 : 0 < room) (hs : Srt n B) (ha : AtP n B b i false) :
    Calls Try.prog 43 #[.pointer (some ⟨g, 0, none⟩), .int .u8 b] w fun e w' => e = .returned (.int .i64 6) ∧ ∃ z, w' = w.drewN z := by
  have H := Lib.hid (ok66 g room w h.vRoom (by omega))
  have HP := Lib.hid (place67 g n b i false room B X w h hn hs ha)
  have hnot : ∀ (x : Bool) (w : World), (Op.unary .not (.bool x)).run Try.prog w = .ok (.bool (!x)) w := fun _ _ => rfl
  clear h ha hs
  go_enter Try.func43, Try.ntmps43
  go_wp2_with fail
  refine H.out.mono ?_; rintro e w' ⟨rfl, hw'⟩
  rw [hw']; clear hw' w'
  go_wp2_with fail
  refine HP.out.mono ?_; rintro e w' ⟨rfl, z, hw'⟩
  rw [hw']; clear hw' w'
  go_wp2_with fail
  go_ret
  exact ⟨rfl, _, rfl⟩

set_option maxRecDepth 100000 in
set_option maxHeartbeats 1600000 in
theorem drop43_some (g n b i room : Nat) (B : Nat → Nat) (X : Nat → Int) (w : World) (h : Sm w g room n B X) (hi : i < n) (h1n : n ≤ room) (h16 : room ≤ 16) (hs : Srt n B) (ha : AtP n B b i true) (h15 : ¬ i = 15) :
    Calls Try.prog 43 #[.pointer (some ⟨g, 0, none⟩), .int .u8 b] w fun e w' => e = .returned (.int .i64 0) ∧ Sm w' g room (n - 1) (updB (shD B i n) (n - 1) 0) (updX (shD X i n) (n - 1) 0) ∧ Exc [g] w w' := by
  have H := Lib.hid (ok66 g room w h.vRoom (by omega))
  have HP := Lib.hid (place67 g n b i true room B X w h (by omega) hs ha)
  have hnot : ∀ (x : Bool) (w : World), (Op.unary .not (.bool x)).run Try.prog w = .ok (.bool (!x)) w := fun _ _ => rfl
  have c1 := h.vN
  have hn16 : n ≤ 16 := by omega
  have hi16' : ¬ (16 : Nat) = i := by omega
  have b0 : (0 : Int) ≤ (i : Int) := by omega
  have b1 : (i : Int) ≤ 16 := by omega
  have b2 : (n : Int) ≤ 16 := by omega
  have b3 : (0 : Int) ≤ (i : Int) + 1 := by omega
  have b4 : (i : Int) + 1 ≤ (n : Int) := by omega
  have q0 : IntKind.i64.wrap ((i : Int) + 1) = (i : Int) + 1 := IntWalk.i64_in _ (by omega)
  obtain ⟨m, hm⟩ : ∃ m, m = n - 1 := ⟨_, rfl⟩
  have q1 : IntKind.i64.wrap ((n : Int) - 1) = (m : Int) := by rw [IntWalk.i64_in _ (by omega)]; omega
  have hm16 : m < 16 := by omega
  have b6 : (0 : Int) ≤ (m : Int) := by omega
  have b7 : (m : Int) < 16 := by omega
  rw [← hm]
  clear hm
  have HS := Lib.hid h
  clear h ha hs
  have HL : Hid (n - (i + 1) ≤ 16 - i) := by show n - (i + 1) ≤ 16 - i; omega
  go_enter Try.func43, Try.ntmps43
  go_wp2_with fail
  refine H.out.mono ?_; rintro e w' ⟨rfl, hw'⟩
  rw [hw']; clear hw' w'
  go_wp2_with fail
  refine HP.out.mono ?_; rintro e w1 ⟨rfl, z, hw1⟩
  have HS1 := Lib.hid (HS.out.drewN z)
  rw [← hw1] at HS1
  have HX1 : Hid (Exc [g] w w1) := by show Exc _ _ _; rw [hw1]; exact (Exc.refl _ _).drewN z
  clear hw1 c1 H HP
  have c1 := HS1.out.vN
  go_wp2_with fail
  go_region_held3 (fun W => W.cell? ⟨g, 1, none⟩ = some (.int .i64 n))
    (first
      | go_keep
      | exact c9)
    ((refine step_downB (by rfl) (.tmp 23) (.tmp 33) (by rfl) (Sm.mk HS1.out.heap) hi hn16 ⟨g, 2 + (i + 1), none⟩ (16 - i) (16 - i) (n - (i + 1)) (15 - i) (by rfl) (by rfl) ⟨rfl, HL.out⟩ (fun _ => rfl) ?_; intro w2 S2 hx2; have c9 := S2.vN))
  have HS2 := Lib.hid S2
  have HX2 : Hid (Exc [g] w w2) := Exc.over1 HX1.out hx2
  clear hx2 S2 c1 c9
  have c1 := HS2.out.vN
  go_wp2_with fail
  go_region_held3 (fun W => W.cell? ⟨g, 1, none⟩ = some (.int .i64 n))
    (first
      | go_keep
      | exact c9)
    ((refine step_downX (by rfl) (.tmp 39) (.tmp 49) (by rfl) (Sm.mk HS2.out.heap) hi hn16 ⟨g, 18 + (i + 1), none⟩ (16 - i) (16 - i) (n - (i + 1)) (15 - i) (by rfl) (by rfl) ⟨rfl, HL.out⟩ (fun _ => rfl) ?_; intro w3 S3 hx3; have c9 := S3.vN))
  have HS3 := Lib.hid S3
  have HX3 : Hid (Exc [g] w w3) := Exc.over1 HX2.out hx3
  clear hx3 S3 c1 c9
  have c1 := HS3.out.vN
  have z1 := HS3.out.free 1
  go_wp2_with fail
  obtain ⟨w4, hw4⟩ : ∃ w4, w4 = w3.setCell ⟨g, 1, none⟩ (.int .i64 m) := ⟨_, rfl⟩
  rw [← hw4]
  have HS4 : Hid (Sm w4 g room m (shD B i n) (shD X i n)) := by show Sm _ _ _ _ _ _; rw [hw4]; exact HS3.out.setN m
  have HX4 : Hid (Exc [g] w w4) := by show Exc _ _ _; rw [hw4]; exact HX3.out.set (p := ⟨g, 1, none⟩) (by simp) _
  clear hw4 c1 z1
  have c1 := HS4.out.vN
  have e1 := HS4.out.vB m hm16
  have e2 := HS4.out.vX m hm16
  have z2 := HS4.out.free (2 + m)
  have z3 := HS4.out.free (18 + m)
  go_wp2_with fail
  go_region_held3 (fun W => W.cell? ⟨g, 1, none⟩ = some (.int .i64 m))
    (first
      | (go_keep; done)
      | exact (set_off c1 (by omega) : (w4.setCell ⟨g, 2 + m, none⟩ (.int .u8 0)).cell? ⟨g, 1, none⟩ = _)
      | exact (set_off c1 (by omega) : (w4.setCell ⟨g, 18 + m, none⟩ (.int .i64 0)).cell? ⟨g, 1, none⟩ = _)
      | exact (set_off (set_off c1 (by omega)) (by omega) : ((w4.setCell ⟨g, 2 + m, none⟩ (.int .u8 0)).setCell ⟨g, 18 + m, none⟩ (.int .i64 0)).cell? ⟨g, 1, none⟩ = _)
      | exact (set_off (set_off c1 (by omega)) (by omega) : ((w4.setCell ⟨g, 18 + m, none⟩ (.int .i64 0)).setCell ⟨g, 2 + m, none⟩ (.int .u8 0)).cell? ⟨g, 1, none⟩ = _))
    (fail)
  all_goals
    go_wp2_with fail
    go_ret
    first
    | exact ⟨rfl, ⟨((HS4.out.setB m hm16 0).setX m hm16 0).heap⟩, ((HX4.out.set (p := ⟨g, 2 + m, none⟩) (by simp) _).set (p := ⟨g, 18 + m, none⟩) (by simp) _).drew⟩
    | exact ⟨rfl, ⟨((HS4.out.setX m hm16 0).setB m hm16 0).heap⟩, ((HX4.out.set (p := ⟨g, 18 + m, none⟩) (by simp) _).set (p := ⟨g, 2 + m, none⟩) (by simp) _).drew⟩

set_option maxRecDepth 100000 in
set_option maxHeartbeats 1600000 in
theorem drop43_last (g b : Nat) (B : Nat → Nat) (X : Nat → Int) (w : World) (h : Sm w g 16 16 B X) (hi : 15 < 16) (h1n : 16 ≤ 16) (h16 : 16 ≤ 16) (hs : Srt 16 B) (ha : AtP 16 B b 15 true)  :
    Calls Try.prog 43 #[.pointer (some ⟨g, 0, none⟩), .int .u8 b] w fun e w' => e = .returned (.int .i64 0) ∧ Sm w' g 16 (16 - 1) (updB (shD B 15 16) (16 - 1) 0) (updX (shD X 15 16) (16 - 1) 0) ∧ Exc [g] w w' := by
  have H := Lib.hid (ok66 g 16 w h.vRoom (by omega))
  have HP := Lib.hid (place67 g 16 b 15 true 16 B X w h (by omega) hs ha)
  have hnot : ∀ (x : Bool) (w : World), (Op.unary .not (.bool x)).run Try.prog w = .ok (.bool (!x)) w := fun _ _ => rfl
  have c1 : w.cell? ⟨g, 1, none⟩ = some (.int .i64 16) := h.vN
  have hn16 : 16 ≤ 16 := by omega
  have hi16' : ¬ (16 : Nat) = 15 := by omega
  have b0 : (0 : Int) ≤ (15 : Int) := by omega
  have b1 : (15 : Int) ≤ 16 := by omega
  have b2 : (16 : Int) ≤ 16 := by omega
  have b3 : (0 : Int) ≤ (15 : Int) + 1 := by omega
  have b4 : (15 : Int) + 1 ≤ (16 : Int) := by omega
  have q0 : IntKind.i64.wrap 16 = 16 := rfl
  have q1 : IntKind.i64.wrap 15 = 15 := rfl
  have hm16 : 15 < 16 := by omega
  have HS := Lib.hid h
  clear h ha hs
  have HL : Hid (16 - (15 + 1) ≤ 1) := by show 16 - (15 + 1) ≤ 1; omega
  go_enter Try.func43, Try.ntmps43
  go_wp2_with fail
  refine H.out.mono ?_; rintro e w' ⟨rfl, hw'⟩
  rw [hw']; clear hw' w'
  go_wp2_with fail
  refine HP.out.mono ?_; rintro e w1 ⟨rfl, z, hw1⟩
  have HS1 := Lib.hid (HS.out.drewN z)
  rw [← hw1] at HS1
  have HX1 : Hid (Exc [g] w w1) := by show Exc _ _ _; rw [hw1]; exact (Exc.refl _ _).drewN z
  clear hw1 c1 H HP
  have c1 : w1.cell? ⟨g, 1, none⟩ = some (.int .i64 16) := HS1.out.vN
  go_wp2_with fail
  go_region_held3 (fun W => W.cell? ⟨g, 1, none⟩ = some (.int .i64 16))
    (first
      | go_keep
      | exact c9)
    ((refine step_downB (by rfl) (.tmp 23) (.tmp 33) (by rfl) (Sm.mk HS1.out.heap) hi hn16 ⟨g, 2, none⟩ 1 1 0 0 (by rfl) (by rfl) ⟨rfl, HL.out⟩ (fun h => by omega) ?_; intro w2 S2 hx2; have c9 : w2.cell? ⟨g, 1, none⟩ = some (.int .i64 16) := S2.vN))
  have HS2 := Lib.hid S2
  have HX2 : Hid (Exc [g] w w2) := Exc.over1 HX1.out hx2
  clear hx2 S2 c1 c9
  have c1 : w2.cell? ⟨g, 1, none⟩ = some (.int .i64 16) := HS2.out.vN
  go_wp2_with fail
  go_region_held3 (fun W => W.cell? ⟨g, 1, none⟩ = some (.int .i64 16))
    (first
      | go_keep
      | exact c9)
    ((refine step_downX (by rfl) (.tmp 39) (.tmp 49) (by rfl) (Sm.mk HS2.out.heap) hi hn16 ⟨g, 18, none⟩ 1 1 0 0 (by rfl) (by rfl) ⟨rfl, HL.out⟩ (fun h => by omega) ?_; intro w3 S3 hx3; have c9 : w3.cell? ⟨g, 1, none⟩ = some (.int .i64 16) := S3.vN))
  have HS3 := Lib.hid S3
  have HX3 : Hid (Exc [g] w w3) := Exc.over1 HX2.out hx3
  clear hx3 S3 c1 c9
  have c1 : w3.cell? ⟨g, 1, none⟩ = some (.int .i64 16) := HS3.out.vN
  have z1 := HS3.out.free 1
  go_wp2_with fail
  obtain ⟨w4, hw4⟩ : ∃ w4, w4 = w3.setCell ⟨g, 1, none⟩ (.int .i64 15) := ⟨_, rfl⟩
  rw [← hw4]
  have HS4 : Hid (Sm w4 g 16 15 (shD B 15 16) (shD X 15 16)) := by show Sm _ _ _ _ _ _; rw [hw4]; exact HS3.out.setN 15
  have HX4 : Hid (Exc [g] w w4) := by show Exc _ _ _; rw [hw4]; exact HX3.out.set (p := ⟨g, 1, none⟩) (by simp) _
  clear hw4 c1 z1
  have c1 : w4.cell? ⟨g, 1, none⟩ = some (.int .i64 15) := HS4.out.vN
  have e1 := (HS4.out.vB 15 hm16 : w4.cell? ⟨g, 17, none⟩ = _)
  have e2 := (HS4.out.vX 15 hm16 : w4.cell? ⟨g, 33, none⟩ = _)
  have z2 := HS4.out.free 17
  have z3 := HS4.out.free 33
  go_wp2_with fail
  go_region_held3 (fun W => W.cell? ⟨g, 1, none⟩ = some (.int .i64 15))
    (first
      | (go_keep; done)
      | exact (set_off c1 (by omega) : (w4.setCell ⟨g, 17, none⟩ (.int .u8 0)).cell? ⟨g, 1, none⟩ = _)
      | exact (set_off c1 (by omega) : (w4.setCell ⟨g, 33, none⟩ (.int .i64 0)).cell? ⟨g, 1, none⟩ = _)
      | exact (set_off (set_off c1 (by omega)) (by omega) : ((w4.setCell ⟨g, 17, none⟩ (.int .u8 0)).setCell ⟨g, 33, none⟩ (.int .i64 0)).cell? ⟨g, 1, none⟩ = _)
      | exact (set_off (set_off c1 (by omega)) (by omega) : ((w4.setCell ⟨g, 33, none⟩ (.int .i64 0)).setCell ⟨g, 17, none⟩ (.int .u8 0)).cell? ⟨g, 1, none⟩ = _))
    (fail)
  all_goals
    go_wp2_with fail
    go_ret
    first
    | exact ⟨rfl, ⟨((HS4.out.setB 15 hm16 0).setX 15 hm16 0).heap⟩, ((HX4.out.set (p := ⟨g, 17, none⟩) (by simp) _).set (p := ⟨g, 33, none⟩) (by simp) _).drew⟩
    | exact ⟨rfl, ⟨((HS4.out.setX 15 hm16 0).setB 15 hm16 0).heap⟩, ((HX4.out.set (p := ⟨g, 33, none⟩) (by simp) _).set (p := ⟨g, 17, none⟩) (by simp) _).drew⟩

end Go.Proofs.Ythohpeinmkdfeaa
