/-
  For the statement TopOwners: The small row: Drop; The small row as a whole: New, Copy, Get, Next, Prev, Len, Room, Set, Drop of it.
-/
import Derived.Test.YtbihlmkjoplkoaaGreatDoorM10
import Derived.Test.YtbihlmkjoplkoaaGreatDoorM08
/-
  The small row: Drop.
-/
namespace Go.Proofs.YtbihlmkjoplkoaaGreatDoor
open Go.RowKit
set_option linter.unusedVariables false

set_option maxHeartbeats 800000 in
theorem drop43_none (g n b i : Nat) (room : Nat) (B : Nat → Nat) (X : Nat → Th) (w : World) (h : Sm w g room n B X) (hn : n ≤ 16) (h0 : 0 < room) (hs : Srt n B) (ha : AtP n B b i false) :
    Calls Tryz.prog 167 #[.pointer (some ⟨g, 0, none⟩), .int .u8 b] w fun e w' => e = .returned (.int .i64 6) ∧ ∃ z, w' = w.drewN z := by
  have H := Lib.hid (ok66 g room w h.vRoom (by omega))
  have HP := Lib.hid (place67 g n b i false room B X w h hn hs ha)
  have hnot : ∀ (x : Bool) (w : World), (Op.unary .not (.bool x)).run Tryz.prog w = .ok (.bool (!x)) w := fun _ _ => rfl
  clear h ha hs
  go_enter Tryz.func167, Tryz.ntmps167
  go_wp2_with fail
  refine H.out.mono ?_; rintro e w' ⟨rfl, hw'⟩
  rw [hw']; clear hw' w'
  go_wp2_with fail
  refine HP.out.mono ?_; rintro e w' ⟨rfl, z, hw'⟩
  rw [hw']; clear hw' w'
  go_wp2_with fail
  go_ret
  exact ⟨rfl, _, rfl⟩

set_option maxRecDepth 100000 in
set_option maxHeartbeats 1600000 in
theorem drop43_some (g n b i room : Nat) (B : Nat → Nat) (X : Nat → Th) (w : World) (h : Sm w g room n B X) (hi : i < n) (h1n : n ≤ room) (h16 : room ≤ 16) (hs : Srt n B) (ha : AtP n B b i true) (h15 : ¬ i = 15) :
    Calls Tryz.prog 167 #[.pointer (some ⟨g, 0, none⟩), .int .u8 b] w fun e w' => e = .returned (.int .i64 0) ∧ Sm w' g room (n - 1) (updB (shD B i n) (n - 1) 0) (updX (shD X i n) (n - 1) none) ∧ Exc [g] w w' := by
  have H := Lib.hid (ok66 g room w h.vRoom (by omega))
  have HP := Lib.hid (place67 g n b i true room B X w h (by omega) hs ha)
  have hnot : ∀ (x : Bool) (w : World), (Op.unary .not (.bool x)).run Tryz.prog w = .ok (.bool (!x)) w := fun _ _ => rfl
  have c1 := h.vN
  have hn16 : n ≤ 16 := by omega
  have hi16' : ¬ (16 : Nat) = i := by omega
  have b0 : (0 : Int) ≤ (i : Int) := by omega
  have b1 : (i : Int) ≤ 16 := by omega
  have b2 : (n : Int) ≤ 16 := by omega
  have b3 : (0 : Int) ≤ (i : Int) + 1 := by omega
  have b4 : (i : Int) + 1 ≤ (n : Int) := by omega
  have q0 : IntKind.i64.wrap ((i : Int) + 1) = (i : Int) + 1 := IntWalk.i64_in _ (by omega)
  obtain ⟨m, hm⟩ : ∃ m, m = n - 1 := ⟨_, rfl⟩
  have q1 : IntKind.i64.wrap ((n : Int) - 1) = (m : Int) := by rw [IntWalk.i64_in _ (by omega)]; omega
  have hm16 : m < 16 := by omega
  have b6 : (0 : Int) ≤ (m : Int) := by omega
  have b7 : (m : Int) < 16 := by omega
  rw [← hm]
  clear hm
  have HS := Lib.hid h
  clear h ha hs
  have HL : Hid (n - (i + 1) ≤ 16 - i) := by show n - (i + 1) ≤ 16 - i; omega
  go_enter Tryz.func167, Tryz.ntmps167
  go_wp2_with fail
  refine H.out.mono ?_; rintro e w' ⟨rfl, hw'⟩
  rw [hw']; clear hw' w'
  go_wp2_with fail
  refine HP.out.mono ?_; rintro e w1 ⟨rfl, z, hw1⟩
  have HS1 := Lib.hid (HS.out.drewN z)
  rw [← hw1] at HS1
  have HX1 : Hid (Exc [g] w w1) := by show Exc _ _ _; rw [hw1]; exact (Exc.refl _ _).drewN z
  clear hw1 c1 H HP
  have c1 := HS1.out.vN
  go_wp2_with fail
  go_region_held3 (fun W => W.cell? ⟨g, 1, none⟩ = some (.int .i64 n))
    (first
      | go_keep
      | exact c9)
    ((refine step_downB (by rfl) (.tmp 23) (.tmp 33) (by rfl) (Sm.mk HS1.out.heap) hi hn16 ⟨g, 2 + (i + 1), none⟩ (16 - i) (16 - i) (n - (i + 1)) (15 - i) (by rfl) (by rfl) ⟨rfl, HL.out⟩ (fun _ => rfl) ?_; intro w2 S2 hx2; have c9 := S2.vN))
  have HS2 := Lib.hid S2
  have HX2 : Hid (Exc [g] w w2) := Exc.over1 HX1.out hx2
  clear hx2 S2 c1 c9
  have c1 := HS2.out.vN
  go_wp2_with fail
  go_region_held3 (fun W => W.cell? ⟨g, 1, none⟩ = some (.int .i64 n))
    (first
      | go_keep
      | exact c9)
    ((refine step_downX (by rfl) (.tmp 39) (.tmp 49) (by rfl) (Sm.mk HS2.out.heap) hi hn16 ⟨g, 18 + (i + 1), none⟩ (16 - i) (16 - i) (n - (i + 1)) (15 - i) (by rfl) (by rfl) ⟨rfl, HL.out⟩ (fun _ => rfl) ?_; intro w3 S3 hx3; have c9 := S3.vN))
  have HS3 := Lib.hid S3
  have HX3 : Hid (Exc [g] w w3) := Exc.over1 HX2.out hx3
  clear hx3 S3 c1 c9
  have c1 := HS3.out.vN
  have z1 := HS3.out.free 1
  go_wp2_with fail
  obtain ⟨w4, hw4⟩ : ∃ w4, w4 = w3.setCell ⟨g, 1, none⟩ (.int .i64 m) := ⟨_, rfl⟩
  rw [← hw4]
  have HS4 : Hid (Sm w4 g room m (shD B i n) (shD X i n)) := by show Sm _ _ _ _ _ _; rw [hw4]; exact HS3.out.setN m
  have HX4 : Hid (Exc [g] w w4) := by show Exc _ _ _; rw [hw4]; exact HX3.out.set (p := ⟨g, 1, none⟩) (by simp) _
  clear hw4 c1 z1
  have c1 := HS4.out.vN
  have e1 := HS4.out.vB m hm16
  have e2 := HS4.out.vX m hm16
  have z2 := HS4.out.free (2 + m)
  have z3 := HS4.out.free (18 + m)
  go_wp2_with fail
  go_region_held3 (fun W => W.cell? ⟨g, 1, none⟩ = some (.int .i64 m))
    (first
      | (go_keep; done)
      | exact (set_off c1 (by omega) : (w4.setCell ⟨g, 2 + m, none⟩ (.int .u8 0)).cell? ⟨g, 1, none⟩ = _)
      | exact (set_off c1 (by omega) : (w4.setCell ⟨g, 18 + m, none⟩ (.pointer none)).cell? ⟨g, 1, none⟩ = _)
      | exact (set_off (set_off c1 (by omega)) (by omega) : ((w4.setCell ⟨g, 2 + m, none⟩ (.int .u8 0)).setCell ⟨g, 18 + m, none⟩ (.pointer none)).cell? ⟨g, 1, none⟩ = _)
      | exact (set_off (set_off c1 (by omega)) (by omega) : ((w4.setCell ⟨g, 18 + m, none⟩ (.pointer none)).setCell ⟨g, 2 + m, none⟩ (.int .u8 0)).cell? ⟨g, 1, none⟩ = _))
    (fail)
  all_goals
    go_wp2_with fail
    go_ret
    first
    | exact ⟨rfl, ⟨((HS4.out.setB m hm16 0).setX m hm16 none).heap⟩, ((HX4.out.set (p := ⟨g, 2 + m, none⟩) (by simp) _).set (p := ⟨g, 18 + m, none⟩) (by simp) _).drew⟩
    | exact ⟨rfl, ⟨((HS4.out.setX m hm16 none).setB m hm16 0).heap⟩, ((HX4.out.set (p := ⟨g, 18 + m, none⟩) (by simp) _).set (p := ⟨g, 2 + m, none⟩) (by simp) _).drew⟩

set_option maxRecDepth 100000 in
set_option maxHeartbeats 1600000 in
theorem drop43_last (g b : Nat) (B : Nat → Nat) (X : Nat → Th) (w : World) (h : Sm w g 16 16 B X) (hi : 15 < 16) (h1n : 16 ≤ 16) (h16 : 16 ≤ 16) (hs : Srt 16 B) (ha : AtP 16 B b 15 true)  :
    Calls Tryz.prog 167 #[.pointer (some ⟨g, 0, none⟩), .int .u8 b] w fun e w' => e = .returned (.int .i64 0) ∧ Sm w' g 16 (16 - 1) (updB (shD B 15 16) (16 - 1) 0) (updX (shD X 15 16) (16 - 1) none) ∧ Exc [g] w w' := by
  have H := Lib.hid (ok66 g 16 w h.vRoom (by omega))
  have HP := Lib.hid (place67 g 16 b 15 true 16 B X w h (by omega) hs ha)
  have hnot : ∀ (x : Bool) (w : World), (Op.unary .not (.bool x)).run Tryz.prog w = .ok (.bool (!x)) w := fun _ _ => rfl
  have c1 : w.cell? ⟨g, 1, none⟩ = some (.int .i64 16) := h.vN
  have hn16 : 16 ≤ 16 := by omega
  have hi16' : ¬ (16 : Nat) = 15 := by omega
  have b0 : (0 : Int) ≤ (15 : Int) := by omega
  have b1 : (15 : Int) ≤ 16 := by omega
  have b2 : (16 : Int) ≤ 16 := by omega
  have b3 : (0 : Int) ≤ (15 : Int) + 1 := by omega
  have b4 : (15 : Int) + 1 ≤ (16 : Int) := by omega
  have q0 : IntKind.i64.wrap 16 = 16 := rfl
  have q1 : IntKind.i64.wrap 15 = 15 := rfl
  have hm16 : 15 < 16 := by omega
  have HS := Lib.hid h
  clear h ha hs
  have HL : Hid (16 - (15 + 1) ≤ 1) := by show 16 - (15 + 1) ≤ 1; omega
  go_enter Tryz.func167, Tryz.ntmps167
  go_wp2_with fail
  refine H.out.mono ?_; rintro e w' ⟨rfl, hw'⟩
  rw [hw']; clear hw' w'
  go_wp2_with fail
  refine HP.out.mono ?_; rintro e w1 ⟨rfl, z, hw1⟩
  have HS1 := Lib.hid (HS.out.drewN z)
  rw [← hw1] at HS1
  have HX1 : Hid (Exc [g] w w1) := by show Exc _ _ _; rw [hw1]; exact (Exc.refl _ _).drewN z
  clear hw1 c1 H HP
  have c1 : w1.cell? ⟨g, 1, none⟩ = some (.int .i64 16) := HS1.out.vN
  go_wp2_with fail
  go_region_held3 (fun W => W.cell? ⟨g, 1, none⟩ = some (.int .i64 16))
    (first
      | go_keep
      | exact c9)
    ((refine step_downB (by rfl) (.tmp 23) (.tmp 33) (by rfl) (Sm.mk HS1.out.heap) hi hn16 ⟨g, 2, none⟩ 1 1 0 0 (by rfl) (by rfl) ⟨rfl, HL.out⟩ (fun h => by omega) ?_; intro w2 S2 hx2; have c9 : w2.cell? ⟨g, 1, none⟩ = some (.int .i64 16) := S2.vN))
  have HS2 := Lib.hid S2
  have HX2 : Hid (Exc [g] w w2) := Exc.over1 HX1.out hx2
  clear hx2 S2 c1 c9
  have c1 : w2.cell? ⟨g, 1, none⟩ = some (.int .i64 16) := HS2.out.vN
  go_wp2_with fail
  go_region_held3 (fun W => W.cell? ⟨g, 1, none⟩ = some (.int .i64 16))
    (first
      | go_keep
      | exact c9)
    ((refine step_downX (by rfl) (.tmp 39) (.tmp 49) (by rfl) (Sm.mk HS2.out.heap) hi hn16 ⟨g, 18, none⟩ 1 1 0 0 (by rfl) (by rfl) ⟨rfl, HL.out⟩ (fun h => by omega) ?_; intro w3 S3 hx3; have c9 : w3.cell? ⟨g, 1, none⟩ = some (.int .i64 16) := S3.vN))
  have HS3 := Lib.hid S3
  have HX3 : Hid (Exc [g] w w3) := Exc.over1 HX2.out hx3
  clear hx3 S3 c1 c9
  have c1 : w3.cell? ⟨g, 1, none⟩ = some (.int .i64 16) := HS3.out.vN
  have z1 := HS3.out.free 1
  go_wp2_with fail
  obtain ⟨w4, hw4⟩ : ∃ w4, w4 = w3.setCell ⟨g, 1, none⟩ (.int .i64 15) := ⟨_, rfl⟩
  rw [← hw4]
  have HS4 : Hid (Sm w4 g 16 15 (shD B 15 16) (shD X 15 16)) := by show Sm _ _ _ _ _ _; rw [hw4]; exact HS3.out.setN 15
  have HX4 : Hid (Exc [g] w w4) := by show Exc _ _ _; rw [hw4]; exact HX3.out.set (p := ⟨g, 1, none⟩) (by simp) _
  clear hw4 c1 z1
  have c1 : w4.cell? ⟨g, 1, none⟩ = some (.int .i64 15) := HS4.out.vN
  have e1 := (HS4.out.vB 15 hm16 : w4.cell? ⟨g, 17, none⟩ = _)
  have e2 := (HS4.out.vX 15 hm16 : w4.cell? ⟨g, 33, none⟩ = _)
  have z2 := HS4.out.free 17
  have z3 := HS4.out.free 33
  go_wp2_with fail
  go_region_held3 (fun W => W.cell? ⟨g, 1, none⟩ = some (.int .i64 15))
    (first
      | (go_keep; done)
      | exact (set_off c1 (by omega) : (w4.setCell ⟨g, 17, none⟩ (.int .u8 0)).cell? ⟨g, 1, none⟩ = _)
      | exact (set_off c1 (by omega) : (w4.setCell ⟨g, 33, none⟩ (.pointer none)).cell? ⟨g, 1, none⟩ = _)
      | exact (set_off (set_off c1 (by omega)) (by omega) : ((w4.setCell ⟨g, 17, none⟩ (.int .u8 0)).setCell ⟨g, 33, none⟩ (.pointer none)).cell? ⟨g, 1, none⟩ = _)
      | exact (set_off (set_off c1 (by omega)) (by omega) : ((w4.setCell ⟨g, 33, none⟩ (.pointer none)).setCell ⟨g, 17, none⟩ (.int .u8 0)).cell? ⟨g, 1, none⟩ = _))
    (fail)
  all_goals
    go_wp2_with fail
    go_ret
    first
    | exact ⟨rfl, ⟨((HS4.out.setB 15 hm16 0).setX 15 hm16 none).heap⟩, ((HX4.out.set (p := ⟨g, 17, none⟩) (by simp) _).set (p := ⟨g, 33, none⟩) (by simp) _).drew⟩
    | exact ⟨rfl, ⟨((HS4.out.setX 15 hm16 none).setB 15 hm16 0).heap⟩, ((HX4.out.set (p := ⟨g, 33, none⟩) (by simp) _).set (p := ⟨g, 17, none⟩) (by simp) _).drew⟩

end Go.Proofs.YtbihlmkjoplkoaaGreatDoor
/-
  The small row as a whole: New, Copy, Get, Next, Prev, Len, Room, Set, Drop of it.
-/
namespace Go.Proofs.YtbihlmkjoplkoaaGreatDoor
open Go.RowKit
set_option linter.unusedVariables false

/-- a small row that holds what f says -/
def SmE (w : World) (g room : Nat) (f : Nat → Option Th) : Prop := ∃ n B X, Sm w g room n B X ∧ SmP room n B X f

theorem SmE.same {w w' : World} {g room : Nat} {f : Nat → Option Th} (h : SmE w g room f) (e : w'.heap[g]? = w.heap[g]?) : SmE w' g room f := by
  obtain ⟨n, B, X, h1, h2⟩ := h
  exact ⟨n, B, X, h1.same e, h2⟩
theorem SmE.lt {w : World} {g room : Nat} {f : Nat → Option Th} (h : SmE w g room f) : g < w.heap.size := by
  obtain ⟨n, B, X, h1, h2⟩ := h
  exact h1.lt
theorem SmE.step {w w' : World} {g room : Nat} {f : Nat → Option Th} (h : SmE w g room f) (k : Below w.heap.size w w') : SmE w' g room f := h.same (k.block g h.lt)
theorem SmE.drewN {w : World} {g room : Nat} {f : Nat → Option Th} (h : SmE w g room f) (z : Nat) : SmE (w.drewN z) g room f := h.same rfl
theorem SmE.keep {w w' : World} {g room : Nat} {f : Nat → Option Th} {S : List Nat} (h : SmE w g room f) (k : Exc S w w') (hS : g ∉ S) : SmE w' g room f := h.same (k.block g h.lt hS)

theorem cntF_zero : cntF (fun _ => none) = 0 := by unfold cntF; simp

theorem SmP.fresh (room : Nat) (h : 1 ≤ room ∧ room ≤ 16) : SmP room 0 (fun _ => 0) (fun _ => none) (fun _ => none) :=
  ⟨⟨fun k hk => by omega, fun i j h1 h2 => by omega⟩, h.1, h.2, by omega, fun k hk => by omega, fun _ _ _ => rfl, by rw [cntF_zero]⟩

theorem built196 (room : Int) : Tryz.prog.built 196 [(0, .int .i64 room)] = some (rowL room 0 (fun _ => 0) (fun _ => none)).toArray := by kernel_rfl
theorem size196 : (Tryz.prog.info? 196).map (·.size) = some 34 := by kernel_rfl

theorem new40_low (room : Int) (w : World) (h : room < 1) : Calls Tryz.prog 154 #[.int .i64 room] w fun e w' => e = .returned (.tuple #[.pointer none, .int .i64 1]) ∧ w' = w := by
  have d1 : decide (room < 1) = true := by simp; omega
  clear h
  go_enter Tryz.func154, Tryz.ntmps154
  go_wp2_with fail
  go_ret2
  exact ⟨rfl, rfl⟩
theorem new40_high (room : Int) (w : World) (h1 : ¬ room < 1) (h : 16 < room) : Calls Tryz.prog 154 #[.int .i64 room] w fun e w' => e = .returned (.tuple #[.pointer none, .int .i64 1]) ∧ w' = w := by
  have d1 : decide (room < 1) = false := by simp; omega
  have d2 : decide (16 < room) = true := by simp; omega
  clear h
  go_enter Tryz.func154, Tryz.ntmps154
  go_wp2_with fail
  go_ret2
  exact ⟨rfl, rfl⟩
theorem new40_no (room : Int) (w : World) (h : room < 1 ∨ 16 < room) : Calls Tryz.prog 154 #[.int .i64 room] w fun e w' => e = .returned (.tuple #[.pointer none, .int .i64 1]) ∧ w' = w := by
  by_cases h1 : room < 1
  · exact new40_low room w h1
  · exact new40_high room w h1 (by omega)

set_option maxRecDepth 100000 in
set_option maxHeartbeats 800000 in
theorem new40_yes (room : Nat) (w : World) (h : 1 ≤ room ∧ room ≤ 16) : Calls Tryz.prog 154 #[.int .i64 room] w fun e w' => e = .returned (.tuple #[.pointer (some ⟨w.heap.size, 0, none⟩), .int .i64 0]) ∧
    SmE w' w.heap.size room (fun _ => none) ∧ Below w.heap.size w w' := by
  have d1 : decide ((room : Int) < 1) = false := by simp; omega
  have d2 : decide (16 < (room : Int)) = false := by simp; omega
  have HP := Lib.hid (SmP.fresh room h)
  have HS : Hid (Sm (w.alloc (.cells (rowL room 0 (fun _ => 0) (fun _ => none)).toArray 196)) w.heap.size room 0 (fun _ => 0) (fun _ => none)) := ⟨heap_alloc_new _ _⟩
  have HB : Hid (Below w.heap.size w (w.alloc (.cells (rowL room 0 (fun _ => 0) (fun _ => none)).toArray 196))) := (Below.refl _ _).alloc (Nat.le_refl _) _
  go_enter Tryz.func154, Tryz.ntmps154
  go_wp2_with (refine wpList_built rfl 196 _ (by rfl) _ (built196 room) ?_)
  go_ret2
  exact ⟨rfl, ⟨_, _, _, HS.out, HP.out⟩, HB.out⟩

set_option maxRecDepth 100000 in
set_option maxHeartbeats 800000 in
theorem copy46 (g room : Nat) (f : Nat → Option Th) (w : World) (h : SmE w g room f) : Calls Tryz.prog 165 #[.pointer (some ⟨g, 0, none⟩)] w fun e w' => e = .returned (.pointer (some ⟨w.heap.size, 0, none⟩)) ∧
    SmE w' w.heap.size room f ∧ Below w.heap.size w w' := by
  obtain ⟨n, B, X, hs, hp⟩ := h
  have H := Lib.hid (ok66 g room w hs.vRoom (by have := hp.room1; omega))
  have hnot : ∀ (x : Bool) (w : World), (Op.unary .not (.bool x)).run Tryz.prog w = .ok (.bool (!x)) w := fun _ _ => rfl
  have HS := Lib.hid hs
  have HP := Lib.hid hp
  have HI : Hid ((Tryz.prog.info? 196).map (·.size) = some (rowL room n B X).toArray.size) := by show _ = _; rw [List.size_toArray, rowL_len]; exact size196
  clear hs hp
  obtain ⟨cs, hcs⟩ : ∃ cs, cs = (rowL room n B X).toArray := ⟨_, rfl⟩
  have HG := Lib.hid HS.out.heap
  rw [← hcs] at HI HG
  have H1 : Hid (cs.all (·.oneCell') = true) := by show _ = _; rw [hcs]; exact rowL_one _ _ _ _
  have H2 : Hid (cs.size = 34) := by show _ = _; rw [hcs, List.size_toArray, rowL_len]
  have HC := Lib.hid hcs
  clear hcs
  go_enter Tryz.func165, Tryz.ntmps165
  go_wp2_with fail
  refine H.out.mono ?_; rintro e w' ⟨rfl, rfl⟩
  go_wp2_with (refine wpList_load_row rfl 196 _ (by rfl) g (by rfl) 196 cs (0, 0) _ HG.out Tryz.underlying196 rfl HI.out ?_; refine stop ?_)
  refine unhid ?_
  go_wp2_with (refine wpList_store_new rfl 196 _ _ (by rfl) _ cs (by rfl) (by rfl) HI.out (by rw [H2.out]; rfl) H1.out ?_; refine stop ?_)
  refine unhid ?_
  have HS2 : Hid (Sm (w'.alloc (.cells cs 196)) w'.heap.size room n B X) := by show Sm _ _ _ _ _ _; rw [HC.out]; exact ⟨heap_alloc_new _ _⟩
  go_wp2_with fail
  go_returns
  exact ⟨rfl, ⟨_, _, _, HS2.out, HP.out⟩, (Below.refl _ _).alloc (Nat.le_refl _) _⟩

theorem getS {w : World} {g room : Nat} {f : Nat → Option Th} (h : SmE w g room f) (b : Nat) (hb : b < 256) :
    Calls Tryz.prog 88 #[.pointer (some ⟨g, 0, none⟩), .int .u8 b] w fun e w' => e = .returned (.tuple #[.pointer (valO (f b)), .bool (f b).isSome]) ∧ ∃ z, w' = w.drewN z := by
  obtain ⟨n, B, X, hs, hp⟩ := h
  exact get48 g n b room B X f w hs hp hb
theorem nextS {w : World} {g room : Nat} {f : Nat → Option Th} (h : SmE w g room f) (from' : Int) :
    Calls Tryz.prog 121 #[.pointer (some ⟨g, 0, none⟩), .int .i64 from'] w fun e w' => ∃ r, NextR f (max from' 0) r ∧ e = .returned (tri r) ∧ ∃ z, w' = w.drewN z := by
  obtain ⟨n, B, X, hs, hp⟩ := h
  exact next47 g n room B X f from' w hs hp
theorem lenS {w : World} {g room : Nat} {f : Nat → Option Th} (h : SmE w g room f) : Calls Tryz.prog 156 #[.pointer (some ⟨g, 0, none⟩)] w fun e w' => e = .returned (.int .i64 (cntF f)) ∧ w' = w := by
  obtain ⟨n, B, X, hs, hp⟩ := h
  rw [← hp.cnt]
  exact len50 g n room B X w hs (by have := hp.room1; omega)
theorem roomS {w : World} {g room : Nat} {f : Nat → Option Th} (h : SmE w g room f) : Calls Tryz.prog 124 #[.pointer (some ⟨g, 0, none⟩)] w fun e w' => e = .returned (.int .i64 room) ∧ w' = w := by
  obtain ⟨n, B, X, hs, hp⟩ := h
  exact room51 g n room B X w hs (by have := hp.room1; omega)

theorem setS {w : World} {g room : Nat} {f : Nat → Option Th} (h : SmE w g room f) (b : Nat) (hb : b < 256) (x : Th) :
    Calls Tryz.prog 158 #[.pointer (some ⟨g, 0, none⟩), .int .u8 b, .pointer x] w fun e w' => ∃ n f', e = .returned (.int .i64 n) ∧ NumS f room b x n f' ∧ SmE w' g room f' ∧ Exc [g] w w' := by
  obtain ⟨n, B, X, hs, hp⟩ := h
  have r1 := hp.room1
  have r16 := hp.room16
  have hle := hp.le
  have hcnt := hp.cnt
  obtain ⟨i, is, ha⟩ := AtP.exists b hp.srt
  cases is with
  | true =>
    have hf : f b ≠ none := by
      obtain ⟨hi, rfl⟩ := ha.is.1 rfl
      rw [hp.hit i hi]; simp
    refine (set44_old g n b i room B X x w hs (by omega) (by omega) hp.srt ha).mono ?_
    rintro e w' ⟨he, h1, h2⟩
    refine ⟨0, _, he, Or.inr ⟨fun hh => hf ?_, rfl, rfl⟩, ⟨_, _, _, h1, hp.lay ha x⟩, h2⟩
    simpa using hh.1
  | false =>
    have hf : f b = none := hp.miss b hb (ha.no hp.srt)
    by_cases hfull : n = room
    · subst hfull
      refine (set44_full g n b i B X x w hs (by omega) (by omega) hp.srt ha).mono ?_
      rintro e w' ⟨he, z, rfl⟩
      exact ⟨10, f, he, Or.inl ⟨by rw [hf]; rfl, by omega, rfl, rfl⟩, ⟨_, _, _, hs.drewN z, hp⟩, (Exc.refl _ _).drewN z⟩
    · have hnum : NumS f room b x 0 (updF f b (some x)) := Or.inr ⟨fun hh => by have := hh.2; omega, rfl, rfl⟩
      have hp' := hp.ins hb ha (by omega) x
      by_cases h15 : i = 15
      · have hin := ha.le
        obtain rfl : n = 15 := by omega
        obtain rfl : room = 16 := by omega
        subst h15
        refine (set44_ins15 g b B X x w hs (by omega) (by omega) hp.srt ha).mono ?_
        rintro e w' ⟨he, h1, h2⟩
        exact ⟨0, _, he, hnum, ⟨_, _, _, h1, hp'⟩, h2⟩
      · refine (set44_ins g n b i room B X x w hs (by omega) (by omega) hp.srt ha h15).mono ?_
        rintro e w' ⟨he, h1, h2⟩
        exact ⟨0, _, he, hnum, ⟨_, _, _, h1, hp'⟩, h2⟩

theorem dropS {w : World} {g room : Nat} {f : Nat → Option Th} (h : SmE w g room f) (b : Nat) (hb : b < 256) :
    Calls Tryz.prog 167 #[.pointer (some ⟨g, 0, none⟩), .int .u8 b] w fun e w' => ∃ n, e = .returned (.int .i64 n) ∧ NumD f b n ∧ SmE w' g room (updF f b none) ∧ Exc [g] w w' := by
  obtain ⟨n, B, X, hs, hp⟩ := h
  have r1 := hp.room1
  have r16 := hp.room16
  have hle := hp.le
  obtain ⟨i, is, ha⟩ := AtP.exists b hp.srt
  cases is with
  | true =>
    have hi := (ha.is.1 rfl).1
    have hf : (f b).isSome = true := by
      obtain ⟨hi, rfl⟩ := ha.is.1 rfl
      rw [hp.hit i hi]; rfl
    have hp' := hp.del ha
    by_cases h15 : i = 15
    · obtain rfl : n = 16 := by omega
      obtain rfl : room = 16 := by omega
      subst h15
      refine (drop43_last g b B X w hs (by omega) (by omega) (by omega) hp.srt ha).mono ?_
      rintro e w' ⟨he, h1, h2⟩
      exact ⟨0, he, Or.inl ⟨hf, rfl⟩, ⟨_, _, _, h1, hp'⟩, h2⟩
    · refine (drop43_some g n b i room B X w hs hi hle (by omega) hp.srt ha h15).mono ?_
      rintro e w' ⟨he, h1, h2⟩
      exact ⟨0, he, Or.inl ⟨hf, rfl⟩, ⟨_, _, _, h1, hp'⟩, h2⟩
  | false =>
    have hf : f b = none := hp.miss b hb (ha.no hp.srt)
    refine (drop43_none g n b i room B X w hs (by omega) (by omega) hp.srt ha).mono ?_
    rintro e w' ⟨he, z, rfl⟩
    exact ⟨6, he, Or.inr ⟨by rw [hf]; rfl, rfl⟩, ⟨_, _, _, hs.drewN z, by rw [updF_none f b hf]; exact hp⟩, (Exc.refl _ _).drewN z⟩

end Go.Proofs.YtbihlmkjoplkoaaGreatDoor
