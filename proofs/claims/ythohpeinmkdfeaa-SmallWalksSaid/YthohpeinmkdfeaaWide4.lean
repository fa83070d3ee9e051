/-
  The board: Set.
-/
import Derived.Test.YthohpeinmkdfeaaWide3
namespace Go.Proofs.Ythohpeinmkdfeaa
open Go.RowKit
set_option linter.unusedVariables false

set_option maxHeartbeats 800000 in
theorem set14_full (g room b : Nat) (x : Int) (A : Nat → Nat) (vx vf : Value) (w : World) (h : Bc w g room room A vx vf) (h0 : 0 < room) (hb : b < 256) (ha : A b = 0) :
    Calls Try.prog 14 #[.pointer (some ⟨g, 0, none⟩), .int .u8 b, .int .i64 x] w fun e w' => e = .returned (.int .i64 10) ∧ ∃ z, w' = w.drewN z := by
  have H := Lib.hid (ok52 g room w h.vRoom.cell h0)
  have g1 := (h.at b hb).cell
  rw [ha] at g1
  have g2 := h.vN.cell
  have g3 := h.vRoom.cell
  have b0 : (0 : Int) ≤ (b : Int) := by omega
  have b1 : (b : Int) < 256 := by omega
  have q : ((room : Int) == (room : Int)) = true := by simp
  have hnot : ∀ (x : Bool) (w : World), (Op.unary .not (.bool x)).run Try.prog w = .ok (.bool (!x)) w := fun _ _ => rfl
  clear h ha
  go_enter Try.func14, Try.ntmps14
  go_wp2_with fail
  refine H.out.mono ?_; rintro e w' ⟨rfl, rfl⟩
  go_wp2_with fail
  go_quiet (fail)
  all_goals
    go_wp2_with fail
    go_ret
    exact ⟨rfl, _, rfl⟩

set_option maxHeartbeats 800000 in
theorem set14_old (g room n b j m c bx : Nat) (x : Int) (y : Value) (A : Nat → Nat) (vf : Value) (w : World) (h : Bc w g room n A (.slice (some ⟨bx, 0, none⟩) m c) vf) (h0 : 0 < room) (hb : b < 256) (ha : A b = j + 1) (hj : j < m) (hm : m ≤ 256)
    (hy : Var w bx j y) (hg : bx ≠ g) :
    Calls Try.prog 14 #[.pointer (some ⟨g, 0, none⟩), .int .u8 b, .int .i64 x] w fun e w' => e = .returned (.int .i64 0) ∧ ∃ z, w' = (w.drewN z).setCell ⟨bx, j, none⟩ (.int .i64 x) := by
  have H := Lib.hid (ok52 g room w h.vRoom.cell h0)
  have g1 := (h.at b hb).cell
  rw [ha] at g1
  have g1' : w.cell? ⟨g, 2 + b, none⟩ = some (.int .u16 ((j : Int) + 1)) := by rw [g1]; norm_cast
  have g2 := h.x.cell
  have y1 := hy.cell
  have y2 := hy.free
  have b0 : (0 : Int) ≤ (b : Int) := by omega
  have b1 : (b : Int) < 256 := by omega
  have d1 : (((j : Int) + 1) == 0) = false := by simp; omega
  have q0 : IntKind.u16.wrap (j : Int) = (j : Int) := IntWalk.u16_in _ (by omega)
  have j0 : (0 : Int) ≤ (j : Int) := by omega
  have j1 : (j : Int) < (m : Int) := by omega
  have hnot : ∀ (x : Bool) (w : World), (Op.unary .not (.bool x)).run Try.prog w = .ok (.bool (!x)) w := fun _ _ => rfl
  have hgb : ¬ g = bx := fun e => hg e.symm
  clear h ha g1
  go_enter Try.func14, Try.ntmps14
  go_wp2_with fail
  refine H.out.mono ?_; rintro e w' ⟨rfl, rfl⟩
  go_wp2_with fail
  go_quiet (fail)
  all_goals
    go_wp2_with fail
    go_region_held3 (fun W => W.cell? ⟨g, 258, none⟩ = some (.slice (some ⟨bx, 0, none⟩) m c) ∧ W.cell? ⟨g, 2 + b, none⟩ = some (.int .u16 ((j : Int) + 1))) (first | go_keep | exact ⟨set_keep g2 hgb, set_keep g1' hgb⟩) (fail)
    all_goals
      go_wp2_with fail
      go_ret
      exact ⟨rfl, _, rfl⟩

set_option maxHeartbeats 1600000 in
theorem set14_new (g room n b j : Nat) (x : Int) (A : Nat → Nat) (vx vf : Value) (w : World) (h : Bc w g room n A vx vf) (h0 : 0 < room) (hb : b < 256) (ha : A b = 0) (hn : n < room) (hr : room ≤ 256) (hj6 : j ≤ 65534) (Q : World → World → Nat → Nat → Nat → Value → Prop)
    (HP : Hid (∀ z, Calls Try.prog 53 #[.pointer (some ⟨g, 0, none⟩)] (w.drewN z) fun e w' => e = .returned (.int .u16 ((j : Int) + 1)) ∧ ∃ bx m c vf', Bc w' g room n A (.slice (some ⟨bx, 0, none⟩) m c) vf' ∧ bx ≠ g ∧ j < m ∧ m ≤ 256 ∧ (∃ y, Var w' bx j y) ∧ Q (w.drewN z) w' bx m c vf')) :
    Calls Try.prog 14 #[.pointer (some ⟨g, 0, none⟩), .int .u8 b, .int .i64 x] w fun e w' => e = .returned (.int .i64 0) ∧
      ∃ z w2 bx m c vf' z2, Bc w2 g room n A (.slice (some ⟨bx, 0, none⟩) m c) vf' ∧ bx ≠ g ∧ Q (w.drewN z) w2 bx m c vf' ∧
        w' = ((((w2.setCell ⟨g, 2 + b, none⟩ (.int .u16 ((j : Int) + 1))).setCell ⟨g, 1, none⟩ (.int .i64 ((n : Int) + 1))).drewN z2).setCell ⟨bx, j, none⟩ (.int .i64 x)) := by
  have H := Lib.hid (ok52 g room w h.vRoom.cell h0)
  have g1 := (h.at b hb).cell
  rw [ha] at g1
  have g2 := h.vN.cell
  have g3 := h.vRoom.cell
  have b0 : (0 : Int) ≤ (b : Int) := by omega
  have b1 : (b : Int) < 256 := by omega
  have q : ((n : Int) == (room : Int)) = false := by simp; omega
  have q0 : IntKind.u16.wrap (j : Int) = (j : Int) := IntWalk.u16_in _ (by omega)
  have q1 : IntKind.i64.wrap ((n : Int) + 1) = (n : Int) + 1 := IntWalk.i64_in _ (by omega)
  have j0 : (0 : Int) ≤ (j : Int) := by omega
  have hnot : ∀ (x : Bool) (w : World), (Op.unary .not (.bool x)).run Try.prog w = .ok (.bool (!x)) w := fun _ _ => rfl
  have HB := Lib.hid hb
  clear h ha hn hr hj6
  go_enter Try.func14, Try.ntmps14
  go_wp2_with fail
  refine H.out.mono ?_; rintro e w' ⟨rfl, rfl⟩
  go_wp2_with fail
  go_quiet (fail)
  all_goals
    go_wp2_with fail
    go_region_held3 (fun _ => True) (trivial) ((go_at_call 53; refine (HP.out _).mono ?_; rintro e w2 ⟨rfl, bx, m, c, vf', hbc, hne, hjm, hm, ⟨y, hy⟩, hQ⟩; have ka := (hbc.at b HB.out).cell; have kz := (hbc.at b HB.out).free))
    obtain ⟨w3, hw3⟩ : ∃ w3, w3 = w2.setCell ⟨g, 2 + b, none⟩ (.int .u16 ((j : Int) + 1)) := ⟨_, rfl⟩
    rw [← hw3]
    have h3 : Bc w3 g room n (upd A b (j + 1)) (.slice (some ⟨bx, 0, none⟩) m c) vf' := by
      rw [hw3]; have := hbc.setAt b (j + 1) HB.out; push_cast at this; exact this
    have y3 : Var w3 bx j y := by rw [hw3]; exact hy.other hne
    have k1 := h3.vN.cell
    have k2 := h3.vN.free
    have HBC := Lib.hid hbc
    have HNE := Lib.hid hne
    have HQ := Lib.hid hQ
    have HW3 := Lib.hid hw3
    have H3 := Lib.hid h3
    have Y3 := Lib.hid y3
    clear ka kz hbc hQ hw3 h3 y3 hy
    go_wp2_with fail
    obtain ⟨w4, hw4⟩ : ∃ w4, w4 = w3.setCell ⟨g, 1, none⟩ (.int .i64 ((n : Int) + 1)) := ⟨_, rfl⟩
    rw [← hw4]
    have h4 : Bc w4 g room (n + 1) (upd A b (j + 1)) (.slice (some ⟨bx, 0, none⟩) m c) vf' := by
      rw [hw4]; have := H3.out.setN (n + 1); push_cast at this; exact this
    have y4 : Var w4 bx j y := by rw [hw4]; exact Y3.out.other HNE.out
    have g5 := h4.x.cell
    have g6 : w4.cell? ⟨g, 2 + b, none⟩ = some (.int .u16 ((j : Int) + 1)) := by have := (h4.at b HB.out).cell; rw [upd_same] at this; push_cast at this; exact this
    have y5 := y4.cell
    have y6 := y4.free
    have j1 : (j : Int) < (m : Int) := by omega
    have hgb : ¬ g = bx := fun e => HNE.out e.symm
    have HW4 := Lib.hid hw4
    clear k1 k2 h4 y4 hw4
    go_region_held3 (fun W => W.cell? ⟨g, 258, none⟩ = some (.slice (some ⟨bx, 0, none⟩) m c) ∧ W.cell? ⟨g, 2 + b, none⟩ = some (.int .u16 ((j : Int) + 1))) (first | go_keep | exact ⟨set_keep g5 hgb, set_keep g6 hgb⟩) (fail)
    all_goals
      go_wp2_with fail
      go_ret
      refine ⟨rfl, _, w2, bx, m, c, vf', 1, HBC.out, HNE.out, HQ.out, ?_⟩
      rw [← HW3.out, ← HW4.out]
      first | done | rfl

end Go.Proofs.Ythohpeinmkdfeaa
