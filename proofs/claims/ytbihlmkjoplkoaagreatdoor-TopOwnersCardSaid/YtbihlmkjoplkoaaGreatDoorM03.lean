/-
  For the statement TopOwners: The board: the place that is given; The board: Set.
-/
import Derived.Test.YtbihlmkjoplkoaaGreatDoorM02
import Derived.Deep.AppendLies
/-
  The board: the place that is given.
-/
namespace Go.Proofs.YtbihlmkjoplkoaaGreatDoor
open Go.RowKit
set_option linter.unusedVariables false

theorem info3 : (Tryz.prog.info? 48).map (fun i => (i.zero, i.size, i.bytes)) = some (some (.pointer none), 1, 8) := by kernel_rfl
theorem info38 : (Tryz.prog.info? 197).map (fun i => (i.zero, i.size, i.bytes)) = some (some (.int .u16 0), 1, 2) := by kernel_rfl
theorem info_parts {e : TypeId} {z : Value} {s b : Nat} (h : (Tryz.prog.info? e).map (fun i => (i.zero, i.size, i.bytes)) = some (some z, s, b)) :
    ∃ i, Tryz.prog.info? e = some i ∧ i.zero = some z ∧ i.size = s ∧ i.bytes = b := by
  cases hq : Tryz.prog.info? e with
  | none => simp [hq] at h
  | some i => simp [hq] at h; exact ⟨i, rfl, h⟩

set_option maxHeartbeats 800000 in
/-- a place that was free -/
theorem place53_free (g room n m cf j bf : Nat) (A : Nat → Nat) (vx : Value) (w : World) (h : Bc w g room n A vx (.slice (some ⟨bf, 0, none⟩) (m + 1) cf)) (hm : m ≤ 65535) (hcf : m + 1 ≤ cf)
    (hi : w.cell? ⟨bf, m, none⟩ = some (.int .u16 ((j : Int) + 1))) :
    Calls Tryz.prog 176 #[.pointer (some ⟨g, 0, none⟩)] w fun e w' => e = .returned (.int .u16 ((j : Int) + 1)) ∧ w' = w.setCell ⟨g, 259, none⟩ (.slice (some ⟨bf, 0, none⟩) m cf) := by
  have g1 := h.f.cell
  have z1 := h.f.free
  have d1 : decide ((0 : Int) < ((m : Int) + 1)) = true := by simp <;> omega
  have m0 : (0 : Int) ≤ (m : Int) := by omega
  have m1 : (m : Int) < ((m : Int) + 1) := by omega
  have q1 : IntKind.i64.wrap (m : Int) = (m : Int) := IntWalk.i64_in _ (by omega)
  clear h
  go_enter Tryz.func176, Tryz.ntmps176
  go_wp2
  go_ret
  exact ⟨rfl, rfl⟩

/-- behind a place that was made -/
structure Grew (w w' : World) (base g room n : Nat) (A : Nat → Nat) (X : List Th) (px : Option Addr) (vf : Value) (bx cx' : Nat) : Prop where
  blk : Bc w' g room n A (.slice (some ⟨bx, 0, none⟩) (X.length + 1) cx') vf
  own : w'.ownsRow base 48 1 (.slice (some ⟨bx, 0, none⟩) (X.length + 1) cx') (X.length + 1) ((X ++ [none]).map Value.pointer)
  exc : ∀ S : List Nat, g ∈ S → (∀ a, px = some a → a.block ∈ S) → Exc S w w'
  new : px = some ⟨bx, 0, none⟩ ∨ w.heap.size ≤ bx

set_option maxHeartbeats 800000 in
/-- a place that is made -/
theorem place53_grow (base g room n cx cf : Nat) (px pf : Option Addr) (A : Nat → Nat) (X : List Th) (w : World) (h : Bc w g room n A (.slice px X.length cx) (.slice pf 0 cf)) (hX : X.length ≤ 255)
    (hown : w.ownsRow base 48 1 (.slice px X.length cx) X.length (X.map Value.pointer)) (hap : ∀ a, px = some a → a.block ≠ g) (hbase : base ≤ w.heap.size) :
    Calls Tryz.prog 176 #[.pointer (some ⟨g, 0, none⟩)] w fun e w' => e = .returned (.int .u16 ((X.length : Int) + 1)) ∧ ∃ bx cx', Grew w w' base g room n A X px (.slice pf 0 cf) bx cx' := by
  have g1 := h.f.cell
  have g2 := h.x.cell
  have hgl := h.x.lt
  have H := Lib.hid h
  have HO := Lib.hid hown
  generalize hL : X.length = L at *
  have HL := Lib.hid hL
  have q1 : IntKind.u16.wrap ((L : Int) + 1) = (L : Int) + 1 := IntWalk.u16_in _ (by omega)
  clear h hown hL
  go_enter Tryz.func176, Tryz.ntmps176
  go_wp2_with (at_builtin; refine stop ?_)
  refine unhid ?_
  obtain ⟨i0, hi, hz0, hz1, hz2⟩ := info_parts info3
  refine wpList_append_lies _ rfl _ _ 199 (by rfl) base 48 i0 (.pointer none) 1 8 Tryz.underlying199 hi hz0 hz1 hz2 rfl (by decide) _ L _ (by rfl) (HO.out.alloc _) ⟨w.heap.size, 0, none⟩ 1 1 [.pointer none] (by rfl) (by rfl) (World.news_of_block (heap_alloc_new w _)) (by intro z hz; rcases List.mem_cons.1 hz with rfl | hz; rfl; cases hz) (by decide) (by unfold maxLen; omega) (by omega) (by rw [World.size_alloc]; omega) _ rfl ?_
  intro bx cap w2 hown2 hgrow hnew hlt2
  have hrow : ∀ k, (Value.slice px L cx).ownBlock = some k → k ≠ g := fun k hk => by
    cases px with
    | none => cases hk
    | some a =>
      have : a.block = k := by simpa [Value.ownBlock] using hk
      rw [← this]; exact hap a rfl
  have hgs : w2.heap[g]? = w.heap[g]? := by
    rw [hgrow.block g (by rw [World.size_alloc]; omega) (fun e => hrow g e.symm rfl), Below.heap_alloc _ _ _ hgl]
  have h2 := H.out.same hgs
  have c1 := h2.x.cell
  have c2 := h2.x.free
  have hbxg : bx ≠ g := by
    rcases hnew with e | e
    · exact hrow bx e
    · rw [e, World.size_alloc]; omega
  have HGR : Hid (Grew w (w2.setCell ⟨g, 258, none⟩ (.slice (some ⟨bx, 0, none⟩) (L + 1) cap)) base g room n A X px (.slice pf 0 cf) bx cap) := by
    refine ⟨?_, ?_, ?_, ?_⟩
    · rw [HL.out]; exact h2.setX _
    · rw [HL.out, List.map_append]
      exact own_set hown2 (fun e => hbxg (by simpa [Value.ownBlock] using e))
    · intro S hg hp
      have e1 : Exc S w w2 := ⟨hgrow.os, hgrow.tape, hgrow.output, by have := hgrow.size; rw [World.size_alloc] at this; omega, fun k hk hS => by
        rw [hgrow.block k (by rw [World.size_alloc]; omega) (fun e => by
          cases px with
          | none => cases e
          | some a =>
            have : k = a.block := by simpa [Value.ownBlock] using e
            exact hS (by rw [this]; exact hp a rfl)), Below.heap_alloc _ _ _ hk]⟩
      exact e1.set (p := ⟨g, 258, none⟩) hg _
    · rcases hnew with e | e
      · left
        cases px with
        | none => cases e
        | some a =>
          rcases HO.out.2 with ⟨e1, _⟩ | ⟨g', cap', cur, e1, _⟩
          · cases e1
          · cases e1
            have : g' = bx := by simpa [Value.ownBlock] using e
            rw [this]
      · right; rw [e, World.size_alloc]; omega
  clear hown2 hgrow hnew hlt2 hrow hgs h2 hbxg hi hz0 hz1 hz2
  go_wp2
  go_ret
  exact ⟨rfl, bx, cap, HGR.out⟩

end Go.Proofs.YtbihlmkjoplkoaaGreatDoor
/-
  The board: Set.
-/
namespace Go.Proofs.YtbihlmkjoplkoaaGreatDoor
open Go.RowKit
set_option linter.unusedVariables false

set_option maxHeartbeats 800000 in
theorem set14_full (g room b : Nat) (x : Th) (A : Nat → Nat) (vx vf : Value) (w : World) (h : Bc w g room room A vx vf) (h0 : 0 < room) (hb : b < 256) (ha : A b = 0) :
    Calls Tryz.prog 159 #[.pointer (some ⟨g, 0, none⟩), .int .u8 b, .pointer x] w fun e w' => e = .returned (.int .i64 10) ∧ ∃ z, w' = w.drewN z := by
  have H := Lib.hid (ok52 g room w h.vRoom.cell h0)
  have g1 := (h.at b hb).cell
  rw [ha] at g1
  have g2 := h.vN.cell
  have g3 := h.vRoom.cell
  have b0 : (0 : Int) ≤ (b : Int) := by omega
  have b1 : (b : Int) < 256 := by omega
  have q : ((room : Int) == (room : Int)) = true := by simp
  have hnot : ∀ (x : Bool) (w : World), (Op.unary .not (.bool x)).run Tryz.prog w = .ok (.bool (!x)) w := fun _ _ => rfl
  clear h ha
  go_enter Tryz.func159, Tryz.ntmps159
  go_wp2_with fail
  refine H.out.mono ?_; rintro e w' ⟨rfl, rfl⟩
  go_wp2_with fail
  go_quiet (fail)
  all_goals
    go_wp2_with fail
    go_ret
    exact ⟨rfl, _, rfl⟩

set_option maxHeartbeats 800000 in
theorem set14_old (g room n b j m c bx : Nat) (x : Th) (y : Value) (A : Nat → Nat) (vf : Value) (w : World) (h : Bc w g room n A (.slice (some ⟨bx, 0, none⟩) m c) vf) (h0 : 0 < room) (hb : b < 256) (ha : A b = j + 1) (hj : j < m) (hm : m ≤ 256)
    (hy : Var w bx j y) (hg : bx ≠ g) :
    Calls Tryz.prog 159 #[.pointer (some ⟨g, 0, none⟩), .int .u8 b, .pointer x] w fun e w' => e = .returned (.int .i64 0) ∧ ∃ z, w' = (w.drewN z).setCell ⟨bx, j, none⟩ (.pointer x) := by
  have H := Lib.hid (ok52 g room w h.vRoom.cell h0)
  have g1 := (h.at b hb).cell
  rw [ha] at g1
  have g1' : w.cell? ⟨g, 2 + b, none⟩ = some (.int .u16 ((j : Int) + 1)) := by rw [g1]; norm_cast
  have g2 := h.x.cell
  have y1 := hy.cell
  have y2 := hy.free
  have b0 : (0 : Int) ≤ (b : Int) := by omega
  have b1 : (b : Int) < 256 := by omega
  have d1 : (((j : Int) + 1) == 0) = false := by simp; omega
  have q0 : IntKind.u16.wrap (j : Int) = (j : Int) := IntWalk.u16_in _ (by omega)
  have j0 : (0 : Int) ≤ (j : Int) := by omega
  have j1 : (j : Int) < (m : Int) := by omega
  have hnot : ∀ (x : Bool) (w : World), (Op.unary .not (.bool x)).run Tryz.prog w = .ok (.bool (!x)) w := fun _ _ => rfl
  have hgb : ¬ g = bx := fun e => hg e.symm
  clear h ha g1
  go_enter Tryz.func159, Tryz.ntmps159
  go_wp2_with fail
  refine H.out.mono ?_; rintro e w' ⟨rfl, rfl⟩
  go_wp2_with fail
  go_quiet (fail)
  all_goals
    go_wp2_with fail
    go_region_held3 (fun W => W.cell? ⟨g, 258, none⟩ = some (.slice (some ⟨bx, 0, none⟩) m c) ∧ W.cell? ⟨g, 2 + b, none⟩ = some (.int .u16 ((j : Int) + 1))) (first | go_keep | exact ⟨set_keep g2 hgb, set_keep g1' hgb⟩) (fail)
    all_goals
      go_wp2_with fail
      go_ret
      exact ⟨rfl, _, rfl⟩

set_option maxHeartbeats 1600000 in
theorem set14_new (g room n b j : Nat) (x : Th) (A : Nat → Nat) (vx vf : Value) (w : World) (h : Bc w g room n A vx vf) (h0 : 0 < room) (hb : b < 256) (ha : A b = 0) (hn : n < room) (hr : room ≤ 256) (hj6 : j ≤ 65534) (Q : World → World → Nat → Nat → Nat → Value → Prop)
    (HP : Hid (∀ z, Calls Tryz.prog 176 #[.pointer (some ⟨g, 0, none⟩)] (w.drewN z) fun e w' => e = .returned (.int .u16 ((j : Int) + 1)) ∧ ∃ bx m c vf', Bc w' g room n A (.slice (some ⟨bx, 0, none⟩) m c) vf' ∧ bx ≠ g ∧ j < m ∧ m ≤ 256 ∧ (∃ y, Var w' bx j y) ∧ Q (w.drewN z) w' bx m c vf')) :
    Calls Tryz.prog 159 #[.pointer (some ⟨g, 0, none⟩), .int .u8 b, .pointer x] w fun e w' => e = .returned (.int .i64 0) ∧
      ∃ z w2 bx m c vf' z2, Bc w2 g room n A (.slice (some ⟨bx, 0, none⟩) m c) vf' ∧ bx ≠ g ∧ Q (w.drewN z) w2 bx m c vf' ∧
        w' = ((((w2.setCell ⟨g, 2 + b, none⟩ (.int .u16 ((j : Int) + 1))).setCell ⟨g, 1, none⟩ (.int .i64 ((n : Int) + 1))).drewN z2).setCell ⟨bx, j, none⟩ (.pointer x)) := by
  have H := Lib.hid (ok52 g room w h.vRoom.cell h0)
  have g1 := (h.at b hb).cell
  rw [ha] at g1
  have g2 := h.vN.cell
  have g3 := h.vRoom.cell
  have b0 : (0 : Int) ≤ (b : Int) := by omega
  have b1 : (b : Int) < 256 := by omega
  have q : ((n : Int) == (room : Int)) = false := by simp; omega
  have q0 : IntKind.u16.wrap (j : Int) = (j : Int) := IntWalk.u16_in _ (by omega)
  have q1 : IntKind.i64.wrap ((n : Int) + 1) = (n : Int) + 1 := IntWalk.i64_in _ (by omega)
  have j0 : (0 : Int) ≤ (j : Int) := by omega
  have hnot : ∀ (x : Bool) (w : World), (Op.unary .not (.bool x)).run Tryz.prog w = .ok (.bool (!x)) w := fun _ _ => rfl
  have HB := Lib.hid hb
  clear h ha hn hr hj6
  go_enter Tryz.func159, Tryz.ntmps159
  go_wp2_with fail
  refine H.out.mono ?_; rintro e w' ⟨rfl, rfl⟩
  go_wp2_with fail
  go_quiet (fail)
  all_goals
    go_wp2_with fail
    go_region_held3 (fun _ => True) (trivial) ((go_at_call 176; refine (HP.out _).mono ?_; rintro e w2 ⟨rfl, bx, m, c, vf', hbc, hne, hjm, hm, ⟨y, hy⟩, hQ⟩; have ka := (hbc.at b HB.out).cell; have kz := (hbc.at b HB.out).free))
    obtain ⟨w3, hw3⟩ : ∃ w3, w3 = w2.setCell ⟨g, 2 + b, none⟩ (.int .u16 ((j : Int) + 1)) := ⟨_, rfl⟩
    rw [← hw3]
    have h3 : Bc w3 g room n (upd A b (j + 1)) (.slice (some ⟨bx, 0, none⟩) m c) vf' := by
      rw [hw3]; have := hbc.setAt b (j + 1) HB.out; push_cast at this; exact this
    have y3 : Var w3 bx j y := by rw [hw3]; exact hy.other hne
    have k1 := h3.vN.cell
    have k2 := h3.vN.free
    have HBC := Lib.hid hbc
    have HNE := Lib.hid hne
    have HQ := Lib.hid hQ
    have HW3 := Lib.hid hw3
    have H3 := Lib.hid h3
    have Y3 := Lib.hid y3
    clear ka kz hbc hQ hw3 h3 y3 hy
    go_wp2_with fail
    obtain ⟨w4, hw4⟩ : ∃ w4, w4 = w3.setCell ⟨g, 1, none⟩ (.int .i64 ((n : Int) + 1)) := ⟨_, rfl⟩
    rw [← hw4]
    have h4 : Bc w4 g room (n + 1) (upd A b (j + 1)) (.slice (some ⟨bx, 0, none⟩) m c) vf' := by
      rw [hw4]; have := H3.out.setN (n + 1); push_cast at this; exact this
    have y4 : Var w4 bx j y := by rw [hw4]; exact Y3.out.other HNE.out
    have g5 := h4.x.cell
    have g6 : w4.cell? ⟨g, 2 + b, none⟩ = some (.int .u16 ((j : Int) + 1)) := by have := (h4.at b HB.out).cell; rw [upd_same] at this; push_cast at this; exact this
    have y5 := y4.cell
    have y6 := y4.free
    have j1 : (j : Int) < (m : Int) := by omega
    have hgb : ¬ g = bx := fun e => HNE.out e.symm
    have HW4 := Lib.hid hw4
    clear k1 k2 h4 y4 hw4
    go_region_held3 (fun W => W.cell? ⟨g, 258, none⟩ = some (.slice (some ⟨bx, 0, none⟩) m c) ∧ W.cell? ⟨g, 2 + b, none⟩ = some (.int .u16 ((j : Int) + 1))) (first | go_keep | exact ⟨set_keep g5 hgb, set_keep g6 hgb⟩) (fail)
    all_goals
      go_wp2_with fail
      go_ret
      refine ⟨rfl, _, w2, bx, m, c, vf', 1, HBC.out, HNE.out, HQ.out, ?_⟩
      rw [← HW3.out, ← HW4.out]
      first | done | rfl

end Go.Proofs.YtbihlmkjoplkoaaGreatDoor
