/-
  For the statement TopOwners: The board (wide): what its block holds, and contracts of the methods that read it; The board: what is found by Get, Next, Prev; The board, in plain Lean: how many bytes have a place; what a place that is given or taken turns.
-/
import Derived.Test.YtbihlmkjoplkoaaGreatDoorM01
import Derived.Laws.Rows
import Derived.Laws.OwnMore
/-
  The board (wide): what its block holds, and contracts of the methods that read it.
-/
namespace Go.Proofs.YtbihlmkjoplkoaaGreatDoor
open Go.RowKit
set_option linter.unusedVariables false

/-- the cells of a board's block -/
def Bc (w : World) (g : Nat) (room n : Nat) (A : Nat → Nat) (vx vf : Value) : Prop :=
  ∃ cs : Array Value, w.heap[g]? = some (.cells cs 202 (0, 0)) ∧ cs.size = 260 ∧ cs[0]? = some (.int .i64 room) ∧ cs[1]? = some (.int .i64 n) ∧
    (∀ b, b < 256 → cs[2 + b]? = some (.int .u16 (A b))) ∧ cs[258]? = some vx ∧ cs[259]? = some vf

section
variable {w : World} {g R N : Nat} {A : Nat → Nat} {vx vf : Value}
theorem Bc.vRoom (h : Bc w g R N A vx vf) : Var w g 0 (.int .i64 R) := let ⟨cs, h1, h2, h3, h4, h5, h6, h7⟩ := h; ⟨by rw [cell_of_row _ _ _ _ _ _ h1]; exact h3, frozen_of_row _ _ _ _ _ h1⟩
theorem Bc.vN (h : Bc w g R N A vx vf) : Var w g 1 (.int .i64 N) := let ⟨cs, h1, h2, h3, h4, h5, h6, h7⟩ := h; ⟨by rw [cell_of_row _ _ _ _ _ _ h1]; exact h4, frozen_of_row _ _ _ _ _ h1⟩
theorem Bc.at (h : Bc w g R N A vx vf) (b : Nat) (hb : b < 256) : Var w g (2 + b) (.int .u16 (A b)) := let ⟨cs, h1, h2, h3, h4, h5, h6, h7⟩ := h; ⟨by rw [cell_of_row _ _ _ _ _ _ h1]; exact h5 b hb, frozen_of_row _ _ _ _ _ h1⟩
theorem Bc.x (h : Bc w g R N A vx vf) : Var w g 258 vx := let ⟨cs, h1, h2, h3, h4, h5, h6, h7⟩ := h; ⟨by rw [cell_of_row _ _ _ _ _ _ h1]; exact h6, frozen_of_row _ _ _ _ _ h1⟩
theorem Bc.f (h : Bc w g R N A vx vf) : Var w g 259 vf := let ⟨cs, h1, h2, h3, h4, h5, h6, h7⟩ := h; ⟨by rw [cell_of_row _ _ _ _ _ _ h1]; exact h7, frozen_of_row _ _ _ _ _ h1⟩
theorem Bc.same {w' : World} (h : Bc w g R N A vx vf) (e : w'.heap[g]? = w.heap[g]?) : Bc w' g R N A vx vf := by
  obtain ⟨cs, h1, h2⟩ := h
  exact ⟨cs, by rw [e]; exact h1, h2⟩
theorem Bc.setN (h : Bc w g R N A vx vf) (m : Nat) : Bc (w.setCell ⟨g, 1, none⟩ (.int .i64 m)) g R m A vx vf := by
  obtain ⟨cs, h1, h2, h3, h4, h5, h6, h7⟩ := h
  refine ⟨_, heap_setCell_same _ _ 1 _ _ _ h1, by simpa using h2, ?_, ?_, fun b hb => ?_, ?_, ?_⟩
  · rw [Array.getElem?_setIfInBounds_ne (by decide)]; exact h3
  · rw [Array.getElem?_setIfInBounds_self_of_lt (by omega)]
  · rw [Array.getElem?_setIfInBounds_ne (by omega)]; exact h5 b hb
  · rw [Array.getElem?_setIfInBounds_ne (by decide)]; exact h6
  · rw [Array.getElem?_setIfInBounds_ne (by decide)]; exact h7
theorem Bc.setX (h : Bc w g R N A vx vf) (v : Value) : Bc (w.setCell ⟨g, 258, none⟩ v) g R N A v vf := by
  obtain ⟨cs, h1, h2, h3, h4, h5, h6, h7⟩ := h
  refine ⟨_, heap_setCell_same _ _ 258 _ _ _ h1, by simpa using h2, ?_, ?_, fun b hb => ?_, ?_, ?_⟩
  · rw [Array.getElem?_setIfInBounds_ne (by decide)]; exact h3
  · rw [Array.getElem?_setIfInBounds_ne (by decide)]; exact h4
  · rw [Array.getElem?_setIfInBounds_ne (by omega)]; exact h5 b hb
  · rw [Array.getElem?_setIfInBounds_self_of_lt (by omega)]
  · rw [Array.getElem?_setIfInBounds_ne (by decide)]; exact h7
theorem Bc.setF (h : Bc w g R N A vx vf) (v : Value) : Bc (w.setCell ⟨g, 259, none⟩ v) g R N A vx v := by
  obtain ⟨cs, h1, h2, h3, h4, h5, h6, h7⟩ := h
  refine ⟨_, heap_setCell_same _ _ 259 _ _ _ h1, by simpa using h2, ?_, ?_, fun b hb => ?_, ?_, ?_⟩
  · rw [Array.getElem?_setIfInBounds_ne (by decide)]; exact h3
  · rw [Array.getElem?_setIfInBounds_ne (by decide)]; exact h4
  · rw [Array.getElem?_setIfInBounds_ne (by omega)]; exact h5 b hb
  · rw [Array.getElem?_setIfInBounds_ne (by decide)]; exact h6
  · rw [Array.getElem?_setIfInBounds_self_of_lt (by omega)]
theorem Bc.setAt (h : Bc w g R N A vx vf) (b v : Nat) (hb : b < 256) : Bc (w.setCell ⟨g, 2 + b, none⟩ (.int .u16 v)) g R N (fun i => if i = b then v else A i) vx vf := by
  obtain ⟨cs, h1, h2, h3, h4, h5, h6, h7⟩ := h
  refine ⟨_, heap_setCell_same _ _ (2 + b) _ _ _ h1, by simpa using h2, ?_, ?_, fun i hi => ?_, ?_, ?_⟩
  · rw [Array.getElem?_setIfInBounds_ne (by omega)]; exact h3
  · rw [Array.getElem?_setIfInBounds_ne (by omega)]; exact h4
  · by_cases e : i = b
    · subst e
      rw [Array.getElem?_setIfInBounds_self_of_lt (by omega)]
      simp
    · rw [Array.getElem?_setIfInBounds_ne (by omega)]
      simp only [if_neg e]
      exact h5 i hi
  · rw [Array.getElem?_setIfInBounds_ne (by omega)]; exact h6
  · rw [Array.getElem?_setIfInBounds_ne (by omega)]; exact h7
end

/-- how many bytes have a place -/
def cntA (A : Nat → Nat) : Nat := ((List.range 256).filter fun b => decide (A b ≠ 0)).length

/-- the places are one to one, and those that are free are no byte's -/
structure Plc (room : Nat) (A : Nat → Nat) (X : List Th) (F : List Nat) : Prop where
  le : ∀ b, b < 256 → A b ≤ X.length
  inj : ∀ b c, b < 256 → c < 256 → A b ≠ 0 → A b = A c → b = c
  nodup : F.Nodup
  free : ∀ i ∈ F, 1 ≤ i ∧ i ≤ X.length ∧ ∀ b, b < 256 → A b ≠ i
  sum : X.length = cntA A + F.length
  most : X.length ≤ 256
  room : cntA A ≤ room

/-- what a board holds at a byte -/
def heldA (A : Nat → Nat) (X : List Th) (b : Nat) : Option Th := if A b = 0 then none else some (X.getD (A b - 1) none)

/-- a board: its block, its two rows, in memory of the call's own; its blocks are the list's -/
structure Bd (w : World) (base g room : Nat) (A : Nat → Nat) (X : List Th) (F : List Nat) (px : Option Addr) (cx : Nat) (pf : Option Addr) (cf : Nat) : Prop where
  blk : Bc w g room (cntA A) A (.slice px X.length cx) (.slice pf F.length cf)
  ownX : w.ownsRow base 48 1 (.slice px X.length cx) X.length (X.map Value.pointer)
  ownF : w.ownsRow base 197 1 (.slice pf F.length cf) F.length (F.map fun i : Nat => Value.int .u16 (i : Int))
  plc : Plc room A X F
  base : base ≤ g
  apX : ∀ a, px = some a → a.block ≠ g
  apF : ∀ a, pf = some a → a.block ≠ g
  apart : ∀ a c, px = some a → pf = some c → a.block ≠ c.block
  rooms : 0 < room ∧ room ≤ 256

theorem Plc.cnt_le {room : Nat} {A : Nat → Nat} {X : List Th} {F : List Nat} (h : Plc room A X F) : cntA A ≤ 256 := by have := h.sum; have := h.most; omega

theorem ok52 (g room : Nat) (w : World) (hr : w.cell? ⟨g, 0, none⟩ = some (.int .i64 room)) (h0 : 0 < room) : Calls Tryz.prog 120 #[.pointer (some ⟨g, 0, none⟩)] w fun e w' => e = .returned (.bool true) ∧ w' = w := by
  have d : decide ((0 : Int) < (room : Int)) = true := by simp; omega
  go_enter Tryz.func120, Tryz.ntmps120
  go_wp2
  go_ret
  exact ⟨rfl, rfl⟩

theorem ok52_nil (w : World) : Calls Tryz.prog 120 #[.pointer none] w fun e w' => e = .returned (.bool false) ∧ w' = w := by
  go_enter Tryz.func120, Tryz.ntmps120
  go_wp2
  go_ret
  exact ⟨rfl, rfl⟩

theorem ok52_zero (g : Nat) (w : World) (hr : w.cell? ⟨g, 0, none⟩ = some (.int .i64 0)) : Calls Tryz.prog 120 #[.pointer (some ⟨g, 0, none⟩)] w fun e w' => e = .returned (.bool false) ∧ w' = w := by
  go_enter Tryz.func120, Tryz.ntmps120
  go_wp2
  go_ret
  exact ⟨rfl, rfl⟩

/-- a pointer at which there is no board -/
def NoBd (w : World) (v : Value) : Prop := v = .pointer none ∨ ∃ g, v = .pointer (some ⟨g, 0, none⟩) ∧ w.cell? ⟨g, 0, none⟩ = some (.int .i64 0)

theorem ok52_no (v : Value) (w : World) (h : NoBd w v) : Calls Tryz.prog 120 #[v] w fun e w' => e = .returned (.bool false) ∧ w' = w := by
  rcases h with rfl | ⟨g, rfl, hc⟩
  · exact ok52_nil w
  · exact ok52_zero g w hc

set_option maxHeartbeats 400000 in
theorem len17 (g room n : Nat) (A : Nat → Nat) (vx vf : Value) (w : World) (h : Bc w g room n A vx vf) (h0 : 0 < room) : Calls Tryz.prog 157 #[.pointer (some ⟨g, 0, none⟩)] w fun e w' => e = .returned (.int .i64 n) ∧ w' = w := by
  have H := Lib.hid (ok52 g room w h.vRoom.cell h0)
  have g1 := h.vN.cell
  have hnot : ∀ (x : Bool) (w : World), (Op.unary .not (.bool x)).run Tryz.prog w = .ok (.bool (!x)) w := fun _ _ => rfl
  clear h
  go_enter Tryz.func157, Tryz.ntmps157
  go_wp2_with fail
  refine H.out.mono ?_; rintro e w' ⟨rfl, rfl⟩
  go_wp2_with fail
  go_ret
  exact ⟨rfl, rfl⟩

set_option maxHeartbeats 400000 in
theorem room34 (g room : Nat) (w : World) (hr : w.cell? ⟨g, 0, none⟩ = some (.int .i64 room)) (h0 : 0 < room) : Calls Tryz.prog 125 #[.pointer (some ⟨g, 0, none⟩)] w fun e w' => e = .returned (.int .i64 room) ∧ w' = w := by
  have H := Lib.hid (ok52 g room w hr h0)
  have hnot : ∀ (x : Bool) (w : World), (Op.unary .not (.bool x)).run Tryz.prog w = .ok (.bool (!x)) w := fun _ _ => rfl
  go_enter Tryz.func125, Tryz.ntmps125
  go_wp2_with fail
  refine H.out.mono ?_; rintro e w' ⟨rfl, rfl⟩
  go_wp2_with fail
  go_ret
  exact ⟨rfl, rfl⟩

set_option maxHeartbeats 800000 in
/-- Get where nothing is held -/
theorem get16_no (g room n b : Nat) (A : Nat → Nat) (vx vf : Value) (w : World) (h : Bc w g room n A vx vf) (h0 : 0 < room) (hb : b < 256) (ha : A b = 0) :
    Calls Tryz.prog 89 #[.pointer (some ⟨g, 0, none⟩), .int .u8 b] w fun e w' => e = .returned (.tuple #[.pointer none, .bool false]) ∧ w' = w := by
  have H := Lib.hid (ok52 g room w h.vRoom.cell h0)
  have g1 := (h.at b hb).cell
  rw [ha] at g1
  have b0 : (0 : Int) ≤ (b : Int) := by omega
  have b1 : (b : Int) < 256 := by omega
  have hnot : ∀ (x : Bool) (w : World), (Op.unary .not (.bool x)).run Tryz.prog w = .ok (.bool (!x)) w := fun _ _ => rfl
  clear h ha
  go_enter Tryz.func89, Tryz.ntmps89
  go_wp2_with fail
  refine H.out.mono ?_; rintro e w' ⟨rfl, rfl⟩
  go_wp2_with fail
  go_ret2
  exact ⟨rfl, rfl⟩

set_option maxHeartbeats 800000 in
/-- Get where something is held -/
theorem get16_yes (g room n b j m c bx : Nat) (x : Th) (A : Nat → Nat) (vf : Value) (w : World) (h : Bc w g room n A (.slice (some ⟨bx, 0, none⟩) m c) vf) (h0 : 0 < room) (hb : b < 256) (ha : A b = j + 1) (hj : j < m) (hm : m ≤ 256)
    (hx : w.cell? ⟨bx, j, none⟩ = some (.pointer x)) :
    Calls Tryz.prog 89 #[.pointer (some ⟨g, 0, none⟩), .int .u8 b] w fun e w' => e = .returned (.tuple #[.pointer x, .bool true]) ∧ ∃ z, w' = w.drewN z := by
  have H := Lib.hid (ok52 g room w h.vRoom.cell h0)
  have g1 := (h.at b hb).cell
  rw [ha] at g1
  have g1' : w.cell? ⟨g, 2 + b, none⟩ = some (.int .u16 ((j : Int) + 1)) := by rw [g1]; norm_cast
  have g2 := h.x.cell
  have b0 : (0 : Int) ≤ (b : Int) := by omega
  have b1 : (b : Int) < 256 := by omega
  have d1 : (((j : Int) + 1) == 0) = false := by simp; omega
  have q0 : IntKind.u16.wrap (j : Int) = (j : Int) := IntWalk.u16_in _ (by omega)
  have j0 : (0 : Int) ≤ (j : Int) := by omega
  have j1 : (j : Int) < (m : Int) := by omega
  have hnot : ∀ (x : Bool) (w : World), (Op.unary .not (.bool x)).run Tryz.prog w = .ok (.bool (!x)) w := fun _ _ => rfl
  clear h ha g1
  go_enter Tryz.func89, Tryz.ntmps89
  go_wp2_with fail
  refine H.out.mono ?_; rintro e w' ⟨rfl, rfl⟩
  go_wp2_with fail
  go_quiet (fail)
  all_goals
    go_wp2_with fail
    go_ret2
    exact ⟨rfl, _, rfl⟩

set_option maxHeartbeats 400000 in
theorem get16_nobd (v : Value) (b : Int) (w : World) (h : NoBd w v) : Calls Tryz.prog 89 #[v, .int .u8 b] w fun e w' => e = .returned (.tuple #[.pointer none, .bool false]) ∧ w' = w := by
  have H := Lib.hid (ok52_no v w h)
  have hnot : ∀ (x : Bool) (w : World), (Op.unary .not (.bool x)).run Tryz.prog w = .ok (.bool (!x)) w := fun _ _ => rfl
  clear h
  go_enter Tryz.func89, Tryz.ntmps89
  go_wp2_with fail
  refine H.out.mono ?_; rintro e w' ⟨rfl, rfl⟩
  go_wp2_with fail
  go_ret2
  exact ⟨rfl, rfl⟩

end Go.Proofs.YtbihlmkjoplkoaaGreatDoor
/-
  The board: what is found by Get, Next, Prev.
-/
namespace Go.Proofs.YtbihlmkjoplkoaaGreatDoor
open Go.RowKit
set_option linter.unusedVariables false

/-- what Get tells -/
def valO (o : Option Th) : Th := o.getD none

theorem getBd {w : World} {base g room : Nat} {A : Nat → Nat} {X : List Th} {F : List Nat} {px : Option Addr} {cx : Nat} {pf : Option Addr} {cf : Nat} (h : Bd w base g room A X F px cx pf cf) (b : Nat) (hb : b < 256) :
    Calls Tryz.prog 89 #[.pointer (some ⟨g, 0, none⟩), .int .u8 b] w fun e w' => e = .returned (.tuple #[.pointer (valO (heldA A X b)), .bool (heldA A X b).isSome]) ∧ ∃ z, w' = w.drewN z := by
  by_cases h0 : A b = 0
  · have : heldA A X b = none := by unfold heldA; rw [if_pos h0]
    rw [this]
    exact (get16_no g room _ b A _ _ w h.blk h.rooms.1 hb h0).mono fun e w' ⟨he, hw⟩ => ⟨he, 0, hw⟩
  · have e1 : heldA A X b = some (X.getD (A b - 1) none) := by unfold heldA; rw [if_neg h0]
    rw [e1]
    have hle := h.plc.le b hb
    have hm := h.plc.most
    rcases h.ownX.2 with ⟨e, e2⟩ | ⟨bx, cap, cur, e, _⟩
    · omega
    · cases e
      have hc := h.ownX.cellAt (A b - 1) (by omega)
      rw [List.getElem?_map] at hc
      have hx : X[A b - 1]? = some (X.getD (A b - 1) none) := by
        rw [List.getD_eq_getElem?_getD, List.getElem?_eq_getElem (by omega)]; rfl
      rw [hx] at hc
      exact get16_yes g room _ b (A b - 1) X.length cx bx (X.getD (A b - 1) none) A _ w h.blk h.rooms.1 hb (by omega) (by omega) hm hc

theorem Bc.drewN {w : World} {g R N : Nat} {A : Nat → Nat} {vx vf : Value} (h : Bc w g R N A vx vf) (z : Nat) : Bc (w.drewN z) g R N A vx vf := h
theorem Bd.drewN {w : World} {base g room : Nat} {A : Nat → Nat} {X : List Th} {F : List Nat} {px : Option Addr} {cx : Nat} {pf : Option Addr} {cf : Nat} (h : Bd w base g room A X F px cx pf cf) (z : Nat) : Bd (w.drewN z) base g room A X F px cx pf cf :=
  ⟨h.blk, h.ownX, h.ownF, h.plc, h.base, h.apX, h.apF, h.apart, h.rooms⟩

/-- a byte, what is held there, whether something is -/
structure Tri where
  b : Nat
  x : Th
  ok : Bool

/-- what Next and Prev tell of what is held -/
def NextR (f : Nat → Option Th) (s : Int) (r : Tri) : Prop :=
  (∃ (b : Nat) (x : Th), b < 256 ∧ s ≤ b ∧ f b = some x ∧ (∀ c : Nat, c < b → s ≤ c → f c = none) ∧ r = ⟨b, x, true⟩) ∨ ((∀ c : Nat, c < 256 → s ≤ c → f c = none) ∧ r = ⟨0, none, false⟩)
theorem NextR.det {f : Nat → Option Th} {s : Int} {r r' : Tri} (h : NextR f s r) (h' : NextR f s r') : r = r' := by
  rcases h with ⟨b, x, h1, h2, h3, h4, rfl⟩ | ⟨h1, rfl⟩
  · rcases h' with ⟨c, y, k1, k2, k3, k4, rfl⟩ | ⟨k1, rfl⟩
    · have : b = c := by
        rcases Nat.lt_trichotomy b c with h | h | h
        · have := k4 b h h2; rw [h3] at this; cases this
        · exact h
        · have := h4 c h k2; rw [k3] at this; cases this
      subst this
      rw [h3] at k3; cases k3; rfl
    · have := k1 b h1 h2; rw [h3] at this; cases this
  · rcases h' with ⟨c, y, k1, k2, k3, k4, rfl⟩ | ⟨k1, rfl⟩
    · have := h1 c k1 k2; rw [k3] at this; cases this
    · rfl
/-- three results -/
def tri (r : Tri) : Value := .tuple #[.int .u8 r.b, .pointer r.x, .bool r.ok]

set_option maxRecDepth 100000 in
set_option maxHeartbeats 800000 in
theorem next32_loop (g : Nat) (from' s : Int) (f : Nat → Option Th) (w : World) (hs : 0 ≤ s) (hmax : max from' 0 = s)
    (HK : Hid (∀ z, Calls Tryz.prog 120 #[.pointer (some ⟨g, 0, none⟩)] (w.drewN z) fun e w' => e = .returned (.bool true) ∧ w' = w.drewN z))
    (HG : Hid (∀ (b z : Nat), b < 256 → Calls Tryz.prog 89 #[.pointer (some ⟨g, 0, none⟩), .int .u8 b] (w.drewN z) fun e w' => e = .returned (.tuple #[.pointer (valO (f b)), .bool (f b).isSome]) ∧ ∃ y, w' = (w.drewN z).drewN y)) :
    Calls Tryz.prog 122 #[.pointer (some ⟨g, 0, none⟩), .int .i64 from'] w fun e w' => ∃ r, NextR f s r ∧ e = .returned (tri r) ∧ ∃ z, w' = w.drewN z := by
  go_enter Tryz.func122, Tryz.ntmps122
  go_wp2_with fail
  refine (HK.out 0).mono ?_; rintro e w' ⟨rfl, hw'⟩
  rw [show w' = w from hw']; clear hw' w'
  go_wp2_with fail
  all_goals
    go_loopw [7] (fun t wr => ∃ (i : Int) (z : Nat), t = .int .i64 i ∧ s ≤ i ∧ (i ≤ 256 ∨ i = s) ∧ Hid (∀ c : Nat, s ≤ c → (c : Int) < i → f c = none) ∧ wr = w.drewN z) (fun t _ => (256 - intOf t).toNat)
    case atStart => exact ⟨s, 0, vint (by omega), by omega, by omega, (fun c h1 h2 => by omega), rfl⟩
    case round =>
      obtain ⟨i, z, rfl, hi, hi2, hno, rfl⟩ := hrel
      by_cases hlt : i < 256
      · obtain ⟨b, rfl⟩ := Int.eq_ofNat_of_zero_le (show 0 ≤ i by omega)
        have d0 : decide ((b : Int) < 256) = true := by simp; omega
        have q0 : IntKind.u8.wrap (b : Int) = (b : Int) := IntWalk.u8_in _ (by omega)
        have hb : b < 256 := by omega
        have q1 : IntKind.i64.wrap ((b : Int) + 1) = (b : Int) + 1 := IntWalk.i64_in _ (by omega)
        cases hf : f b with
        | none =>
          have HGb := Lib.hid (HG.out b z hb)
          rw [hf] at HGb
          have HF := Lib.hid hf
          clear hf
          go_wp2_with fail
          refine HGb.out.mono ?_; rintro e w' ⟨rfl, y, hw'⟩
          rw [World.drewN_drewN] at hw'
          rw [hw']; clear hw' w'
          simp only [Option.isSome, valO, Option.getD]
          go_wp2_with fail
          go_roundw
          case rel => exact ⟨(b : Int) + 1, z + y, rfl, by omega, by omega, (fun c h1 h2 => by
            by_cases e : c = b
            · subst e; exact HF.out
            · exact hno.out c h1 (by omega)), rfl⟩
          case measure => simp [intOf]; omega
        | some x =>
          have HGb := Lib.hid (HG.out b z hb)
          rw [hf] at HGb
          have HF := Lib.hid hf
          clear hf
          go_wp2_with fail
          refine HGb.out.mono ?_; rintro e w' ⟨rfl, y, hw'⟩
          rw [World.drewN_drewN] at hw'
          rw [hw']; clear hw' w'
          simp only [Option.isSome, valO, Option.getD]
          go_wp2_with fail
          go_ret3
          exact ⟨⟨b, x, true⟩, Or.inl ⟨b, x, hb, hi, HF.out, fun c h1 h2 => hno.out c h2 (by omega), rfl⟩, rfl, _, rfl⟩
      · have d0 : decide (i < 256) = false := by simp; omega
        go_wp2_with fail
        go_ret3
        exact ⟨⟨0, none, false⟩, Or.inr ⟨fun c h1 h2 => hno.out c h2 (by omega), rfl⟩, rfl, _, rfl⟩

theorem okBd {w : World} {base g room : Nat} {A : Nat → Nat} {X : List Th} {F : List Nat} {px : Option Addr} {cx : Nat} {pf : Option Addr} {cf : Nat} (h : Bd w base g room A X F px cx pf cf) :
    Calls Tryz.prog 120 #[.pointer (some ⟨g, 0, none⟩)] w fun e w' => e = .returned (.bool true) ∧ w' = w := ok52 g room w h.blk.vRoom.cell h.rooms.1

theorem nextBd {w : World} {base g room : Nat} {A : Nat → Nat} {X : List Th} {F : List Nat} {px : Option Addr} {cx : Nat} {pf : Option Addr} {cf : Nat} (h : Bd w base g room A X F px cx pf cf) (from' : Int) :
    Calls Tryz.prog 122 #[.pointer (some ⟨g, 0, none⟩), .int .i64 from'] w fun e w' => ∃ r, NextR (heldA A X) (max from' 0) r ∧ e = .returned (tri r) ∧ ∃ z, w' = w.drewN z :=
  next32_loop g from' _ (heldA A X) w (by omega) rfl (fun z => okBd (h.drewN z)) (fun b z hb => getBd (h.drewN z) b hb)

theorem next32_nobd (v : Value) (from' : Int) (w : World) (h : NoBd w v) : Calls Tryz.prog 122 #[v, .int .i64 from'] w fun e w' => e = .returned (tri ⟨0, none, false⟩) ∧ w' = w := by
  have H := Lib.hid (ok52_no v w h)
  clear h
  go_enter Tryz.func122, Tryz.ntmps122
  go_wp2_with fail
  refine H.out.mono ?_; rintro e w' ⟨rfl, rfl⟩
  go_wp2_with fail
  go_ret3
  exact ⟨rfl, rfl⟩

end Go.Proofs.YtbihlmkjoplkoaaGreatDoor
/-
  The board, in plain Lean: how many bytes have a place; what a place that is given or taken turns.
-/
namespace Go.Proofs.YtbihlmkjoplkoaaGreatDoor
open Go.RowKit
set_option linter.unusedVariables false

def upd (A : Nat → Nat) (b v : Nat) : Nat → Nat := fun i => if i = b then v else A i
theorem upd_same (A : Nat → Nat) (b v : Nat) : upd A b v b = v := by simp [upd]
theorem upd_ne (A : Nat → Nat) (b v : Nat) {i : Nat} (h : i ≠ b) : upd A b v i = A i := by simp [upd, h]

def cntN (A : Nat → Nat) (n : Nat) : Nat := ((List.range n).filter fun b => decide (A b ≠ 0)).length
theorem cntN_succ (A : Nat → Nat) (n : Nat) : cntN A (n + 1) = cntN A n + (if A n ≠ 0 then 1 else 0) := by
  unfold cntN
  rw [List.range_succ, List.filter_append, List.length_append]
  by_cases h : A n ≠ 0
  · rw [if_pos h]; simp [h]
  · rw [if_neg h]; simp at h; simp [h]
theorem cntN_upd (A : Nat → Nat) (b v : Nat) : ∀ n, cntN (upd A b v) n + (if b < n ∧ A b ≠ 0 then 1 else 0) = cntN A n + (if b < n ∧ v ≠ 0 then 1 else 0)
  | 0 => by simp [cntN]
  | n + 1 => by
    have ih := cntN_upd A b v n
    rw [cntN_succ, cntN_succ]
    by_cases e : n = b
    · subst e
      rw [upd_same]
      rw [if_neg (by omega), if_neg (by omega)] at ih
      by_cases h1 : A n ≠ 0 <;> by_cases h2 : v ≠ 0
      · rw [if_pos h2, if_pos ⟨by omega, h1⟩, if_pos h1, if_pos ⟨by omega, h2⟩]; omega
      · rw [if_neg h2, if_pos ⟨by omega, h1⟩, if_pos h1, if_neg (fun h => h2 h.2)]; omega
      · rw [if_pos h2, if_neg (fun h => h1 h.2), if_neg h1, if_pos ⟨by omega, h2⟩]; omega
      · rw [if_neg h2, if_neg (fun h => h1 h.2), if_neg h1, if_neg (fun h => h2 h.2)]; omega
    · rw [upd_ne A b v e]
      have i1 : (b < n + 1 ∧ A b ≠ 0) ↔ (b < n ∧ A b ≠ 0) := by constructor <;> (rintro ⟨h, k⟩; exact ⟨by omega, k⟩)
      have i2 : (b < n + 1 ∧ v ≠ 0) ↔ (b < n ∧ v ≠ 0) := by constructor <;> (rintro ⟨h, k⟩; exact ⟨by omega, k⟩)
      simp only [i1, i2]
      omega
theorem cnt_new {A : Nat → Nat} {b v : Nat} (hb : b < 256) (ha : A b = 0) (hv : v ≠ 0) : cntA (upd A b v) = cntA A + 1 := by
  have := cntN_upd A b v 256
  rw [if_neg (by omega), if_pos ⟨hb, hv⟩] at this
  exact this
theorem cnt_drop {A : Nat → Nat} {b : Nat} (hb : b < 256) (ha : A b ≠ 0) : cntA (upd A b 0) + 1 = cntA A := by
  have := cntN_upd A b 0 256
  rw [if_pos ⟨hb, ha⟩, if_neg (by omega)] at this
  exact this

theorem heldA_set {A : Nat → Nat} {X : List Th} (b j : Nat) (x : Th) (hA : A b = j + 1) (hj : j < X.length) (hinj : ∀ c, c < 256 → A c = j + 1 → c = b) (c : Nat) (hc : c < 256) :
    heldA A (X.set j x) c = if c = b then some x else heldA A X c := by
  unfold heldA
  by_cases e : c = b
  · subst e
    rw [if_pos rfl, if_neg (by omega), hA, Nat.add_sub_cancel, List.getD_eq_getElem?_getD, List.getElem?_set, if_pos rfl, if_pos hj]
    rfl
  · rw [if_neg e]
    by_cases h0 : A c = 0
    · rw [if_pos h0, if_pos h0]
    · rw [if_neg h0, if_neg h0, List.getD_eq_getElem?_getD, List.getD_eq_getElem?_getD, List.getElem?_set, if_neg (fun h => e (hinj c hc (by omega)))]

/-- a thing is laid where one was -/
theorem Plc.old {room : Nat} {A : Nat → Nat} {X : List Th} {F : List Nat} (h : Plc room A X F) (j : Nat) (x : Th) : Plc room A (X.set j x) F :=
  ⟨fun b hb => by rw [List.length_set]; exact h.le b hb, h.inj, h.nodup, fun i hi => by rw [List.length_set]; exact h.free i hi, by rw [List.length_set]; exact h.sum, by rw [List.length_set]; exact h.most, h.room⟩

theorem Plc.inj1 {room : Nat} {A : Nat → Nat} {X : List Th} {F : List Nat} (h : Plc room A X F) {b j : Nat} (hb : b < 256) (ha : A b = j + 1) : ∀ c, c < 256 → A c = j + 1 → c = b := fun c hc he =>
  h.inj c b hc hb (by omega) (by omega)

/-- a place that was free is given -/
theorem Plc.give {room : Nat} {A : Nat → Nat} {X : List Th} {F' : List Nat} {j b : Nat} (h : Plc room A X (F' ++ [j + 1])) (hb : b < 256) (ha : A b = 0) (hn : cntA A < room) :
    Plc room (upd A b (j + 1)) X F' ∧ j < X.length ∧ ∀ c, c < 256 → upd A b (j + 1) c = j + 1 → c = b := by
  have hf := h.free (j + 1) (by simp)
  have hu : ∀ c, c < 256 → upd A b (j + 1) c = j + 1 → c = b := fun c hc he => by
    by_cases e : c = b
    · exact e
    · rw [upd_ne _ _ _ e] at he
      exact absurd he (hf.2.2 c hc)
  refine ⟨⟨fun c hc => ?_, fun c d hc hd h0 he => ?_, ?_, fun i hi => ⟨(h.free i (by simp [hi])).1, (h.free i (by simp [hi])).2.1, fun c hc he => ?_⟩, ?_, h.most, ?_⟩, by omega, hu⟩
  · by_cases e : c = b
    · subst e; rw [upd_same]; omega
    · rw [upd_ne _ _ _ e]; exact h.le c hc
  · by_cases e : c = b
    · subst e
      rw [upd_same] at he
      exact (hu d hd he.symm).symm
    · by_cases e2 : d = b
      · subst e2
        rw [upd_same] at he
        exact hu c hc he
      · rw [upd_ne _ _ _ e] at h0
        rw [upd_ne _ _ _ e, upd_ne _ _ _ e2] at he
        exact h.inj c d hc hd h0 he
  · exact (List.nodup_append.1 h.nodup).1
  · by_cases e : c = b
    · subst e
      rw [upd_same] at he
      subst he
      exact (List.nodup_append.1 h.nodup).2.2 _ hi _ (by simp) rfl
    · rw [upd_ne _ _ _ e] at he
      exact (h.free i (by simp [hi])).2.2 c hc he
  · rw [cnt_new hb ha (by omega)]
    have := h.sum
    simp at this
    omega
  · rw [cnt_new hb ha (by omega)]; omega

/-- a new place is made -/
theorem Plc.grow {room : Nat} {A : Nat → Nat} {X : List Th} {b : Nat} (h : Plc room A X []) (hr : room ≤ 256) (hb : b < 256) (ha : A b = 0) (hn : cntA A < room) :
    Plc room (upd A b (X.length + 1)) (X ++ [none]) [] ∧ ∀ c, c < 256 → upd A b (X.length + 1) c = X.length + 1 → c = b := by
  have hs := h.sum
  simp at hs
  have hu : ∀ c, c < 256 → upd A b (X.length + 1) c = X.length + 1 → c = b := fun c hc he => by
    by_cases e : c = b
    · exact e
    · rw [upd_ne _ _ _ e] at he
      have := h.le c hc
      omega
  refine ⟨⟨fun c hc => ?_, fun c d hc hd h0 he => ?_, List.nodup_nil, fun i hi => by simp at hi, ?_, by simp; omega, ?_⟩, hu⟩
  · by_cases e : c = b
    · subst e; rw [upd_same]; simp
    · rw [upd_ne _ _ _ e]; have := h.le c hc; simp; omega
  · by_cases e : c = b
    · subst e
      rw [upd_same] at he
      exact (hu d hd he.symm).symm
    · by_cases e2 : d = b
      · subst e2
        rw [upd_same] at he
        exact hu c hc he
      · rw [upd_ne _ _ _ e] at h0
        rw [upd_ne _ _ _ e, upd_ne _ _ _ e2] at he
        exact h.inj c d hc hd h0 he
  · rw [cnt_new hb ha (by omega)]; simp; omega
  · rw [cnt_new hb ha (by omega)]; omega

/-- what was held is dropped -/
theorem Plc.drop {room : Nat} {A : Nat → Nat} {X : List Th} {F : List Nat} {j b : Nat} (h : Plc room A X F) (hb : b < 256) (ha : A b = j + 1) :
    Plc room (upd A b 0) (X.set j none) (F ++ [j + 1]) := by
  have hle := h.le b hb
  refine ⟨fun c hc => ?_, fun c d hc hd h0 he => ?_, ?_, fun i hi => ?_, ?_, by rw [List.length_set]; exact h.most, ?_⟩
  · rw [List.length_set]
    by_cases e : c = b
    · subst e; rw [upd_same]; omega
    · rw [upd_ne _ _ _ e]; exact h.le c hc
  · have e : c ≠ b := fun e => by subst e; rw [upd_same] at h0; omega
    rw [upd_ne _ _ _ e] at h0
    rw [upd_ne _ _ _ e] at he
    by_cases e2 : d = b
    · subst e2; rw [upd_same] at he; omega
    · rw [upd_ne _ _ _ e2] at he
      exact h.inj c d hc hd h0 he
  · refine List.nodup_append.2 ⟨h.nodup, by simp, fun i hi k hk => ?_⟩
    simp at hk
    subst hk
    intro e
    subst e
    exact (h.free _ hi).2.2 b hb ha
  · rw [List.length_set]
    rcases List.mem_append.1 hi with hi | hi
    · refine ⟨(h.free i hi).1, (h.free i hi).2.1, fun c hc he => ?_⟩
      by_cases e : c = b
      · subst e; rw [upd_same] at he; have := (h.free i hi).1; omega
      · rw [upd_ne _ _ _ e] at he
        exact (h.free i hi).2.2 c hc he
    · simp at hi
      subst hi
      refine ⟨by omega, by omega, fun c hc he => ?_⟩
      by_cases e : c = b
      · subst e; rw [upd_same] at he; omega
      · rw [upd_ne _ _ _ e] at he
        exact e (h.inj1 hb ha c hc he)
  · have := h.sum
    have := cnt_drop (A := A) hb (by omega)
    simp; omega
  · have := h.room
    have := cnt_drop (A := A) hb (by omega)
    omega

end Go.Proofs.YtbihlmkjoplkoaaGreatDoor
