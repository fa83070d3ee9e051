/-
  The board (wide): what its block holds, and contracts of the methods that read it.
-/
import Derived.Test.YthohpeinmkdfeaaExc
import Derived.Laws.Rows
import Derived.Laws.OwnMore
namespace Go.Proofs.Ythohpeinmkdfeaa
open Go.RowKit
set_option linter.unusedVariables false

/-- the cells of a board's block -/
def Bc (w : World) (g : Nat) (room n : Nat) (A : Nat → Nat) (vx vf : Value) : Prop :=
  ∃ cs : Array Value, w.heap[g]? = some (.cells cs 83 (0, 0)) ∧ cs.size = 260 ∧ cs[0]? = some (.int .i64 room) ∧ cs[1]? = some (.int .i64 n) ∧
    (∀ b, b < 256 → cs[2 + b]? = some (.int .u16 (A b))) ∧ cs[258]? = some vx ∧ cs[259]? = some vf

section
variable {w : World} {g R N : Nat} {A : Nat → Nat} {vx vf : Value}
theorem Bc.vRoom (h : Bc w g R N A vx vf) : Var w g 0 (.int .i64 R) := let ⟨cs, h1, h2, h3, h4, h5, h6, h7⟩ := h; ⟨by rw [cell_of_row _ _ _ _ _ _ h1]; exact h3, frozen_of_row _ _ _ _ _ h1⟩
theorem Bc.vN (h : Bc w g R N A vx vf) : Var w g 1 (.int .i64 N) := let ⟨cs, h1, h2, h3, h4, h5, h6, h7⟩ := h; ⟨by rw [cell_of_row _ _ _ _ _ _ h1]; exact h4, frozen_of_row _ _ _ _ _ h1⟩
theorem Bc.at (h : Bc w g R N A vx vf) (b : Nat) (hb : b < 256) : Var w g (2 + b) (.int .u16 (A b)) := let ⟨cs, h1, h2, h3, h4, h5, h6, h7⟩ := h; ⟨by rw [cell_of_row _ _ _ _ _ _ h1]; exact h5 b hb, frozen_of_row _ _ _ _ _ h1⟩
theorem Bc.x (h : Bc w g R N A vx vf) : Var w g 258 vx := let ⟨cs, h1, h2, h3, h4, h5, h6, h7⟩ := h; ⟨by rw [cell_of_row _ _ _ _ _ _ h1]; exact h6, frozen_of_row _ _ _ _ _ h1⟩
theorem Bc.f (h : Bc w g R N A vx vf) : Var w g 259 vf := let ⟨cs, h1, h2, h3, h4, h5, h6, h7⟩ := h; ⟨by rw [cell_of_row _ _ _ _ _ _ h1]; exact h7, frozen_of_row _ _ _ _ _ h1⟩
theorem Bc.same {w' : World} (h : Bc w g R N A vx vf) (e : w'.heap[g]? = w.heap[g]?) : Bc w' g R N A vx vf := by
  obtain ⟨cs, h1, h2⟩ := h
  exact ⟨cs, by rw [e]; exact h1, h2⟩
theorem Bc.setN (h : Bc w g R N A vx vf) (m : Nat) : Bc (w.setCell ⟨g, 1, none⟩ (.int .i64 m)) g R m A vx vf := by
  obtain ⟨cs, h1, h2, h3, h4, h5, h6, h7⟩ := h
  refine ⟨_, heap_setCell_same _ _ 1 _ _ _ h1, by simpa using h2, ?_, ?_, fun b hb => ?_, ?_, ?_⟩
  · rw [Array.getElem?_setIfInBounds_ne (by decide)]; exact h3
  · rw [Array.getElem?_setIfInBounds_self_of_lt (by omega)]
  · rw [Array.getElem?_setIfInBounds_ne (by omega)]; exact h5 b hb
  · rw [Array.getElem?_setIfInBounds_ne (by decide)]; exact h6
  · rw [Array.getElem?_setIfInBounds_ne (by decide)]; exact h7
theorem Bc.setX (h : Bc w g R N A vx vf) (v : Value) : Bc (w.setCell ⟨g, 258, none⟩ v) g R N A v vf := by
  obtain ⟨cs, h1, h2, h3, h4, h5, h6, h7⟩ := h
  refine ⟨_, heap_setCell_same _ _ 258 _ _ _ h1, by simpa using h2, ?_, ?_, fun b hb => ?_, ?_, ?_⟩
  · rw [Array.getElem?_setIfInBounds_ne (by decide)]; exact h3
  · rw [Array.getElem?_setIfInBounds_ne (by decide)]; exact h4
  · rw [Array.getElem?_setIfInBounds_ne (by omega)]; exact h5 b hb
  · rw [Array.getElem?_setIfInBounds_self_of_lt (by omega)]
  · rw [Array.getElem?_setIfInBounds_ne (by decide)]; exact h7
theorem Bc.setF (h : Bc w g R N A vx vf) (v : Value) : Bc (w.setCell ⟨g, 259, none⟩ v) g R N A vx v := by
  obtain ⟨cs, h1, h2, h3, h4, h5, h6, h7⟩ := h
  refine ⟨_, heap_setCell_same _ _ 259 _ _ _ h1, by simpa using h2, ?_, ?_, fun b hb => ?_, ?_, ?_⟩
  · rw [Array.getElem?_setIfInBounds_ne (by decide)]; exact h3
  · rw [Array.getElem?_setIfInBounds_ne (by decide)]; exact h4
  · rw [Array.getElem?_setIfInBounds_ne (by omega)]; exact h5 b hb
  · rw [Array.getElem?_setIfInBounds_ne (by decide)]; exact h6
  · rw [Array.getElem?_setIfInBounds_self_of_lt (by omega)]
theorem Bc.setAt (h : Bc w g R N A vx vf) (b v : Nat) (hb : b < 256) : Bc (w.setCell ⟨g, 2 + b, none⟩ (.int .u16 v)) g R N (fun i => if i = b then v else A i) vx vf := by
  obtain ⟨cs, h1, h2, h3, h4, h5, h6, h7⟩ := h
  refine ⟨_, heap_setCell_same _ _ (2 + b) _ _ _ h1, by simpa using h2, ?_, ?_, fun i hi => ?_, ?_, ?_⟩
  · rw [Array.getElem?_setIfInBounds_ne (by omega)]; exact h3
  · rw [Array.getElem?_setIfInBounds_ne (by omega)]; exact h4
  · by_cases e : i = b
    · subst e
      rw [Array.getElem?_setIfInBounds_self_of_lt (by omega)]
      simp
    · rw [Array.getElem?_setIfInBounds_ne (by omega)]
      simp only [if_neg e]
      exact h5 i hi
  · rw [Array.getElem?_setIfInBounds_ne (by omega)]; exact h6
  · rw [Array.getElem?_setIfInBounds_ne (by omega)]; exact h7
end

/-- how many bytes have a place -/
def cntA (A : Nat → Nat) : Nat := ((List.range 256).filter fun b => decide (A b ≠ 0)).length

/-- the places are one to one, and those that are free are no byte's -/
structure Plc (room : Nat) (A : Nat → Nat) (X : List Int) (F : List Nat) : Prop where
  le : ∀ b, b < 256 → A b ≤ X.length
  inj : ∀ b c, b < 256 → c < 256 → A b ≠ 0 → A b = A c → b = c
  nodup : F.Nodup
  free : ∀ i ∈ F, 1 ≤ i ∧ i ≤ X.length ∧ ∀ b, b < 256 → A b ≠ i
  sum : X.length = cntA A + F.length
  most : X.length ≤ 256
  room : cntA A ≤ room

/-- what a board holds at a byte -/
def heldA (A : Nat → Nat) (X : List Int) (b : Nat) : Option Int := if A b = 0 then none else some (X.getD (A b - 1) 0)

/-- a board: its block, its two rows, in memory of the call's own; its blocks are the list's -/
structure Bd (w : World) (base g room : Nat) (A : Nat → Nat) (X : List Int) (F : List Nat) (px : Option Addr) (cx : Nat) (pf : Option Addr) (cf : Nat) : Prop where
  blk : Bc w g room (cntA A) A (.slice px X.length cx) (.slice pf F.length cf)
  ownX : w.ownsRow base 3 1 (.slice px X.length cx) X.length (X.map (Value.int .i64))
  ownF : w.ownsRow base 38 1 (.slice pf F.length cf) F.length (F.map fun i : Nat => Value.int .u16 (i : Int))
  plc : Plc room A X F
  base : base ≤ g
  apX : ∀ a, px = some a → a.block ≠ g
  apF : ∀ a, pf = some a → a.block ≠ g
  apart : ∀ a c, px = some a → pf = some c → a.block ≠ c.block
  rooms : 0 < room ∧ room ≤ 256

theorem Plc.cnt_le {room : Nat} {A : Nat → Nat} {X : List Int} {F : List Nat} (h : Plc room A X F) : cntA A ≤ 256 := by have := h.sum; have := h.most; omega

theorem ok52 (g room : Nat) (w : World) (hr : w.cell? ⟨g, 0, none⟩ = some (.int .i64 room)) (h0 : 0 < room) : Calls Try.prog 52 #[.pointer (some ⟨g, 0, none⟩)] w fun e w' => e = .returned (.bool true) ∧ w' = w := by
  have d : decide ((0 : Int) < (room : Int)) = true := by simp; omega
  go_enter Try.func52, Try.ntmps52
  go_wp2
  go_ret
  exact ⟨rfl, rfl⟩

theorem ok52_nil (w : World) : Calls Try.prog 52 #[.pointer none] w fun e w' => e = .returned (.bool false) ∧ w' = w := by
  go_enter Try.func52, Try.ntmps52
  go_wp2
  go_ret
  exact ⟨rfl, rfl⟩

theorem ok52_zero (g : Nat) (w : World) (hr : w.cell? ⟨g, 0, none⟩ = some (.int .i64 0)) : Calls Try.prog 52 #[.pointer (some ⟨g, 0, none⟩)] w fun e w' => e = .returned (.bool false) ∧ w' = w := by
  go_enter Try.func52, Try.ntmps52
  go_wp2
  go_ret
  exact ⟨rfl, rfl⟩

/-- a pointer at which there is no board -/
def NoBd (w : World) (v : Value) : Prop := v = .pointer none ∨ ∃ g, v = .pointer (some ⟨g, 0, none⟩) ∧ w.cell? ⟨g, 0, none⟩ = some (.int .i64 0)

theorem ok52_no (v : Value) (w : World) (h : NoBd w v) : Calls Try.prog 52 #[v] w fun e w' => e = .returned (.bool false) ∧ w' = w := by
  rcases h with rfl | ⟨g, rfl, hc⟩
  · exact ok52_nil w
  · exact ok52_zero g w hc

set_option maxHeartbeats 400000 in
theorem len17 (g room n : Nat) (A : Nat → Nat) (vx vf : Value) (w : World) (h : Bc w g room n A vx vf) (h0 : 0 < room) : Calls Try.prog 17 #[.pointer (some ⟨g, 0, none⟩)] w fun e w' => e = .returned (.int .i64 n) ∧ w' = w := by
  have H := Lib.hid (ok52 g room w h.vRoom.cell h0)
  have g1 := h.vN.cell
  have hnot : ∀ (x : Bool) (w : World), (Op.unary .not (.bool x)).run Try.prog w = .ok (.bool (!x)) w := fun _ _ => rfl
  clear h
  go_enter Try.func17, Try.ntmps17
  go_wp2_with fail
  refine H.out.mono ?_; rintro e w' ⟨rfl, rfl⟩
  go_wp2_with fail
  go_ret
  exact ⟨rfl, rfl⟩

set_option maxHeartbeats 400000 in
theorem room34 (g room : Nat) (w : World) (hr : w.cell? ⟨g, 0, none⟩ = some (.int .i64 room)) (h0 : 0 < room) : Calls Try.prog 34 #[.pointer (some ⟨g, 0, none⟩)] w fun e w' => e = .returned (.int .i64 room) ∧ w' = w := by
  have H := Lib.hid (ok52 g room w hr h0)
  have hnot : ∀ (x : Bool) (w : World), (Op.unary .not (.bool x)).run Try.prog w = .ok (.bool (!x)) w := fun _ _ => rfl
  go_enter Try.func34, Try.ntmps34
  go_wp2_with fail
  refine H.out.mono ?_; rintro e w' ⟨rfl, rfl⟩
  go_wp2_with fail
  go_ret
  exact ⟨rfl, rfl⟩

set_option maxHeartbeats 400000 in
theorem used30 (g room n : Nat) (A : Nat → Nat) (p : Option Addr) (m c : Nat) (vf : Value) (w : World) (h : Bc w g room n A (.slice p m c) vf) (h0 : 0 < room) : Calls Try.prog 30 #[.pointer (some ⟨g, 0, none⟩)] w fun e w' => e = .returned (.int .i64 m) ∧ w' = w := by
  have H := Lib.hid (ok52 g room w h.vRoom.cell h0)
  have g1 := h.x.cell
  have hnot : ∀ (x : Bool) (w : World), (Op.unary .not (.bool x)).run Try.prog w = .ok (.bool (!x)) w := fun _ _ => rfl
  clear h
  go_enter Try.func30, Try.ntmps30
  go_wp2_with fail
  refine H.out.mono ?_; rintro e w' ⟨rfl, rfl⟩
  go_wp2_with fail
  go_ret
  exact ⟨rfl, rfl⟩

set_option maxHeartbeats 800000 in
/-- Get where nothing is held -/
theorem get16_no (g room n b : Nat) (A : Nat → Nat) (vx vf : Value) (w : World) (h : Bc w g room n A vx vf) (h0 : 0 < room) (hb : b < 256) (ha : A b = 0) :
    Calls Try.prog 16 #[.pointer (some ⟨g, 0, none⟩), .int .u8 b] w fun e w' => e = .returned (.tuple #[.int .i64 0, .bool false]) ∧ w' = w := by
  have H := Lib.hid (ok52 g room w h.vRoom.cell h0)
  have g1 := (h.at b hb).cell
  rw [ha] at g1
  have b0 : (0 : Int) ≤ (b : Int) := by omega
  have b1 : (b : Int) < 256 := by omega
  have hnot : ∀ (x : Bool) (w : World), (Op.unary .not (.bool x)).run Try.prog w = .ok (.bool (!x)) w := fun _ _ => rfl
  clear h ha
  go_enter Try.func16, Try.ntmps16
  go_wp2_with fail
  refine H.out.mono ?_; rintro e w' ⟨rfl, rfl⟩
  go_wp2_with fail
  go_ret2
  exact ⟨rfl, rfl⟩

set_option maxHeartbeats 800000 in
/-- Get where something is held -/
theorem get16_yes (g room n b j m c bx : Nat) (x : Int) (A : Nat → Nat) (vf : Value) (w : World) (h : Bc w g room n A (.slice (some ⟨bx, 0, none⟩) m c) vf) (h0 : 0 < room) (hb : b < 256) (ha : A b = j + 1) (hj : j < m) (hm : m ≤ 256)
    (hx : w.cell? ⟨bx, j, none⟩ = some (.int .i64 x)) :
    Calls Try.prog 16 #[.pointer (some ⟨g, 0, none⟩), .int .u8 b] w fun e w' => e = .returned (.tuple #[.int .i64 x, .bool true]) ∧ ∃ z, w' = w.drewN z := by
  have H := Lib.hid (ok52 g room w h.vRoom.cell h0)
  have g1 := (h.at b hb).cell
  rw [ha] at g1
  have g1' : w.cell? ⟨g, 2 + b, none⟩ = some (.int .u16 ((j : Int) + 1)) := by rw [g1]; norm_cast
  have g2 := h.x.cell
  have b0 : (0 : Int) ≤ (b : Int) := by omega
  have b1 : (b : Int) < 256 := by omega
  have d1 : (((j : Int) + 1) == 0) = false := by simp; omega
  have q0 : IntKind.u16.wrap (j : Int) = (j : Int) := IntWalk.u16_in _ (by omega)
  have j0 : (0 : Int) ≤ (j : Int) := by omega
  have j1 : (j : Int) < (m : Int) := by omega
  have hnot : ∀ (x : Bool) (w : World), (Op.unary .not (.bool x)).run Try.prog w = .ok (.bool (!x)) w := fun _ _ => rfl
  clear h ha g1
  go_enter Try.func16, Try.ntmps16
  go_wp2_with fail
  refine H.out.mono ?_; rintro e w' ⟨rfl, rfl⟩
  go_wp2_with fail
  go_quiet (fail)
  all_goals
    go_wp2_with fail
    go_ret2
    exact ⟨rfl, _, rfl⟩

set_option maxHeartbeats 400000 in
theorem get16_nobd (v : Value) (b : Int) (w : World) (h : NoBd w v) : Calls Try.prog 16 #[v, .int .u8 b] w fun e w' => e = .returned (.tuple #[.int .i64 0, .bool false]) ∧ w' = w := by
  have H := Lib.hid (ok52_no v w h)
  have hnot : ∀ (x : Bool) (w : World), (Op.unary .not (.bool x)).run Try.prog w = .ok (.bool (!x)) w := fun _ _ => rfl
  clear h
  go_enter Try.func16, Try.ntmps16
  go_wp2_with fail
  refine H.out.mono ?_; rintro e w' ⟨rfl, rfl⟩
  go_wp2_with fail
  go_ret2
  exact ⟨rfl, rfl⟩

end Go.Proofs.Ythohpeinmkdfeaa
