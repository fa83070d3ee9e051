/-
  The calls at the end of each statement of the chapter keys (alive) return true.
-/
import Derived.Test.YtbldahimdkifiaaText2
namespace Go.Proofs.Ytbldahimdkifiaa
open Go.RowKit
set_option linter.unusedVariables false

theorem Bs.nil0 (w : World) : Bs w none 0 0 [] := ⟨rfl, Nat.le_refl _, by omega, by simp, Lib.BytesIn.nil _ _ _⟩

set_option maxRecDepth 100000 in
set_option maxHeartbeats 1600000 in
theorem alive14 (w : World) : Calls Try.prog 14 #[] w fun e w' => e = .returned (.bool true) ∧ Below w.heap.size w w' := by
  go_enter Try.func14, Try.ntmps14
  go_wp2_with fail
  refine (next23 _ 2 2 [1, 255] _ (Bs.lit1 w [1, 255] 2 rfl (by omega) (by decide))).mono ?_
  intro e w1 hN
  obtain ⟨v, rfl, hnew⟩ : ∃ v, e = .returned (.tuple #[v, .bool true]) ∧ NewB (w.alloc (.cells (([1, 255] : List Int).map (Value.int .u8)).toArray 5)) w1 v [2] := by
    rcases hN with ⟨h, _⟩ | ⟨_, h⟩
    · exact absurd h (by decide)
    · exact h
  obtain ⟨p1, c1, rfl, hb1, _, hbel1⟩ := hnew
  have hbelA : Below w.heap.size w w1 := Below.step ((Below.refl _ _).alloc (Nat.le_refl _) _) hbel1
  have HL1 := Lib.hid hbelA
  have HB1 := Lib.hid hb1
  clear hN hb1 hbel1 hbelA
  go_wp2_with fail
  refine (parse41 ⟨#[48, 97, 102, 102]⟩ [48, 97, 102, 102] _ rfl (by decide)).mono ?_
  rw [show errP [48, 97, 102, 102] = 0 by decide, show lstP [48, 97, 102, 102] = [10, 255] by decide]
  rintro e w2 ⟨v, rfl, p2, c2, rfl, hb2, _, hbel2⟩
  have HL2 := Lib.hid (Below.step HL1.out hbel2)
  have HB2 := Lib.hid (HB1.out.below hbel2)
  have HC2 := Lib.hid hb2
  clear hbel2 hb2
  obtain ⟨b, o, rfl, hc⟩ := HB2.out.cells.at (by decide)
  have g0 : w2.cell? ⟨b, o, none⟩ = some (.int .u8 2) := hc 0 (by decide)
  clear hc
  go_wp2_with fail
  have hl1 := Bs.lit1 w2 [1] 1 rfl (by omega) (by decide)
  have hl2 := Bs.lit1 (w2.alloc (.cells (([1] : List Int).map (Value.int .u8)).toArray 5)) [1, 0] 2 rfl (by omega) (by decide)
  have hl1' := hl1.below ((Below.refl _ _).alloc (Nat.le_refl _) (.cells (([1, 0] : List Int).map (Value.int .u8)).toArray 5))
  refine (cmp15 _ _ 1 1 2 2 [1] [1, 0] _ hl1' (by simpa using hl2)).mono ?_
  rw [show cmpL [1] [1, 0] = -1 by decide]
  rintro e w3 ⟨rfl, hw3⟩
  have hbel3 : Below w2.heap.size w2 w3 := by
    rw [hw3]
    exact ((Below.refl _ _).alloc (Nat.le_refl _) _).alloc (by rw [World.size_alloc]; omega) _
  have HL3 := Lib.hid (Below.step HL2.out hbel3)
  have HC3 := Lib.hid (HC2.out.below hbel3)
  obtain ⟨b', o', rfl, hc⟩ := HC3.out.cells.at (by decide)
  have k1 : w3.cell? ⟨b', o' + 1, none⟩ = some (.int .u8 255) := hc 1 (by decide)
  have hT : ((textS [10, 255]).toList == [48, 97, 102, 102]) = true := by rw [Lib.toList_data, textS_data]; decide
  have H43 := Lib.hid (text43 _ _ _ _ _ HC3.out (by decide))
  generalize textS [10, 255] = T at *
  clear hl1 hl2 hl1' hbel3 hc hw3 g0 HB1 HB2
  go_wp2_with fail
  refine H43.out.mono ?_
  rintro e w4 ⟨rfl, hbel4⟩
  have HL4 := Lib.hid (Below.step HL3.out hbel4)
  have HC4 := Lib.hid (HC3.out.below hbel4)
  clear hbel4
  go_wp2_with fail
  refine (common19 _ _ _ _ _ _ _ _ _ HC4.out HC4.out).mono ?_
  rw [show com [10, 255] [10, 255] = 2 by decide]
  rintro e w5 ⟨rfl, z, hw5⟩
  have hbel5 : Below w4.heap.size w4 w5 := by rw [hw5]; exact below_drewN (Below.refl _ _) _
  have HL5 := Lib.hid (Below.step HL4.out hbel5)
  have HC5 := Lib.hid (HC4.out.below hbel5)
  clear hbel5 hw5
  go_wp2_with fail
  refine (begins21 _ _ _ _ _ _ _ _ _ HC5.out (Bs.nil0 w5)).mono ?_
  rw [show decide (com [10, 255] [] = 0) = true by decide]
  rintro e w' ⟨rfl, rfl⟩
  go_wp2_with fail
  refine (within25 _ _ _ _ _ _ _ _ _ _ _ _ true _ HC5.out (Bs.nil0 _) (Bs.nil0 _)).mono ?_
  rw [show withinB [10, 255] [] [] true = true by decide]
  rintro e w' ⟨rfl, rfl⟩
  go_wp2_with fail
  refine (same17 _ _ _ _ _ _ _ _ _ HC5.out HC5.out).mono ?_
  rw [show (cmpL [10, 255] [10, 255] == 0) = true by decide]
  rintro e w' ⟨rfl, rfl⟩
  go_wp2_with fail
  refine (sorted27 none 0 0 [] _ ⟨rfl, Nat.le_refl _, by omega, fun h => by omega⟩).mono ?_
  rw [show riseB [] = true by decide]
  rintro e w6 ⟨rfl, z2, hw6⟩
  have HL6 : Hid (Below w.heap.size w w6) := by rw [hw6]; exact below_drewN HL5.out _
  clear hw6
  go_wp2_with fail
  go_ret
  exact ⟨rfl, HL6.out⟩
end Go.Proofs.Ytbldahimdkifiaa
