/-
  The calls at the end of each statement of the chapter uenc (alive) return true.
-/
import Derived.Test.YtbldahimdkifiaaUenc
namespace Go.Proofs.Ytbldahimdkifiaa
open Go.RowKit
set_option linter.unusedVariables false

/-- a literal's bytes, in the block that was made last -/
theorem Bs.lit (w : World) (l : List Int) (n : Nat) (hl : l.length = n) (hn : n ≤ 140737488351232) (hb : ∀ x ∈ l, 0 ≤ x ∧ x < 256) :
    Bs (w.alloc (.cells (l.map (Value.int .u8)).toArray 5)) (some ⟨w.heap.size, 0, none⟩) n n l :=
  ⟨hl, Nat.le_refl _, hn, hb, fun _ => ⟨_, 0, rfl, fun i hi => by
    rw [cell_of_row _ _ (0 + i) _ 5 (0, 0) (heap_alloc_new w _)]
    subst hl
    simp [List.getD_eq_getElem?_getD, hi]⟩⟩

set_option maxRecDepth 100000 in
set_option maxHeartbeats 400000 in
theorem alive33 (w : World) : Calls Try.prog 33 #[] w fun e w' => e = .returned (.bool true) ∧ Below w.heap.size w w' := by
  go_enter Try.func33, Try.ntmps33
  go_wp2_with fail
  refine (put29 2 258 _ (by omega) (by omega)).mono ?_
  rw [show putE 2 258 = 0 by rfl, show putL 2 258 = [1, 2] by rfl]
  rintro e w1 ⟨v, rfl, p1, c1, rfl, hb1, _, hbel1⟩
  have HB1 := Lib.hid hb1
  have HL1 := Lib.hid hbel1
  clear hb1 hbel1
  go_wp2_with fail
  refine (take34 2 _ 3 3 [1, 2, 3] _ (Bs.lit w1 [1, 2, 3] 3 rfl (by omega) (by decide))).mono ?_
  rw [show takeE 2 ([1, 2, 3] : List Int).length = 0 by rfl, show takeN 2 [1, 2, 3] = 258 by rfl, show takeL 2 [1, 2, 3] = [3] by rfl]
  rintro e w2 ⟨v, rfl, p2, c2, rfl, hb2, _, hbel2⟩
  have hbel12 : Below w1.heap.size w1 w2 := Below.step ((Below.refl _ _).alloc (Nat.le_refl _) _) hbel2
  have HL2 := Lib.hid hbel12
  clear hb2 hbel2 hbel12
  go_wp2_with fail
  refine (most31 1 _).mono ?_
  rw [show mostV 1 = 255 by rfl, show errV 1 = 0 by rfl]
  rintro e w' ⟨rfl, rfl⟩
  go_wp2_with fail
  refine (get36 2 p1 2 c1 [1, 2] _ (HB1.out.below HL2.out)).mono ?_
  rw [show getE 2 [1, 2] = 0 by rfl, show getN 2 [1, 2] = 258 by rfl]
  rintro e w3 ⟨rfl, hbel3⟩
  have hb3 := (HB1.out.below HL2.out).below hbel3
  have hbel : Below w.heap.size w w3 := Below.step (Below.step HL1.out HL2.out) hbel3
  obtain ⟨b, o, rfl, hc⟩ := hb3.cells.at (by decide)
  have g0 : w3.cell? ⟨b, o, none⟩ = some (.int .u8 1) := hc 0 (by decide)
  have g1 : w3.cell? ⟨b, o + 1, none⟩ = some (.int .u8 2) := hc 1 (by decide)
  have HL := Lib.hid hbel
  clear hb3 hbel3 hbel hc HB1 HL1 HL2
  go_wp2_with fail
  refine (cmp38 1 2 _).mono ?_
  rw [show ordI 1 2 = -1 by rfl]
  rintro e w' ⟨rfl, rfl⟩
  go_wp2_with fail
  go_ret
  exact ⟨rfl, HL.out⟩
end Go.Proofs.Ytbldahimdkifiaa
