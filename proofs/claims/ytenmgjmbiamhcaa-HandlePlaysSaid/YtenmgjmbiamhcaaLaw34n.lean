/-
  The table: alive; the walk of HandleNobody.
-/
import Derived.Test.YtenmgjmbiamhcaaTab6
namespace Go.Proofs.Ytenmgjmbiamhcaa
open Go.RowKit
set_option linter.unusedVariables false

theorem exc_below' {w w1 w2 : World} {S : List Nat} (h : Below w.heap.size w w1) (k : Exc S w1 w2) (hS : ∀ x ∈ S, w.heap.size ≤ x) : Below w.heap.size w w2 := k.below h hS h.size

set_option maxRecDepth 100000 in
set_option maxHeartbeats 1600000 in
theorem alive8 (w : World) : Calls Try.prog 8 #[] w fun e w' => e = .returned (.bool true) ∧ Below w.heap.size w w' := by
  have hw1 : wf64 1 := ⟨by omega, by omega⟩
  have HW1 := Lib.hid hw1
  clear hw1
  go_enter Try.func8, Try.ntmps8
  go_wp2_with fail
  refine (new6_yes 1 w ⟨by decide, by decide⟩).mono ?_
  rintro e w1 ⟨rfl, hT, hB⟩
  have HT := Lib.hid hT
  have HB := Lib.hid hB
  obtain ⟨g, hg⟩ : ∃ g, g = w.heap.size + 1 := ⟨_, rfl⟩
  obtain ⟨bm, hbm⟩ : ∃ bm, bm = w.heap.size := ⟨_, rfl⟩
  have HG : Hid (w.heap.size ≤ g) := by show _ ≤ _; omega
  have HBM : Hid (w.heap.size ≤ bm) := by show _ ≤ _; omega
  have HT0 : Hid (Tb w1 g bm 1 0 (.map []) (fun _ => none) 0) := by show Tb _ _ _ _ _ _ _ _; rw [hg, hbm]; exact hT
  rw [← hg]
  clear hT hB hg hbm HT
  go_wp2_with fail
  refine (add13_yes HT0.out 5 (by decide) (by decide)).mono ?_
  rintro e w2 ⟨rfl, ⟨D2, hT⟩, hX⟩
  have HB2 := Lib.hid (exc_below' HB.out hX (fun x hx => by simp at hx; have := HG.out; have := HBM.out; omega))
  have HT2 : Hid (Tb w2 g bm 1 1 D2 (updI (fun _ => none) 1 (some 5)) 1) := hT
  clear hT hX
  simp only [show ((0 : Nat) : Int) + 1 = 1 from rfl]
  go_wp2_with fail
  refine (add13_full HT2.out 6).mono ?_
  rintro e w3 ⟨rfl, z, hw3⟩
  have HT3 : Hid (Tb w3 g bm 1 1 D2 (updI (fun _ => none) 1 (some 5)) 1) := by show Tb _ _ _ _ _ _ _ _; rw [hw3]; exact HT2.out.drewN z
  have HB3 : Hid (Below w.heap.size w w3) := by show Below _ _ _; rw [hw3]; exact below_drewN HB2.out z
  clear hw3
  go_wp2_with fail
  refine (get16_some HT3.out 1 5 HW1.out rfl).mono ?_
  rintro e w4 ⟨rfl, hB4⟩
  have HT4 := Lib.hid (HT3.out.step hB4)
  have HB4 := Lib.hid (Below.step HB3.out hB4)
  clear hB4
  go_wp2_with fail
  refine (set9_some HT4.out 1 7 HW1.out rfl).mono ?_
  rintro e w5 ⟨rfl, ⟨D5, hT⟩, hX⟩
  have HT5 := Lib.hid hT
  have HB5 := Lib.hid (exc_below' HB4.out hX (fun x hx => by simp at hx; have := HBM.out; omega))
  clear hT hX
  go_wp2_with fail
  refine (drop11_some HT5.out 1 HW1.out rfl).mono ?_
  rintro e w6 ⟨rfl, ⟨D6, hT⟩, hX⟩
  have HT6 : Hid (Tb w6 g bm 1 1 D6 (updI (updI (updI (fun _ => none) 1 (some 5)) 1 (some 7)) 1 none) 0) := hT
  have HB6 := Lib.hid (exc_below' HB5.out hX (fun x hx => by simp at hx; have := HBM.out; omega))
  clear hT hX
  go_wp2_with fail
  refine (last17 HT6.out).mono ?_
  rintro e w' ⟨rfl, hw'⟩
  rw [hw']; clear hw' w'
  go_wp2_with fail
  refine (len18 HT6.out).mono ?_
  rintro e w' ⟨rfl, hw'⟩
  rw [hw']; clear hw' w'
  go_wp2_with fail
  refine (free19 HT6.out).mono ?_
  rintro e w7 ⟨rfl, z, hw7⟩
  have HT7 : Hid (Tb w7 g bm 1 1 D6 (updI (updI (updI (fun _ => none) 1 (some 5)) 1 (some 7)) 1 none) 0) := by show Tb _ _ _ _ _ _ _ _; rw [hw7]; exact HT6.out.drewN z
  have HB7 : Hid (Below w.heap.size w w7) := by show Below _ _ _; rw [hw7]; exact below_drewN HB6.out z
  clear hw7
  go_wp2_with fail
  refine (handles20 HT7.out).mono ?_
  rintro e w8 ⟨p, c, ks, rfl, _, _, _, _, _, hB8⟩
  have HB8 := Lib.hid (Below.step HB7.out hB8)
  clear hB8
  go_wp2_with fail
  go_ret
  exact ⟨rfl, HB8.out⟩

set_option maxRecDepth 100000 in
set_option maxHeartbeats 1600000 in
theorem walkHandleNobody (k x : Int) (w : World) (w0 : (Lit.int .i64 k).wf = true) (w1 : (Lit.int .i64 x).wf = true) :
    Calls Try.prog 5 #[.int .i64 k, .int .i64 x] w fun e w' => e = .returned (.bool true) ∧ Below w.heap.size w w' := by
  clear w0 w1
  obtain ⟨W, hW⟩ : ∃ W, W = (w.alloc (.cells #[.int .i64 0, .int .i64 0, .map none] 51)).alloc (.cells #[.pointer none, .pointer (some ⟨w.heap.size, 0, none⟩)] 23) := ⟨_, rfl⟩
  have v0 : Var W w.heap.size 0 (.int .i64 0) := by rw [hW]; exact (Var.new rfl rfl).alloc _
  have s1 : (w.alloc (.cells #[.int .i64 0, .int .i64 0, .map none] 51)).heap.size = w.heap.size + 1 := World.size_alloc _ _
  have c0 : W.cell? ⟨w.heap.size + 1, 0, none⟩ = some (.pointer none) := by rw [hW]; exact (Var.new s1.symm rfl).cell
  have c1 : W.cell? ⟨w.heap.size + 1, 1, none⟩ = some (.pointer (some ⟨w.heap.size, 0, none⟩)) := by rw [hW]; exact (Var.new s1.symm rfl).cell
  have hB : Below w.heap.size w W := by rw [hW]; exact ((Below.refl _ _).alloc (Nat.le_refl _) _).alloc (by omega) _
  have HN : Hid (∀ k, k < 2 → ∃ v, W.cell? ⟨w.heap.size + 1, k, none⟩ = some v ∧ NoTb W v) := by
    intro k hk
    match k, hk with
    | 0, _ => exact ⟨_, c0, Or.inl rfl⟩
    | 1, _ => exact ⟨_, c1, Or.inr ⟨_, rfl, v0.cell⟩⟩
  have HB := Lib.hid hB
  have HW := Lib.hid hW
  clear hW v0 c0 c1 hB s1
  go_enter Try.func5, Try.ntmps5
  go_wp2_with fail
  rw [← HW.out]
  go_loop [15] (fun i => ∃ k : Nat, i = .int .i64 k ∧ k ≤ 2) (fun i => 2 - (intOf i).toNat)
  case atStart => exact ⟨0, rfl, by omega⟩
  case round =>
    obtain ⟨j, rfl, hj⟩ := hrel
    by_cases hlt : j < 2
    · obtain ⟨v, g, hn⟩ := HN.out j hlt
      have d0 : decide ((j : Int) < 2) = true := by simp; omega
      have NB := Lib.hid hn
      clear hn
      go_wp2_with fail
      refine (add13_no v x _ NB.out).mono ?_
      rintro e w' ⟨rfl, hw'⟩
      rw [hw']; clear hw' w'
      go_wp2_with fail
      refine (get16_no v k _ NB.out).mono ?_
      rintro e w' ⟨rfl, hw'⟩
      rw [hw']; clear hw' w'
      go_wp2_with fail
      refine (set9_no v k x _ NB.out).mono ?_
      rintro e w' ⟨rfl, hw'⟩
      rw [hw']; clear hw' w'
      go_wp2_with fail
      refine (drop11_no v k _ NB.out).mono ?_
      rintro e w' ⟨rfl, hw'⟩
      rw [hw']; clear hw' w'
      go_wp2_with fail
      refine (len18_no v _ NB.out).mono ?_
      rintro e w' ⟨rfl, hw'⟩
      rw [hw']; clear hw' w'
      go_wp2_with fail
      refine (free19_no v _ NB.out).mono ?_
      rintro e w' ⟨rfl, hw'⟩
      rw [hw']; clear hw' w'
      go_wp2_with fail
      refine (last17_no v _ NB.out).mono ?_
      rintro e w' ⟨rfl, hw'⟩
      rw [hw']; clear hw' w'
      go_wp2_with fail
      refine (handles20_no v _ NB.out).mono ?_
      rintro e w' ⟨rfl, hw'⟩
      rw [hw']; clear hw' w'
      go_wp2_with fail
      go_round
      case rel => exact ⟨j + 1, by go_num, by omega⟩
      case measure => simp [intOf]; omega
    · obtain rfl : j = 2 := by omega
      go_wp2_with fail
      refine (alive8 _).mono ?_; rintro e w' ⟨rfl, hbel⟩
      have HL := Lib.hid (Below.step HB.out hbel)
      clear hbel
      go_wp2_with fail
      go_ret
      exact ⟨rfl, HL.out⟩

end Go.Proofs.Ytenmgjmbiamhcaa
