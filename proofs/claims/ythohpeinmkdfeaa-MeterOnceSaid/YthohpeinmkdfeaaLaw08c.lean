/-
  The walk of the statement MeterCounts.
-/
import Derived.Test.YthohpeinmkdfeaaLaw08
import Derived.ProofKit
import Derived.OpenShut
import Derived.ChangeSlices
namespace Go.Proofs.Ythohpeinmkdfeaa
open Go.RowKit
set_option linter.unusedVariables false

/-- a slice of numbers that came in -/
structure RawI (w : World) (p : Option Addr) (n c : Nat) (zs : List Int) : Prop where
  cap : n ≤ c
  big : c ≤ 9223372036854775807
  len : zs.length = n
  small : ∀ z ∈ zs, -2147483648 ≤ z ∧ z ≤ 2147483647
  cells : 0 < n → ∃ b o, p = some ⟨b, o, none⟩ ∧ ∀ i, i < n → w.cell? ⟨b, o + i, none⟩ = some (.int .i32 (zs.getD i 0))

theorem RawI.get {w : World} {p : Option Addr} {n c : Nat} {zs : List Int} (h : RawI w p n c zs) (i : Nat) : -2147483648 ≤ zs.getD i 0 ∧ zs.getD i 0 ≤ 2147483647 := by
  rw [List.getD_eq_getElem?_getD]
  cases e : zs[i]? with
  | none => simp
  | some z => exact h.small z (List.mem_of_getElem? e)

set_option maxRecDepth 100000 in
set_option maxHeartbeats 1600000 in
theorem counts_few (p : Option Addr) (n c : Nat) (was : Int) (w : World) (zs : List Int) (w0 : RawI w p n c zs) (hwas : -2147483648 ≤ was ∧ was ≤ 2147483647) (h50 : (n : Int) ≤ 50) :
    Calls Try.prog 8 #[.slice p n c, .int .i32 was] w fun e w' => e = .returned (.bool true) ∧ Below w.heap.size w w' := by
  have hcap := w0.cap
  have hbig := w0.big
  have HR := Lib.hid w0
  clear w0
  have hVm : Var ((w.alloc (.cells #[.int .i64 0] 91)).alloc (.cells #[.int .i64 0] 94)) w.heap.size 0 (.int .i64 0) := (Var.new rfl rfl).alloc _
  have hVr : Var ((w.alloc (.cells #[.int .i64 0] 91)).alloc (.cells #[.int .i64 0] 94)) (w.heap.size + 1) 0 (.int .i64 0) := Var.new (by rw [World.size_alloc]) rfl
  have hB0 : Below w.heap.size w ((w.alloc (.cells #[.int .i64 0] 91)).alloc (.cells #[.int .i64 0] 94)) := ((Below.refl _ _).alloc (Nat.le_refl _) _).alloc (by rw [World.size_alloc]; omega) _
  have HVm := Lib.hid hVm
  have HVr := Lib.hid hVr
  have HB0 := Lib.hid hB0
  clear hVm hVr hB0
  have qw : IntKind.i64.wrap was = was := IntWalk.i64_in _ (by omega)
  have HW := Lib.hid hwas
  clear hwas
  go_enter Try.func8, Try.ntmps8
  go_wp2_with fail
  go_loopw [16] (fun t wr => ∃ (k : Nat) (N : Int), t = .int .i64 k ∧ k ≤ n ∧ 0 ≤ N ∧ N ≤ k * 2147483647 ∧ Hid (Var wr w.heap.size 0 (.int .i64 N)) ∧ Hid (Var wr (w.heap.size + 1) 0 (.int .i64 N)) ∧ Hid (Below w.heap.size w wr)) (fun t _ => n - (intOf t).toNat)
  case atStart => exact ⟨0, 0, rfl, by omega, by omega, by omega, HVm, HVr, HB0⟩
  case round =>
    obtain ⟨k, N, rfl, hk, hN0, hN1, hvm, hvr, hb⟩ := hrel
    by_cases hlt : k < n
    · obtain ⟨b, o, rfl, hc⟩ := HR.out.cells (by omega)
      have g := hc k (by omega)
      have hz := HR.out.get k
      obtain ⟨z, hzz⟩ : ∃ z, zs.getD k 0 = z := ⟨_, rfl⟩
      rw [hzz] at g hz
      have hblt : b < w.heap.size := block_lt_of_cell g
      rw [← hb.out.cell (p := ⟨b, o + k, none⟩) hblt] at g
      have qz : IntKind.i64.wrap z = z := IntWalk.i64_in _ (by omega)
      have HZ := Lib.hid hz
      have HN : Hid (0 ≤ N ∧ N ≤ k * 2147483647) := ⟨hN0, hN1⟩
      have HK : Hid (k ≤ 49) := by show k ≤ 49; omega
      have d0 : decide ((k : Int) < (n : Int)) = true := by simp; omega
      obtain ⟨M, hM⟩ : ∃ M : Int, M = (if 0 < z then N + z else N) := ⟨_, rfl⟩
      have hMb : 0 ≤ M ∧ M ≤ (k + 1) * 2147483647 := by
        rw [hM]; split <;> omega
      have HM := Lib.hid hM
      have HMb := Lib.hid hMb
      have hmade : Hid (∀ W, Var W w.heap.size 0 (.int .i64 N) → Calls Try.prog 35 #[.pointer (some ⟨w.heap.size, 0, none⟩), .int .i64 z] W fun e w' => e = .returned (.tuple #[]) ∧ (w' = W ∨ w' = W.setCell ⟨w.heap.size, 0, none⟩ (.int .i64 M)) ∧ Var w' w.heap.size 0 (.int .i64 M)) := by
        intro W hW
        by_cases h0 : 0 < z
        · rw [if_pos h0] at hM
          refine (made35_yes _ N z M W h0 hW.cell hW.free (by rw [hM]; exact IntWalk.i64_in _ (by omega))).mono ?_
          rintro e w' ⟨he, hw⟩
          exact ⟨he, Or.inr hw, by rw [hw]; exact hW.set⟩
        · rw [if_neg h0] at hM
          refine (made35_no _ z W h0).mono ?_
          rintro e w' ⟨he, hw⟩
          exact ⟨he, Or.inl hw, by rw [hw, hM]; exact hW⟩
      have hrm : Hid (∀ W, Calls Try.prog 36 #[.agg #[.int .i64 N], .int .i64 z] W fun e w' => e = .returned (.agg #[.int .i64 M]) ∧ Below W.heap.size W w') := by
        intro W
        rw [hM]
        exact rmade36 N z W (fun h0 => IntWalk.i64_in _ (by omega))
      have hs1 : Hid (∀ W, Var W w.heap.size 0 (.int .i64 M) → Calls Try.prog 38 #[.pointer (some ⟨w.heap.size, 0, none⟩), .int .i64 was] W fun e w' => e = .returned (.int .i64 (sinceV M was)) ∧ w' = W) := by
        intro W hW
        have := HW.out
        exact since38 _ M was W hW.cell (by omega) (by omega)
      have hs2 : Hid (∀ W, Calls Try.prog 39 #[.agg #[.int .i64 M], .int .i64 was] W fun e w' => e = .returned (.int .i64 (sinceV M was)) ∧ Below W.heap.size W w') := by
        intro W
        have := HW.out
        exact rsince39 M was W (by omega) (by omega)
      clear hc hz hzz hM hMb hN0 hN1
      go_wp2_with fail
      refine (hmade.out _ hvm.out).mono ?_
      rintro e w1 ⟨rfl, hw1, hm1⟩
      have HVM := Lib.hid hm1
      have HVR : Hid (Var w1 (w.heap.size + 1) 0 (.int .i64 N)) := by
        show Var _ _ _ _
        rcases hw1 with h | h
        · rw [h]; exact hvr.out
        · rw [h]; exact hvr.out.other (by simp)
      have HB : Hid (Below w.heap.size w w1) := by
        show Below _ _ _
        rcases hw1 with h | h
        · rw [h]; exact hb.out
        · rw [h]; exact hb.out.setCell (Nat.le_refl _) _
      clear hw1 hm1
      go_wp2_with fail
      refine (made35_nil _ _).mono ?_
      rintro e w' ⟨rfl, hw'⟩
      rw [hw']; clear hw' w'
      have gr := HVR.out.cell
      go_wp2_with fail
      refine (hrm.out _).mono ?_
      rintro e w2 ⟨rfl, hbel⟩
      have vr2 : Var w2 (w.heap.size + 1) 0 (.int .i64 N) := HVR.out.step hbel
      have HVM2 := Lib.hid (HVM.out.step hbel)
      have HB2 := Lib.hid (Below.step HB.out hbel)
      have gc := vr2.cell
      have gf := vr2.free
      have HVR2 := Lib.hid vr2
      clear hbel vr2 gr
      go_wp2_with fail
      obtain ⟨w3, hw3⟩ : ∃ w3, w3 = w2.setCell ⟨w.heap.size + 1, 0, none⟩ (.int .i64 M) := ⟨_, rfl⟩
      rw [← hw3]
      have vm3 : Var w3 w.heap.size 0 (.int .i64 M) := by rw [hw3]; exact HVM2.out.other (by simp)
      have vr3 : Var w3 (w.heap.size + 1) 0 (.int .i64 M) := by rw [hw3]; exact HVR2.out.set
      have hb3 : Below w.heap.size w w3 := by rw [hw3]; exact HB2.out.setCell (Nat.le_succ _) _
      have HVM3 := Lib.hid vm3
      have HVR3 := Lib.hid vr3
      have HB3 := Lib.hid hb3
      have g1 := vr3.cell
      have HLT := Lib.hid vr3.lt
      clear hw3 vm3 vr3 hb3 gc gf HVM2 HVR2 HB2 HVM HVR HB
      have q1 : (M != M) = false := by simp
      generalize hsv : sinceV M was = S at *
      have q2 : (S != S) = false := by simp
      have H37 : Hid (∀ z, Calls Try.prog 37 #[.pointer (some ⟨w.heap.size, 0, none⟩)] (w3.drewN z) fun e w' => e = .returned (.int .i64 M) ∧ w' = w3.drewN z) := fun z => count37 _ M _ (HVM3.out.drewN z).cell
      have H38 : Hid (∀ z, Calls Try.prog 38 #[.pointer (some ⟨w.heap.size, 0, none⟩), .int .i64 was] (w3.drewN z) fun e w' => e = .returned (.int .i64 S) ∧ w' = w3.drewN z) := fun z => hs1.out _ (HVM3.out.drewN z)
      clear hs1
      go_region_held3 (fun w' => w'.cell? ⟨w.heap.size + 1, 0, none⟩ = some (.int .i64 M)) (first | go_keep | (rw [hbel.cell HLT.out]; exact g1)) (first
        | (go_at_call 37; refine (H37.out _).mono ?_; rintro e w' ⟨rfl, rfl⟩)
        | (go_at_call 38; refine (H38.out _).mono ?_; rintro e w' ⟨rfl, rfl⟩)
        | (go_at_call 39; refine (hs2.out _).mono ?_; rintro e w' ⟨rfl, hbel⟩))
      have hb4 := Below.step HB3.out (Below.step (below_drewN (Below.refl _ w3) 1) hbel)
      have vm4 := (HVM3.out.drewN 1).step hbel
      have vr4 := (HVR3.out.drewN 1).step hbel
      have HB4 := Lib.hid hb4
      have HVM4 := Lib.hid vm4
      have HVR4 := Lib.hid vr4
      clear hb4 vm4 vr4 hbel
      go_wp2_with fail
      go_roundw
      case rel => exact ⟨k + 1, M, by go_num, by omega, HMb.out.1, by have := HMb.out.2; omega, HVM4, HVR4, HB4⟩
      case measure => simp [intOf]; omega
    · obtain rfl : k = n := by omega
      have d0 : decide ((k : Int) < (k : Int)) = false := by simp
      go_wp2_with fail
      refine (count37_nil _).mono ?_
      rintro e w' ⟨rfl, hw'⟩
      rw [hw']; clear hw' w'
      go_wp2_with fail
      refine (since38_nil _ _).mono ?_
      rintro e w' ⟨rfl, hw'⟩
      rw [hw']; clear hw' w'
      go_wp2_with fail
      refine (alive21 _).mono ?_; rintro e w' ⟨rfl, hbel⟩
      have HL := Lib.hid (Below.step hb.out hbel)
      clear hbel
      go_wp2_with fail
      go_ret
      exact ⟨rfl, HL.out⟩

set_option maxRecDepth 100000 in
set_option maxHeartbeats 1600000 in
theorem counts_many (p : Option Addr) (n c : Nat) (was : Int) (w : World) (zs : List Int) (w0 : RawI w p n c zs) (hwas : -2147483648 ≤ was ∧ was ≤ 2147483647) (h50 : 50 < (n : Int)) :
    Calls Try.prog 8 #[.slice p n c, .int .i32 was] w fun e w' => e = .returned (.bool true) ∧ Below w.heap.size w w' := by
  have hcap := w0.cap
  have hbig := w0.big
  have HR := Lib.hid w0
  clear w0
  have hVm : Var ((w.alloc (.cells #[.int .i64 0] 91)).alloc (.cells #[.int .i64 0] 94)) w.heap.size 0 (.int .i64 0) := (Var.new rfl rfl).alloc _
  have hVr : Var ((w.alloc (.cells #[.int .i64 0] 91)).alloc (.cells #[.int .i64 0] 94)) (w.heap.size + 1) 0 (.int .i64 0) := Var.new (by rw [World.size_alloc]) rfl
  have hB0 : Below w.heap.size w ((w.alloc (.cells #[.int .i64 0] 91)).alloc (.cells #[.int .i64 0] 94)) := ((Below.refl _ _).alloc (Nat.le_refl _) _).alloc (by rw [World.size_alloc]; omega) _
  have HVm := Lib.hid hVm
  have HVr := Lib.hid hVr
  have HB0 := Lib.hid hB0
  clear hVm hVr hB0
  have qw : IntKind.i64.wrap was = was := IntWalk.i64_in _ (by omega)
  have HW := Lib.hid hwas
  clear hwas
  go_enter Try.func8, Try.ntmps8
  go_wp2_with fail
  go_loopw [16] (fun t wr => ∃ (k : Nat) (N : Int), t = .int .i64 k ∧ k ≤ 50 ∧ 0 ≤ N ∧ N ≤ k * 2147483647 ∧ Hid (Var wr w.heap.size 0 (.int .i64 N)) ∧ Hid (Var wr (w.heap.size + 1) 0 (.int .i64 N)) ∧ Hid (Below w.heap.size w wr)) (fun t _ => 50 - (intOf t).toNat)
  case atStart => exact ⟨0, 0, rfl, by omega, by omega, by omega, HVm, HVr, HB0⟩
  case round =>
    obtain ⟨k, N, rfl, hk, hN0, hN1, hvm, hvr, hb⟩ := hrel
    by_cases hlt : k < 50
    · obtain ⟨b, o, rfl, hc⟩ := HR.out.cells (by omega)
      have g := hc k (by omega)
      have hz := HR.out.get k
      obtain ⟨z, hzz⟩ : ∃ z, zs.getD k 0 = z := ⟨_, rfl⟩
      rw [hzz] at g hz
      have hblt : b < w.heap.size := block_lt_of_cell g
      rw [← hb.out.cell (p := ⟨b, o + k, none⟩) hblt] at g
      have qz : IntKind.i64.wrap z = z := IntWalk.i64_in _ (by omega)
      have HZ := Lib.hid hz
      have HN : Hid (0 ≤ N ∧ N ≤ k * 2147483647) := ⟨hN0, hN1⟩
      have HK : Hid (k ≤ 49) := by show k ≤ 49; omega
      have d0 : decide ((k : Int) < 50) = true := by simp; omega
      obtain ⟨M, hM⟩ : ∃ M : Int, M = (if 0 < z then N + z else N) := ⟨_, rfl⟩
      have hMb : 0 ≤ M ∧ M ≤ (k + 1) * 2147483647 := by
        rw [hM]; split <;> omega
      have HM := Lib.hid hM
      have HMb := Lib.hid hMb
      have hmade : Hid (∀ W, Var W w.heap.size 0 (.int .i64 N) → Calls Try.prog 35 #[.pointer (some ⟨w.heap.size, 0, none⟩), .int .i64 z] W fun e w' => e = .returned (.tuple #[]) ∧ (w' = W ∨ w' = W.setCell ⟨w.heap.size, 0, none⟩ (.int .i64 M)) ∧ Var w' w.heap.size 0 (.int .i64 M)) := by
        intro W hW
        by_cases h0 : 0 < z
        · rw [if_pos h0] at hM
          refine (made35_yes _ N z M W h0 hW.cell hW.free (by rw [hM]; exact IntWalk.i64_in _ (by omega))).mono ?_
          rintro e w' ⟨he, hw⟩
          exact ⟨he, Or.inr hw, by rw [hw]; exact hW.set⟩
        · rw [if_neg h0] at hM
          refine (made35_no _ z W h0).mono ?_
          rintro e w' ⟨he, hw⟩
          exact ⟨he, Or.inl hw, by rw [hw, hM]; exact hW⟩
      have hrm : Hid (∀ W, Calls Try.prog 36 #[.agg #[.int .i64 N], .int .i64 z] W fun e w' => e = .returned (.agg #[.int .i64 M]) ∧ Below W.heap.size W w') := by
        intro W
        rw [hM]
        exact rmade36 N z W (fun h0 => IntWalk.i64_in _ (by omega))
      have hs1 : Hid (∀ W, Var W w.heap.size 0 (.int .i64 M) → Calls Try.prog 38 #[.pointer (some ⟨w.heap.size, 0, none⟩), .int .i64 was] W fun e w' => e = .returned (.int .i64 (sinceV M was)) ∧ w' = W) := by
        intro W hW
        have := HW.out
        exact since38 _ M was W hW.cell (by omega) (by omega)
      have hs2 : Hid (∀ W, Calls Try.prog 39 #[.agg #[.int .i64 M], .int .i64 was] W fun e w' => e = .returned (.int .i64 (sinceV M was)) ∧ Below W.heap.size W w') := by
        intro W
        have := HW.out
        exact rsince39 M was W (by omega) (by omega)
      clear hc hz hzz hM hMb hN0 hN1
      go_wp2_with fail
      refine (hmade.out _ hvm.out).mono ?_
      rintro e w1 ⟨rfl, hw1, hm1⟩
      have HVM := Lib.hid hm1
      have HVR : Hid (Var w1 (w.heap.size + 1) 0 (.int .i64 N)) := by
        show Var _ _ _ _
        rcases hw1 with h | h
        · rw [h]; exact hvr.out
        · rw [h]; exact hvr.out.other (by simp)
      have HB : Hid (Below w.heap.size w w1) := by
        show Below _ _ _
        rcases hw1 with h | h
        · rw [h]; exact hb.out
        · rw [h]; exact hb.out.setCell (Nat.le_refl _) _
      clear hw1 hm1
      go_wp2_with fail
      refine (made35_nil _ _).mono ?_
      rintro e w' ⟨rfl, hw'⟩
      rw [hw']; clear hw' w'
      have gr := HVR.out.cell
      go_wp2_with fail
      refine (hrm.out _).mono ?_
      rintro e w2 ⟨rfl, hbel⟩
      have vr2 : Var w2 (w.heap.size + 1) 0 (.int .i64 N) := HVR.out.step hbel
      have HVM2 := Lib.hid (HVM.out.step hbel)
      have HB2 := Lib.hid (Below.step HB.out hbel)
      have gc := vr2.cell
      have gf := vr2.free
      have HVR2 := Lib.hid vr2
      clear hbel vr2 gr
      go_wp2_with fail
      obtain ⟨w3, hw3⟩ : ∃ w3, w3 = w2.setCell ⟨w.heap.size + 1, 0, none⟩ (.int .i64 M) := ⟨_, rfl⟩
      rw [← hw3]
      have vm3 : Var w3 w.heap.size 0 (.int .i64 M) := by rw [hw3]; exact HVM2.out.other (by simp)
      have vr3 : Var w3 (w.heap.size + 1) 0 (.int .i64 M) := by rw [hw3]; exact HVR2.out.set
      have hb3 : Below w.heap.size w w3 := by rw [hw3]; exact HB2.out.setCell (Nat.le_succ _) _
      have HVM3 := Lib.hid vm3
      have HVR3 := Lib.hid vr3
      have HB3 := Lib.hid hb3
      have g1 := vr3.cell
      have HLT := Lib.hid vr3.lt
      clear hw3 vm3 vr3 hb3 gc gf HVM2 HVR2 HB2 HVM HVR HB
      have q1 : (M != M) = false := by simp
      generalize hsv : sinceV M was = S at *
      have q2 : (S != S) = false := by simp
      have H37 : Hid (∀ z, Calls Try.prog 37 #[.pointer (some ⟨w.heap.size, 0, none⟩)] (w3.drewN z) fun e w' => e = .returned (.int .i64 M) ∧ w' = w3.drewN z) := fun z => count37 _ M _ (HVM3.out.drewN z).cell
      have H38 : Hid (∀ z, Calls Try.prog 38 #[.pointer (some ⟨w.heap.size, 0, none⟩), .int .i64 was] (w3.drewN z) fun e w' => e = .returned (.int .i64 S) ∧ w' = w3.drewN z) := fun z => hs1.out _ (HVM3.out.drewN z)
      clear hs1
      go_region_held3 (fun w' => w'.cell? ⟨w.heap.size + 1, 0, none⟩ = some (.int .i64 M)) (first | go_keep | (rw [hbel.cell HLT.out]; exact g1)) (first
        | (go_at_call 37; refine (H37.out _).mono ?_; rintro e w' ⟨rfl, rfl⟩)
        | (go_at_call 38; refine (H38.out _).mono ?_; rintro e w' ⟨rfl, rfl⟩)
        | (go_at_call 39; refine (hs2.out _).mono ?_; rintro e w' ⟨rfl, hbel⟩))
      have hb4 := Below.step HB3.out (Below.step (below_drewN (Below.refl _ w3) 1) hbel)
      have vm4 := (HVM3.out.drewN 1).step hbel
      have vr4 := (HVR3.out.drewN 1).step hbel
      have HB4 := Lib.hid hb4
      have HVM4 := Lib.hid vm4
      have HVR4 := Lib.hid vr4
      clear hb4 vm4 vr4 hbel
      go_wp2_with fail
      go_roundw
      case rel => exact ⟨k + 1, M, by go_num, by omega, HMb.out.1, by have := HMb.out.2; omega, HVM4, HVR4, HB4⟩
      case measure => simp [intOf]; omega
    · obtain rfl : k = 50 := by omega
      have d0 : decide ((50 : Int) < (50 : Int)) = false := by simp
      go_wp2_with fail
      refine (count37_nil _).mono ?_
      rintro e w' ⟨rfl, hw'⟩
      rw [hw']; clear hw' w'
      go_wp2_with fail
      refine (since38_nil _ _).mono ?_
      rintro e w' ⟨rfl, hw'⟩
      rw [hw']; clear hw' w'
      go_wp2_with fail
      refine (alive21 _).mono ?_; rintro e w' ⟨rfl, hbel⟩
      have HL := Lib.hid (Below.step hb.out hbel)
      clear hbel
      go_wp2_with fail
      go_ret
      exact ⟨rfl, HL.out⟩

theorem walkMeterCounts (p : Option Addr) (n c : Nat) (was : Int) (w : World) (w0 : ∃ zs, RawI w p n c zs) (w1 : (Lit.int .i32 was).wf = true) :
    Calls Try.prog 8 #[.slice p n c, .int .i32 was] w fun e w' => e = .returned (.bool true) ∧ Below w.heap.size w w' := by
  have hwas : -2147483648 ≤ was ∧ was ≤ 2147483647 := by
    have := w1
    simp [Lit.wf, IntKind.min, IntKind.max, IntKind.signed, IntKind.bits] at this
    omega
  obtain ⟨zs, hz⟩ := w0
  by_cases h : (n : Int) ≤ 50
  · exact counts_few p n c was w zs hz hwas h
  · exact counts_many p n c was w zs hz hwas (by omega)

set_option maxRecDepth 100000 in
theorem open_i32 {H : Type} {enc : TypeId × Value → H} {w : World} {b0 : Nat} {v : Value} {d : DataW H} {p : List MemPlace}
    (hv : Value.okWide Try.prog w .any b0 50 v) (h : DataW.Trod enc Try.prog w 0 (fun _ => true) true 50 v d p) :
    ∃ a n c, v = .slice a n c ∧ ∃ zs, RawI w a n c zs := by
  obtain ⟨a, n, c, rfl⟩ := Go.WideShapes.okWide_slice Try.underlying50 hv
  refine ⟨a, n, c, rfl, ?_⟩
  obtain ⟨fuel, hf⟩ := h
  rcases Go.ChangeShapes.open_ints Try.underlying50 Try.underlying21 (by kernel_rfl) hf with ⟨hcs, _⟩ | ⟨x, l, cap, zs, hcs, _, hl, hm, hz, _, hcell, hwz⟩
  · simp [Value.cells] at hcs
    obtain ⟨rfl, rfl, rfl⟩ := hcs
    exact ⟨[], by omega, by omega, rfl, by simp, fun h => absurd h (by omega)⟩
  · simp [Value.cells] at hcs
    obtain ⟨rfl, rfl, rfl⟩ := hcs
    simp at hz
    refine ⟨zs.take n, hl, by unfold maxLen at hm; exact hm, by rw [List.length_take]; omega, fun z hz' => ?_, fun h0 => ?_⟩
    · have := hwz z (List.mem_of_mem_take hz')
      simp [Lit.wf, IntKind.min, IntKind.max, IntKind.signed, IntKind.bits] at this
      omega
    · have h1 := hcell 0 (by omega)
      obtain ⟨b, o, sp⟩ := x
      obtain rfl : sp = none := by
        cases sp with
        | none => rfl
        | some s => simp [Addr.add, World.cell?] at h1; split at h1 <;> simp_all
      refine ⟨b, o, rfl, fun i hi => ?_⟩
      have := hcell i (by omega)
      rw [List.getD_eq_getElem?_getD, List.getElem?_take, if_pos hi, ← List.getD_eq_getElem?_getD]
      by_cases h0 : i = 0
      · subst h0; simpa [Addr.add] using this
      · simpa [Addr.add, h0] using this

end Go.Proofs.Ythohpeinmkdfeaa
