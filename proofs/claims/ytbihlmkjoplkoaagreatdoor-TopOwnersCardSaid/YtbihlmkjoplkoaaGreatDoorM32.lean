/-
  For the statement TopOwners: Comparison of small aggregates; ser: Encode, Size; stats: Of, Inner, Nodes.
-/
import Derived.Test.YtbihlmkjoplkoaaGreatDoorM30
import Derived.DeepKeys
import Derived.Test.YtbihlmkjoplkoaaGreatDoorM31
/-
  Comparison of small aggregates.
-/
namespace Go.Proofs.YtbihlmkjoplkoaaGreatDoor
open Go.RowKit
set_option linter.unusedVariables false

theorem infoI : (Tryz.prog.info? 3).map (fun i => (i.zero, i.size, i.bytes)) = some (some (.int .i64 0), 1, 8) := by kernel_rfl
theorem cells3 : Tryz.prog.cellsOf 3 = 1 := by kernel_rfl
theorem plain3 : Tryz.prog.plainKey 3 = true := by kernel_rfl

theorem eq52 (w : World) (i0 i1 i2 i3 : Int) : ∃ r, (Op.equalIn 10000 52 (.agg #[.int .i64 i0, .int .i64 i1, .int .i64 i2, .int .i64 i3]) (.agg #[.int .i64 0, .int .i64 0, .int .i64 0, .int .i64 0])).run Tryz.prog w = .ok r w ∧ (r = true → i0 = 0 ∧ i1 = 0 ∧ i2 = 0 ∧ i3 = 0) := by
  obtain ⟨i, hi, _⟩ := info_parts infoI
  have hp : ∀ (xs : Array Value) (w : World) (off : Nat) (v : Value), xs[off]? = some v → (part 3 xs off).run Tryz.prog w = .ok v w := fun xs w off v h => run_part_plain w plain3 h
  have he : ∀ (d : Nat) (a b : Int) (w : World), (Op.equalIn (d + 1) 3 (.int .i64 a) (.int .i64 b)).run Tryz.prog w = .ok (a == b) w := fun d a b w => run_equalIn_int w d 3 _ _ a b Tryz.underlying3
  have key : ∃ r, ∀ d, (Op.eqItems (d + 1) 3 1 #[.int .i64 i0, .int .i64 i1, .int .i64 i2, .int .i64 i3] #[.int .i64 0, .int .i64 0, .int .i64 0, .int .i64 0] [0, 1, 2, 3]).run Tryz.prog w = .ok r w ∧ (r = true → i0 = 0 ∧ i1 = 0 ∧ i2 = 0 ∧ i3 = 0) := by
    have p0 := hp #[.int .i64 i0, .int .i64 i1, .int .i64 i2, .int .i64 i3] w 0 _ rfl
    have p1 := hp #[.int .i64 i0, .int .i64 i1, .int .i64 i2, .int .i64 i3] w 1 _ rfl
    have p2 := hp #[.int .i64 i0, .int .i64 i1, .int .i64 i2, .int .i64 i3] w 2 _ rfl
    have p3 := hp #[.int .i64 i0, .int .i64 i1, .int .i64 i2, .int .i64 i3] w 3 _ rfl
    have z0 := hp #[.int .i64 0, .int .i64 0, .int .i64 0, .int .i64 0] w 0 _ rfl
    have z1 := hp #[.int .i64 0, .int .i64 0, .int .i64 0, .int .i64 0] w 1 _ rfl
    have z2 := hp #[.int .i64 0, .int .i64 0, .int .i64 0, .int .i64 0] w 2 _ rfl
    have z3 := hp #[.int .i64 0, .int .i64 0, .int .i64 0, .int .i64 0] w 3 _ rfl
    by_cases h0 : i0 = 0
    · by_cases h1 : i1 = 0
      · by_cases h2 : i2 = 0
        · by_cases h3 : i3 = 0
          · exact ⟨true, fun d => ⟨by subst h0 h1 h2 h3; simp [Op.eqItems, he, z0, z1, z2, z3], fun _ => ⟨h0, h1, h2, h3⟩⟩⟩
          · exact ⟨false, fun d => ⟨by subst h0 h1 h2; simp [Op.eqItems, he, p3, z0, z1, z2, z3, p0, p1, p2, h3], by simp⟩⟩
        · exact ⟨false, fun d => ⟨by subst h0 h1; simp [Op.eqItems, he, z0, z1, z2, p0, p1, p2, h2], by simp⟩⟩
      · exact ⟨false, fun d => ⟨by subst h0; simp [Op.eqItems, he, z0, z1, p0, p1, h1], by simp⟩⟩
    · exact ⟨false, fun d => ⟨by simp [Op.eqItems, he, z0, p0, h0], by simp⟩⟩
  obtain ⟨r, h1⟩ := key
  refine ⟨r, ?_, (h1 0).2⟩
  have h3 : ∀ d : Nat, (Op.equalIn (d + 1 + 1) 52 (.agg #[.int .i64 i0, .int .i64 i1, .int .i64 i2, .int .i64 i3]) (.agg #[.int .i64 0, .int .i64 0, .int .i64 0, .int .i64 0])).run Tryz.prog w = .ok r w := fun d => by
    have e4 := run_equalIn_array (P := Tryz.prog) (e := 3) (n := 4) (t := 52) (i := i) w (d + 1) #[.int .i64 i0, .int .i64 i1, .int .i64 i2, .int .i64 i3] #[.int .i64 0, .int .i64 0, .int .i64 0, .int .i64 0] Tryz.underlying52 hi
    rw [e4, cells3]
    exact (h1 d).1
  exact h3 9998
end Go.Proofs.YtbihlmkjoplkoaaGreatDoor
/-
  ser: Encode, Size; stats: Of, Inner, Nodes.
-/
namespace Go.Proofs.YtbihlmkjoplkoaaGreatDoor
open Go.RowKit
set_option linter.unusedVariables false

section
variable {B : Nat} {w : World} {S : Store} {t : T}

/-- bytes told; memory has grown -/
def EncS (w w' : World) (e : Ending) : Prop := ∃ p n c, e = .returned (.slice p n c) ∧ Below w.heap.size w w'

set_option maxHeartbeats 1600000 in
set_option maxRecDepth 100000 in
theorem Encode62 (hs : Sto B w S) (hB : B ≤ w.heap.size) (hr : Rep S t) {hd : List Int} (ha : t.All Short hd) (hn : 65560 * (t.cnt (fun _ => true) + 1) ≤ 140737488351000) :
    Calls Tryz.prog 62 #[.pointer (pt t.ptr)] w fun e w' => EncS w w' e := by
  have hb0 : Below w.heap.size w (w.alloc (.cells #[.int .u8 1] 5)) := (Below.refl _ _).alloc (Nat.le_refl _) _
  have BY0 : Hid (By w (w.alloc (.cells #[.int .u8 1] 5)) (some ⟨w.heap.size, 0, none⟩) 1 1) := by
    refine ⟨⟨[1], rfl, Or.inr ⟨w.heap.size, 1, _, rfl, Nat.le_refl _, heap_alloc_new _ _, Nat.le_refl _, by unfold maxLen; omega, rfl, rfl⟩⟩, hb0⟩
  have HC := Lib.hid (Count52 (hs.step hb0) (Nat.le_trans hB hb0.size) hr ha (by omega))
  have HL := Lib.hid (lay92 hs t)
  have HA := Lib.hid (show Rep S t ∧ t.All Short hd ∧ 65560 * (t.cnt (fun _ => true) + 1) ≤ 140737488351000 from ⟨hr, ha, hn⟩)
  clear hs hB hr ha hn hb0
  cases ht : t with
  | nil =>
    rw [ht] at HC
    simp only [T.ptr, pt] at HC
    simp only [T.ptr, pt]
    clear ht
    go_enter Tryz.func62, Tryz.ntmps62
    go_wp2_with fail
    refine HC.out.mono ?_; rintro e w1 ⟨⟨N, rfl⟩, hb⟩
    have BY1 := Lib.hid (BY0.out.below hb)
    have hu : Hid (0 ≤ IntKind.u64.wrap N ∧ IntKind.u64.wrap N < 18446744073709551616) := by show _ ∧ _; simp [IntKind.wrap, IntKind.bits, IntKind.signed]; omega
    clear hb
    obtain ⟨u, hu2⟩ : ∃ u, IntKind.u64.wrap N = u := ⟨_, rfl⟩
    rw [hu2] at hu
    go_wp2_with fail
    refine (num91 BY1.out u hu.out (by omega)).mono ?_; rintro e w2 ⟨p2, n2, c2, rfl, h2, by2, gr2⟩
    have BY2 := Lib.hid by2
    clear by2 gr2 h2
    go_wp2_with fail
    go_ret
    exact ⟨_, _, _, rfl, BY2.out.bel⟩
  | node id own part val has leaf kid =>
    have HT := Lib.hid ht
    rw [ht] at HC
    simp only [T.ptr, pt] at HC
    simp only [T.ptr, pt]
    clear ht
    go_enter Tryz.func62, Tryz.ntmps62
    go_wp2_with fail
    refine HC.out.mono ?_; rintro e w1 ⟨⟨N, rfl⟩, hb⟩
    have BY1 := Lib.hid (BY0.out.below hb)
    have hu : Hid (0 ≤ IntKind.u64.wrap N ∧ IntKind.u64.wrap N < 18446744073709551616) := by show _ ∧ _; simp [IntKind.wrap, IntKind.bits, IntKind.signed]; omega
    clear hb
    obtain ⟨u, hu2⟩ : ∃ u, IntKind.u64.wrap N = u := ⟨_, rfl⟩
    rw [hu2] at hu
    go_wp2_with fail
    refine (num91 BY1.out u hu.out (by omega)).mono ?_; rintro e w2 ⟨p2, n2, c2, rfl, h2, by2, gr2⟩
    have BY2 := Lib.hid by2
    have H2 := Lib.hid h2
    have he := run_eql_pointer_nil (P := Tryz.prog) w2 48 (some ⟨id, 0, none⟩) (by kernel_rfl)
    clear by2 gr2 h2
    go_wp2_with fail
    refine (HL.out w2 p2 n2 c2 id hd (by rw [HT.out]; rfl) HA.out.1 HA.out.2.1 BY2.out (by have := HA.out.2.2; have := H2.out; omega)).mono ?_; rintro e w3 ⟨p3, n3, c3, rfl, h3, by3⟩
    have BY3 := Lib.hid by3
    clear by3 h3
    go_wp2_with fail
    go_ret
    exact ⟨_, _, _, rfl, BY3.out.bel⟩

theorem Size41 (hs : Sto B w S) (hB : B ≤ w.heap.size) (hr : Rep S t) {hd : List Int} (ha : t.All Short hd) (hn : 65560 * (t.cnt (fun _ => true) + 1) ≤ 140737488351000) :
    Calls Tryz.prog 41 #[.pointer (pt t.ptr)] w fun e w' => CountS w w' e := by
  have HE := Lib.hid (Encode62 hs hB hr ha hn)
  clear hs hB hr ha hn
  generalize pt t.ptr = kp at *
  go_enter Tryz.func41, Tryz.ntmps41
  go_wp2_with fail
  refine HE.out.mono ?_; rintro e w1 ⟨p, n, c, rfl, hb⟩
  have HB := Lib.hid hb
  clear hb
  go_wp2_with fail
  go_ret
  exact ⟨⟨_, rfl⟩, HB.out⟩

theorem idx52 (w : World) (i0 i1 i2 i3 : Int) : ((Instr.index 52 (.agg #[.int .i64 i0, .int .i64 i1, .int .i64 i2, .int .i64 i3]) (.int .i64 0)).run Tryz.prog w = .ok (.int .i64 i0) w) ∧ ((Instr.index 52 (.agg #[.int .i64 i0, .int .i64 i1, .int .i64 i2, .int .i64 i3]) (.int .i64 1)).run Tryz.prog w = .ok (.int .i64 i1) w) ∧ ((Instr.index 52 (.agg #[.int .i64 i0, .int .i64 i1, .int .i64 i2, .int .i64 i3]) (.int .i64 2)).run Tryz.prog w = .ok (.int .i64 i2) w) ∧ ((Instr.index 52 (.agg #[.int .i64 i0, .int .i64 i1, .int .i64 i2, .int .i64 i3]) (.int .i64 3)).run Tryz.prog w = .ok (.int .i64 i3) w) := ⟨by kernel_rfl, by kernel_rfl, by kernel_rfl, by kernel_rfl⟩
theorem size54 : (Tryz.prog.info? 54).map (·.size) = some 11 := by kernel_rfl

/-- what Of tells -/
def OfS (w w' : World) (m : Nat) (e : Ending) : Prop := ∃ a0 a1 i0 i1 i2 i3 a3 a4 a5 a6 a7 : Int, e = .returned (.agg #[.int .i64 a0, .int .i64 a1, .int .i64 i0, .int .i64 i1, .int .i64 i2, .int .i64 i3, .int .i64 a3, .int .i64 a4, .int .i64 a5, .int .i64 a6, .int .i64 a7]) ∧ wrap64 (a1 + i0 + i1 + i2 + i3) = wrap64 m ∧ Below w.heap.size w w'

set_option maxHeartbeats 1600000 in
set_option maxRecDepth 100000 in
theorem Of19 (hs : Sto B w S) (hB : B ≤ w.heap.size) (hr : Rep S t) {hd : List Int} (ha : t.All Short hd) (hn : 65560 * (t.cnt (fun _ => true) + 1) ≤ 140737488351000) :
    Calls Tryz.prog 19 #[.pointer (pt t.ptr)] w fun e w' => OfS w w' (t.cnt (fun _ => true)) e := by
  have hb0 : Below w.heap.size w (w.alloc (.cells #[.int .i64 0, .int .i64 0, .int .i64 0, .int .i64 0, .int .i64 0, .int .i64 0, .int .i64 0, .int .i64 0, .int .i64 0, .int .i64 0, .int .i64 0] 54)) := (Below.refl _ _).alloc (Nat.le_refl _) _
  have HZ := Lib.hid (Size41 (hs.step hb0) (Nat.le_trans hB hb0.size) hr ha hn)
  have HG := Lib.hid (heap_alloc_new w (.cells #[.int .i64 0, .int .i64 0, .int .i64 0, .int .i64 0, .int .i64 0, .int .i64 0, .int .i64 0, .int .i64 0, .int .i64 0, .int .i64 0, .int .i64 0] 54))
  have HB0 := Lib.hid hb0
  have HSS := Lib.hid (show Sto B w S ∧ B ≤ w.heap.size ∧ Rep S t from ⟨hs, hB, hr⟩)
  clear hs hB hr ha hn hb0
  cases ht : t with
  | nil =>
    have HT := Lib.hid ht
    rw [ht] at HZ
    simp only [T.ptr, pt] at HZ
    simp only [T.ptr, pt]
    clear ht
    go_enter Tryz.func19, Tryz.ntmps19
    go_wp2_with fail
    refine HZ.out.mono ?_; rintro e w1 ⟨⟨N, rfl⟩, hb⟩
    have HB1 := Lib.hid hb
    have HG1 : Hid ((w1.alloc (.cells #[.int .i64 0, .int .i64 0, .int .i64 0, .int .i64 0, .int .i64 0, .int .i64 0, .int .i64 0, .int .i64 0, .int .i64 0, .int .i64 0, .int .i64 N] 54)).heap[w.heap.size]? = some (.cells #[.int .i64 0, .int .i64 0, .int .i64 0, .int .i64 0, .int .i64 0, .int .i64 0, .int .i64 0, .int .i64 0, .int .i64 0, .int .i64 0, .int .i64 0] 54 (0, 0))) := by
      show _ = _
      rw [Below.heap_alloc _ _ _ (Nat.lt_of_lt_of_le (heap_lt HG.out) hb.size)]
      exact (hb.block _ (heap_lt HG.out)).trans HG.out
    clear hb
    go_wp2_with (refine wpList_load_row rfl 54 _ (by rfl) w1.heap.size (by rfl) 54 #[.int .i64 0, .int .i64 0, .int .i64 0, .int .i64 0, .int .i64 0, .int .i64 0, .int .i64 0, .int .i64 0, .int .i64 0, .int .i64 0, .int .i64 N] (0, 0) _ (heap_alloc_new w1 _) Tryz.underlying54 rfl size54 ?_; refine stop ?_)
    refine unhid ?_
    refine wpList_store_row rfl 54 _ _ (by rfl) w.heap.size #[.int .i64 0, .int .i64 0, .int .i64 0, .int .i64 0, .int .i64 0, .int .i64 0, .int .i64 0, .int .i64 0, .int .i64 0, .int .i64 0, .int .i64 N] (by rfl) (by rfl) 54 #[.int .i64 0, .int .i64 0, .int .i64 0, .int .i64 0, .int .i64 0, .int .i64 0, .int .i64 0, .int .i64 0, .int .i64 0, .int .i64 0, .int .i64 0] HG1.out size54 rfl (by simp [Value.oneCell']) ?_
    have HG2 := Lib.hid (setRow_heap _ w.heap.size _ #[.int .i64 0, .int .i64 0, .int .i64 0, .int .i64 0, .int .i64 0, .int .i64 0, .int .i64 0, .int .i64 0, .int .i64 0, .int .i64 0, .int .i64 N] 54 _ HG1.out)
    go_wp2_with fail
    refine bodyPost_ret (results_cell_row rfl _ _ w.heap.size 54 #[.int .i64 0, .int .i64 0, .int .i64 0, .int .i64 0, .int .i64 0, .int .i64 0, .int .i64 0, .int .i64 0, .int .i64 0, .int .i64 0, .int .i64 N] (0, 0) _ (by rfl) HG2.out Tryz.underlying54 rfl size54) rfl ?_
    refine ⟨_, _, _, _, _, _, _, _, _, _, _, rfl, by simp [T.cnt, wrap64], ?_⟩
    have k1 := Below.step HB0.out HB1.out
    exact below_setRow (k1.alloc k1.size _) (Nat.le_refl _) _
  | node id own part val has leaf kid =>
    have HT := Lib.hid ht
    rw [ht] at HZ
    simp only [T.ptr, pt] at HZ
    simp only [T.ptr, pt]
    clear ht
    go_enter Tryz.func19, Tryz.ntmps19
    go_wp2_with fail
    refine HZ.out.mono ?_; rintro e w1 ⟨⟨N, rfl⟩, hb⟩
    have HB1 := Lib.hid hb
    have hb2 : Below w1.heap.size w1 (w1.alloc (.cells #[.int .i64 0, .int .i64 0, .int .i64 0, .int .i64 0, .int .i64 0, .int .i64 0, .int .i64 0, .int .i64 0, .int .i64 0, .int .i64 0, .int .i64 N] 54)) := (Below.refl _ _).alloc (Nat.le_refl _) _
    have HB2 := Lib.hid hb2
    have CN : Hid (Cn (w1.alloc (.cells #[.int .i64 0, .int .i64 0, .int .i64 0, .int .i64 0, .int .i64 0, .int .i64 0, .int .i64 0, .int .i64 0, .int .i64 0, .int .i64 0, .int .i64 N] 54)) w1.heap.size 0) := ⟨0, 0, 0, 0, 0, 0, 0, 0, 0, 0, N, heap_alloc_new w1 _, by simp [wrap64]⟩
    have HS2 : Hid (Sto B (w1.alloc (.cells #[.int .i64 0, .int .i64 0, .int .i64 0, .int .i64 0, .int .i64 0, .int .i64 0, .int .i64 0, .int .i64 0, .int .i64 0, .int .i64 0, .int .i64 N] 54)) S) := ((HSS.out.1.step HB0.out).step hb).step hb2
    have hle : w.heap.size ≤ w1.heap.size := Nat.le_trans HB0.out.size hb.size
    have HC := Lib.hid (count42 t _ 0 0 0 id (by rw [HT.out]; rfl) HS2.out HSS.out.2.2 CN.out (Nat.le_trans HSS.out.2.1 hle))
    have HG1 : Hid ((w1.alloc (.cells #[.int .i64 0, .int .i64 0, .int .i64 0, .int .i64 0, .int .i64 0, .int .i64 0, .int .i64 0, .int .i64 0, .int .i64 0, .int .i64 0, .int .i64 N] 54)).heap[w.heap.size]? = some (.cells #[.int .i64 0, .int .i64 0, .int .i64 0, .int .i64 0, .int .i64 0, .int .i64 0, .int .i64 0, .int .i64 0, .int .i64 0, .int .i64 0, .int .i64 0] 54 (0, 0))) := by
      show _ = _
      rw [Below.heap_alloc _ _ _ (Nat.lt_of_lt_of_le (heap_lt HG.out) hb.size)]
      exact (hb.block _ (heap_lt HG.out)).trans HG.out
    have he := run_neq_pointer_nil (P := Tryz.prog) (w1.alloc (.cells #[.int .i64 0, .int .i64 0, .int .i64 0, .int .i64 0, .int .i64 0, .int .i64 0, .int .i64 0, .int .i64 0, .int .i64 0, .int .i64 0, .int .i64 N] 54)) 48 (some ⟨id, 0, none⟩) (by kernel_rfl)
    have hne : Hid (w.heap.size ≠ w1.heap.size) := by
      show _ ≠ _
      have := Nat.lt_of_lt_of_le (heap_lt HG.out) hb.size
      omega
    clear hb hb2 hle
    go_wp2_with fail
    refine HC.out.mono ?_; rintro e w2 ⟨rfl, hcn, hex⟩
    have HG2 : Hid (w2.heap[w.heap.size]? = some (.cells #[.int .i64 0, .int .i64 0, .int .i64 0, .int .i64 0, .int .i64 0, .int .i64 0, .int .i64 0, .int .i64 0, .int .i64 0, .int .i64 0, .int .i64 0] 54 (0, 0))) := by
      show _ = _
      rw [hex.block _ (heap_lt HG1.out) (by simpa using hne.out)]; exact HG1.out
    obtain ⟨a0, a1, i0, i1, i2, i3, a3, a4, a5, a6, a7, hh, hsum⟩ := hcn.heap
    have HH := Lib.hid hh
    have HSUM := Lib.hid hsum
    have HX := Lib.hid hex
    clear hcn hex hh hsum he
    go_wp2_with (refine wpList_load_row rfl 54 _ (by rfl) w1.heap.size (by rfl) 54 #[.int .i64 a0, .int .i64 a1, .int .i64 i0, .int .i64 i1, .int .i64 i2, .int .i64 i3, .int .i64 a3, .int .i64 a4, .int .i64 a5, .int .i64 a6, .int .i64 a7] (0, 0) _ HH.out Tryz.underlying54 rfl size54 ?_; refine stop ?_)
    refine unhid ?_
    refine wpList_store_row rfl 54 _ _ (by rfl) w.heap.size #[.int .i64 a0, .int .i64 a1, .int .i64 i0, .int .i64 i1, .int .i64 i2, .int .i64 i3, .int .i64 a3, .int .i64 a4, .int .i64 a5, .int .i64 a6, .int .i64 a7] (by rfl) (by rfl) 54 #[.int .i64 0, .int .i64 0, .int .i64 0, .int .i64 0, .int .i64 0, .int .i64 0, .int .i64 0, .int .i64 0, .int .i64 0, .int .i64 0, .int .i64 0] HG2.out size54 rfl (by simp [Value.oneCell']) ?_
    have HG3 := Lib.hid (setRow_heap _ w.heap.size _ #[.int .i64 a0, .int .i64 a1, .int .i64 i0, .int .i64 i1, .int .i64 i2, .int .i64 i3, .int .i64 a3, .int .i64 a4, .int .i64 a5, .int .i64 a6, .int .i64 a7] 54 _ HG2.out)
    go_wp2_with fail
    refine bodyPost_ret (results_cell_row rfl _ _ w.heap.size 54 #[.int .i64 a0, .int .i64 a1, .int .i64 i0, .int .i64 i1, .int .i64 i2, .int .i64 i3, .int .i64 a3, .int .i64 a4, .int .i64 a5, .int .i64 a6, .int .i64 a7] (0, 0) _ (by rfl) HG3.out Tryz.underlying54 rfl size54) rfl ?_
    refine ⟨a0, a1, i0, i1, i2, i3, a3, a4, a5, a6, a7, rfl, by rw [HSUM.out, HT.out]; simp, ?_⟩
    have k1 := Below.step HB0.out HB1.out
    have k2 := HX.out.below (k1.alloc k1.size _) (by simpa using k1.size) (k1.alloc k1.size _).size
    exact below_setRow k2 (Nat.le_refl _) _

set_option maxHeartbeats 1600000 in
set_option maxRecDepth 100000 in
theorem Inner40 (w : World) (a0 a1 i0 i1 i2 i3 a3 a4 a5 a6 a7 : Int) :
    Calls Tryz.prog 40 #[.agg #[.int .i64 a0, .int .i64 a1, .int .i64 i0, .int .i64 i1, .int .i64 i2, .int .i64 i3, .int .i64 a3, .int .i64 a4, .int .i64 a5, .int .i64 a6, .int .i64 a7]] w fun e w' => ∃ s, e = .returned (.int .i64 s) ∧ wrap64 (s + a1) = wrap64 (a1 + i0 + i1 + i2 + i3) ∧ Below w.heap.size w w' := by
  obtain ⟨r, hr, hz⟩ := eq52 (w.alloc (.cells #[.int .i64 a0, .int .i64 a1, .int .i64 i0, .int .i64 i1, .int .i64 i2, .int .i64 i3, .int .i64 a3, .int .i64 a4, .int .i64 a5, .int .i64 a6, .int .i64 a7] 54)) i0 i1 i2 i3
  have HZ := Lib.hid hz
  have HB : Hid (Below w.heap.size w (w.alloc (.cells #[.int .i64 a0, .int .i64 a1, .int .i64 i0, .int .i64 i1, .int .i64 i2, .int .i64 i3, .int .i64 a3, .int .i64 a4, .int .i64 a5, .int .i64 a6, .int .i64 a7] 54))) := (Below.refl _ _).alloc (Nat.le_refl _) _
  clear hz
  cases r with
  | true =>
    go_enter Tryz.func40, Tryz.ntmps40
    go_wp2_with fail
    go_ret
    obtain ⟨h0, h1, h2, h3⟩ := HZ.out trivial
    exact ⟨0, rfl, by rw [h0, h1, h2, h3]; simp, HB.out⟩
  | false =>
    have x0 : ∀ w : World, (Instr.index 52 (.agg #[.int .i64 i0, .int .i64 i1, .int .i64 i2, .int .i64 i3]) (.int .i64 0)).run Tryz.prog w = .ok (.int .i64 i0) w := fun w => (idx52 w i0 i1 i2 i3).1
    have x1 : ∀ w : World, (Instr.index 52 (.agg #[.int .i64 i0, .int .i64 i1, .int .i64 i2, .int .i64 i3]) (.int .i64 1)).run Tryz.prog w = .ok (.int .i64 i1) w := fun w => (idx52 w i0 i1 i2 i3).2.1
    have x2 : ∀ w : World, (Instr.index 52 (.agg #[.int .i64 i0, .int .i64 i1, .int .i64 i2, .int .i64 i3]) (.int .i64 2)).run Tryz.prog w = .ok (.int .i64 i2) w := fun w => (idx52 w i0 i1 i2 i3).2.2.1
    have x3 : ∀ w : World, (Instr.index 52 (.agg #[.int .i64 i0, .int .i64 i1, .int .i64 i2, .int .i64 i3]) (.int .i64 3)).run Tryz.prog w = .ok (.int .i64 i3) w := fun w => (idx52 w i0 i1 i2 i3).2.2.2
    go_enter Tryz.func40, Tryz.ntmps40
    go_wp2_with fail
    refine wp_loop_rounds 5 ?_
    rw [rounds_succ]
    go_wp2_with fail
    rw [rounds_succ]
    go_wp2_with fail
    rw [rounds_succ]
    go_wp2_with fail
    rw [rounds_succ]
    go_wp2_with fail
    rw [rounds_succ]
    go_wp2_with fail
    go_ret
    exact ⟨_, rfl, by unfold wrap64; omega, HB.out⟩

set_option maxHeartbeats 1600000 in
set_option maxRecDepth 100000 in
theorem Nodes18 (w : World) (m : Nat) (a0 a1 i0 i1 i2 i3 a3 a4 a5 a6 a7 : Int) (hm : wrap64 (a1 + i0 + i1 + i2 + i3) = wrap64 m) :
    Calls Tryz.prog 18 #[.agg #[.int .i64 a0, .int .i64 a1, .int .i64 i0, .int .i64 i1, .int .i64 i2, .int .i64 i3, .int .i64 a3, .int .i64 a4, .int .i64 a5, .int .i64 a6, .int .i64 a7]] w fun e w' => e = .returned (.int .i64 (wrap64 m)) ∧ Below w.heap.size w w' := by
  have HM := Lib.hid hm
  have HB : Hid (Below w.heap.size w (w.alloc (.cells #[.int .i64 a0, .int .i64 a1, .int .i64 i0, .int .i64 i1, .int .i64 i2, .int .i64 i3, .int .i64 a3, .int .i64 a4, .int .i64 a5, .int .i64 a6, .int .i64 a7] 54))) := (Below.refl _ _).alloc (Nat.le_refl _) _
  have HG := Lib.hid (heap_alloc_new w (.cells #[.int .i64 a0, .int .i64 a1, .int .i64 i0, .int .i64 i1, .int .i64 i2, .int .i64 i3, .int .i64 a3, .int .i64 a4, .int .i64 a5, .int .i64 a6, .int .i64 a7] 54))
  clear hm
  go_enter Tryz.func18, Tryz.ntmps18
  go_wp2_with fail
  have KS : Hid (∀ W' : World, W'.heap[w.heap.size]? = some (.cells #[.int .i64 a0, .int .i64 a1, .int .i64 i0, .int .i64 i1, .int .i64 i2, .int .i64 i3, .int .i64 a3, .int .i64 a4, .int .i64 a5, .int .i64 a6, .int .i64 a7] 54 (0, 0)) → W'.cell? ⟨w.heap.size, 0, none⟩ = some (.int .i64 a0) ∧ W'.cell? ⟨w.heap.size, 1, none⟩ = some (.int .i64 a1) ∧ W'.cell? ⟨w.heap.size, 2, none⟩ = some (.int .i64 i0) ∧ W'.cell? ⟨w.heap.size, 3, none⟩ = some (.int .i64 i1) ∧ W'.cell? ⟨w.heap.size, 4, none⟩ = some (.int .i64 i2) ∧ W'.cell? ⟨w.heap.size, 5, none⟩ = some (.int .i64 i3) ∧ W'.cell? ⟨w.heap.size, 6, none⟩ = some (.int .i64 a3) ∧ W'.cell? ⟨w.heap.size, 7, none⟩ = some (.int .i64 a4) ∧ W'.cell? ⟨w.heap.size, 8, none⟩ = some (.int .i64 a5) ∧ W'.cell? ⟨w.heap.size, 9, none⟩ = some (.int .i64 a6) ∧ W'.cell? ⟨w.heap.size, 10, none⟩ = some (.int .i64 a7)) := fun W' h => by
    refine ⟨?_, ?_, ?_, ?_, ?_, ?_, ?_, ?_, ?_, ?_, ?_⟩ <;> (rw [cell_row h]; rfl)
  have HD : Hid ((w.alloc (.cells #[.int .i64 a0, .int .i64 a1, .int .i64 i0, .int .i64 i1, .int .i64 i2, .int .i64 i3, .int .i64 a3, .int .i64 a4, .int .i64 a5, .int .i64 a6, .int .i64 a7] 54)).drew.heap[w.heap.size]? = some (.cells #[.int .i64 a0, .int .i64 a1, .int .i64 i0, .int .i64 i1, .int .i64 i2, .int .i64 i3, .int .i64 a3, .int .i64 a4, .int .i64 a5, .int .i64 a6, .int .i64 a7] 54 (0, 0))) := HG.out
  go_region_held3 (fun W' : World => W'.cell? ⟨w.heap.size, 0, none⟩ = some (.int .i64 a0) ∧ W'.cell? ⟨w.heap.size, 1, none⟩ = some (.int .i64 a1) ∧ W'.cell? ⟨w.heap.size, 2, none⟩ = some (.int .i64 i0) ∧ W'.cell? ⟨w.heap.size, 3, none⟩ = some (.int .i64 i1) ∧ W'.cell? ⟨w.heap.size, 4, none⟩ = some (.int .i64 i2) ∧ W'.cell? ⟨w.heap.size, 5, none⟩ = some (.int .i64 i3) ∧ W'.cell? ⟨w.heap.size, 6, none⟩ = some (.int .i64 a3) ∧ W'.cell? ⟨w.heap.size, 7, none⟩ = some (.int .i64 a4) ∧ W'.cell? ⟨w.heap.size, 8, none⟩ = some (.int .i64 a5) ∧ W'.cell? ⟨w.heap.size, 9, none⟩ = some (.int .i64 a6) ∧ W'.cell? ⟨w.heap.size, 10, none⟩ = some (.int .i64 a7))
    (first
      | exact KS.out _ HD.out
      | exact X)
    (first
      | (go_at_call 40
         refine (Inner40 _ a0 a1 i0 i1 i2 i3 a3 a4 a5 a6 a7).mono ?_
         rintro e w2 ⟨s, rfl, hs, hb⟩
         have X := KS.out w2 ((hb.block _ (heap_lt HD.out)).trans HD.out)))
  have HS := Lib.hid hs
  have HB2 := Lib.hid (Below.step (below_drewN HB.out 1) hb)
  clear hs hb X
  go_wp2_with fail
  go_ret
  exact ⟨ret_int (by rw [← HM.out, ← HS.out]; exact IntWalk.i64_left _), HB2.out⟩
end
end Go.Proofs.YtbihlmkjoplkoaaGreatDoor
