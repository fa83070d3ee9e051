/-
  The walk of the statement KeysWithin.
-/
import Derived.Test.YtbldahimdkifiaaLaw01t
import Derived.Laws.IdiomArrays
import Derived.Deep.SlicePairs
namespace Go.Proofs.Ytbldahimdkifiaa
open Go.RowKit
set_option linter.unusedVariables false

theorem info36 : (Try.prog.info? 36).map (fun i => (i.zero, i.size, i.bytes)) = some (some (.agg #[.slice none 0 0, .int .u64 0]), 2, 32) := by kernel_rfl

/-- a pair's two cells -/
def Pc (x : Hd × Int) : List Value := [x.1.val, .int .u64 x.2]

/-- pairs that came in: their cells; each key a slice of bytes that came in -/
structure Prs (w : World) (p : Option Addr) (n : Nat) (hs : List (Hd × Int)) : Prop where
  len : hs.length = n
  cells : 0 < n → ∃ b o, p = some ⟨b, o, none⟩ ∧ ∀ i x, hs[i]? = some x → w.cell? ⟨b, o + i * 2, none⟩ = some x.1.val ∧ w.cell? ⟨b, o + i * 2 + 1, none⟩ = some (.int .u64 x.2)
  raw : ∀ x : Hd × Int, x ∈ hs → RawB w x.1.1 x.1.2.1 x.1.2.2

theorem far_one' (p : Option Addr) (n c : Nat) (hn : n ≤ 9223372036854775807) (W W1 : World) (b : Nat) (hb : b = W.heap.size) (h : W1 = W.alloc (.cells #[.slice p n c] 22)) :
    Calls Try.prog 13 #[.slice (some ⟨b, 0, none⟩) 1 1] W1 fun e w' => e = .returned (.bool (farB [(p, n, c)])) ∧ w' = W1 := by
  subst hb h
  exact far13 W.heap.size 1 1 [(p, n, c)] _ rfl (by omega) (lit_hd W [(p, n, c)]) (by intro h hh; rcases List.mem_cons.1 hh with rfl | hh; exact hn; cases hh)

/-- what the loop over the pairs knows -/
structure Lw (w w1 wr : World) (v : Value) (k : Nat) (hs : List (Hd × Int)) : Prop where
  own : wr.ownsRow (w.heap.size + 1) 36 2 v k ((hs.take k).flatMap Pc)
  below : Below (w.heap.size + 1) w1 wr
  near : ∀ x : Hd × Int, x ∈ hs.take k → x.1.2.1 ≤ 300

theorem choose_keys (w : World) : ∀ hs : List (Hd × Int), (∀ x : Hd × Int, x ∈ hs → ∃ l, Bs w x.1.1 x.1.2.1 x.1.2.2 l) →
    ∃ ks : List (List Int), ks.length = hs.length ∧ ∀ (i : Nat) (x : Hd × Int) (l : List Int), hs[i]? = some x → ks[i]? = some l → Bs w x.1.1 x.1.2.1 x.1.2.2 l
  | [], _ => ⟨[], rfl, fun i x l h => by simp at h⟩
  | x :: hs, h => by
    obtain ⟨l, hl⟩ := h x (by simp)
    obtain ⟨ks, h1, h2⟩ := choose_keys w hs (fun y hy => h y (by simp [hy]))
    refine ⟨l :: ks, by simp [h1], fun i y m hy hm => ?_⟩
    cases i with
    | zero => simp at hy hm; subst hy hm; exact hl
    | succ i => exact h2 i y m (by simpa using hy) (by simpa using hm)

theorem flat_pc : ∀ (hs : List (Hd × Int)) (i : Nat) (x : Hd × Int), hs[i]? = some x → (hs.flatMap Pc)[i * 2]? = some x.1.val ∧ (hs.flatMap Pc)[i * 2 + 1]? = some (.int .u64 x.2)
  | [], i, x, h => by simp at h
  | y :: hs, 0, x, h => by simp at h; subst h; simp [Pc]
  | y :: hs, i + 1, x, h => by
    have ih := flat_pc hs i x (by simpa using h)
    rw [show (i + 1) * 2 = i * 2 + 2 by omega]
    simpa [Pc] using ih

theorem length_pc (hs : List (Hd × Int)) : (hs.flatMap Pc).length = hs.length * 2 := by
  induction hs with
  | nil => rfl
  | cons x hs ih => simp [Pc] at ih ⊢; omega

set_option maxRecDepth 100000 in
set_option maxHeartbeats 1600000 in
theorem within_loop (h0 h1 h2 : Hd) (op : Bool) (p : Option Addr) (n c : Nat) (hs : List (Hd × Int)) (w : World) (hn : n ≤ 40) (hnc : n ≤ c) (hP : Prs w p n hs)
    (hB : ∀ h ∈ [h0, h1, h2], ∃ xs, Bs w h.1 h.2.1 h.2.2 xs) (hf : farB [h0, h1, h2] = false) :
    Calls Try.prog 5 #[.agg #[h0.val, h1.val, h2.val], .bool op, .slice p n c] w fun e w' => e = .returned (.bool true) ∧ Below w.heap.size w w' := by
  obtain ⟨p0, n0, c0⟩ := h0
  obtain ⟨p1, n1, c1⟩ := h1
  obtain ⟨p2, n2, c2⟩ := h2
  simp only [Hd.val]
  have HP := Lib.hid hP
  have HB := Lib.hid hB
  have HF : Hid (∀ (W W1 : World) (b : Nat), b = W.heap.size → W1 = W.alloc (.cells #[.slice p0 n0 c0, .slice p1 n1 c1, .slice p2 n2 c2] 22) →
      Calls Try.prog 13 #[.slice (some ⟨b, 0, none⟩) 3 3] W1 fun e w' => e = .returned (.bool false) ∧ w' = W1) := fun W W1 b hb h => by
    subst hb h
    have := far13 W.heap.size 3 3 [(p0, n0, c0), (p1, n1, c1), (p2, n2, c2)] _ rfl (by omega) (lit_hd W [(p0, n0, c0), (p1, n1, c1), (p2, n2, c2)]) (fun h hh => by
      obtain ⟨xs, hb⟩ := hB h hh
      have := hb.big
      omega)
    rw [hf] at this
    exact this
  have hd : decide (40 < (n : Int)) = false := by simp; omega
  clear hP hB hf
  go_enter Try.func5, Try.ntmps5
  go_wp2_with fail
  refine (HF.out (w.alloc (.cells #[.slice p0 n0 c0, .slice p1 n1 c1, .slice p2 n2 c2] 30)) _ _ (by simp) rfl).mono ?_
  rintro e w1 ⟨rfl, hw1⟩
  have hb1 : Below w.heap.size w w1 := by
    rw [hw1]
    exact ((Below.refl _ _).alloc (Nat.le_refl _) _).alloc (by rw [World.size_alloc]; omega) _
  have hs1 : w1.heap.size = w.heap.size + 2 := by rw [hw1, World.size_alloc, World.size_alloc]
  have k0 : w1.cell? ⟨w.heap.size, 0, none⟩ = some (.slice p0 n0 c0) := by
    rw [hw1, World.cell?_alloc_lt _ _ _ (by simp), cell_of_row _ _ 0 _ 30 (0, 0) (heap_alloc_new w _)]; rfl
  have k1 : w1.cell? ⟨w.heap.size, 1, none⟩ = some (.slice p1 n1 c1) := by
    rw [hw1, World.cell?_alloc_lt _ _ _ (by simp), cell_of_row _ _ 1 _ 30 (0, 0) (heap_alloc_new w _)]; rfl
  have k2 : w1.cell? ⟨w.heap.size, 2, none⟩ = some (.slice p2 n2 c2) := by
    rw [hw1, World.cell?_alloc_lt _ _ _ (by simp), cell_of_row _ _ 2 _ 30 (0, 0) (heap_alloc_new w _)]; rfl
  have HB1 := Lib.hid hb1
  have HS1 := Lib.hid hs1
  have K0 := Lib.hid k0
  have K1 := Lib.hid k1
  have K2 := Lib.hid k2
  clear hw1 hb1 hs1 k0 k1 k2
  go_wp2_with fail
  go_loopw [7, 26] (fun v t wr => ∃ (k : Nat) (pv : Option Addr) (cv : Nat), t = .int .i64 k ∧ k ≤ n ∧ v = .slice pv k cv ∧ Hid (Lw w w1 wr v k hs)) (fun _ t _ => n - (intOf t).toNat)
  case atStart => exact ⟨0, none, 0, rfl, by omega, rfl, ⟨World.ownsRow_nil _ _ _ _, Below.refl _ _, by simp⟩⟩
  case round =>
    obtain ⟨k, pv, cv, rfl, hk, rfl, hl⟩ := hrel
    by_cases hlt : k < n
    · obtain ⟨b, o, rfl, hc⟩ := HP.out.cells (by omega)
      obtain ⟨⟨⟨q, m, d⟩, u⟩, hx⟩ : ∃ x, hs[k]? = some x := ⟨hs[k]'(by rw [HP.out.len]; exact hlt), List.getElem?_eq_getElem (by rw [HP.out.len]; exact hlt)⟩
      obtain ⟨g0, g1⟩ := hc k _ hx
      have hblt := block_lt_of_cell g0
      have hraw := HP.out.raw _ (List.mem_of_getElem? hx)
      simp only [Hd.val] at g0 g1 hraw hblt
      have hwr : ∀ j, wr.cell? ⟨b, j, none⟩ = w.cell? ⟨b, j, none⟩ := fun j => by
        rw [hl.out.below.cell (by show b < _; omega), HB1.out.cell hblt]
      rw [← hwr] at g0 g1
      have hm : m ≤ 9223372036854775807 := by have := hraw.1; unfold maxLen at this; exact this
      have HX := Lib.hid hx
      have HFO := Lib.hid (far_one' q m d hm)
      have HSR : Hid (w.heap.size + 2 ≤ wr.heap.size) := by
        have := hl.out.below.size
        rw [HS1.out] at this; exact this
      clear hc hx hraw hwr
      by_cases h300 : 300 < m
      · have hfb : farB [(q, m, d)] = true := by simp [farB, h300]
        rw [hfb] at HFO
        clear hfb
        go_wp2_with fail
        refine (HFO.out (wr.alloc (.cells #[.slice q m d, .int .u64 u] 35)) _ _ (by simp) rfl).mono ?_
        rintro e w2 ⟨rfl, hw2⟩
        have hb2 : Below w.heap.size w w2 := by
          rw [hw2]
          refine Below.trans HB1.out (((hl.out.below.mono (Nat.le_succ _)).alloc ?_ _).alloc ?_ _)
          · have := HSR.out; omega
          · have := HSR.out; rw [World.size_alloc]; omega
        have HB2 := Lib.hid hb2
        clear hw2 hb2
        go_wp2_with fail
        refine (alive14 _).mono ?_; rintro e w3 ⟨rfl, hbel⟩
        have HB3 := Lib.hid (Below.step HB2.out hbel)
        clear hbel
        go_wp2_with fail
        go_ret
        exact ⟨rfl, HB3.out⟩
      · have hfb : farB [(q, m, d)] = false := by simp [farB]; omega
        rw [hfb] at HFO
        have H300 : Hid (m ≤ 300) := by show m ≤ 300; omega
        clear hfb h300
        go_wp2_with fail
        refine (HFO.out (wr.alloc (.cells #[.slice q m d, .int .u64 u] 35)) _ _ (by simp) rfl).mono ?_
        rintro e w2 ⟨rfl, hw2⟩
        have hwB : Below (w.heap.size + 1) w1 w2 := by
          rw [hw2]
          refine (hl.out.below.alloc ?_ _).alloc ?_ _
          · have := HSR.out; omega
          · have := HSR.out; rw [World.size_alloc]; omega
        have hp0 : w2.cell? ⟨wr.heap.size, 0, none⟩ = some (.slice q m d) := by
          rw [hw2, World.cell?_alloc_lt _ _ _ (by simp), cell_of_row _ _ 0 _ 35 (0, 0) (heap_alloc_new wr _)]; rfl
        have hp1 : w2.cell? ⟨wr.heap.size, 1, none⟩ = some (.int .u64 u) := by
          rw [hw2, World.cell?_alloc_lt _ _ _ (by simp), cell_of_row _ _ 1 _ 35 (0, 0) (heap_alloc_new wr _)]; rfl
        have hown2 : w2.ownsRow (w.heap.size + 1) 36 2 (.slice pv k cv) k ((hs.take k).flatMap Pc) := by
          rw [hw2]; exact (hl.out.own.alloc _).alloc _
        have HWB := Lib.hid hwB
        have HOWN2 := Lib.hid hown2
        have HS2 : Hid (w.heap.size + 2 ≤ w2.heap.size) := by
          show w.heap.size + 2 ≤ w2.heap.size
          have := HSR.out
          rw [hw2, World.size_alloc, World.size_alloc]; omega
        clear hw2 hwB hown2
        go_wp2_with (at_builtin; refine stop ?_)
        refine unhid ?_
        obtain ⟨i0, hi, hz0, hz1, hz2⟩ := info_parts info36
        refine wpList_append_lies _ rfl _ _ 32 (by rfl) (w.heap.size + 1) 36 i0 (.agg #[.slice none 0 0, .int .u64 0]) 2 32 Try.underlying32 hi hz0 hz1 hz2 rfl (by decide) _ k _ (by rfl) (HOWN2.out.alloc _) ⟨w2.heap.size, 0, none⟩ 1 1 [.slice q m d, .int .u64 u] (by rfl) (by rfl) (World.news_of_block (heap_alloc_new w2 _)) (by intro z hz; rcases List.mem_cons.1 hz with rfl | hz; rfl; rcases List.mem_cons.1 hz with rfl | hz; rfl; cases hz) (by decide) (by unfold maxLen; omega) (by omega) (by have := HS2.out; rw [World.size_alloc]; omega) _ rfl ?_
        intro g cap w3 hown3 hgrow _ _
        have hlw : Lw w w1 w3 (.slice (some ⟨g, 0, none⟩) (k + 1) cap) (k + 1) hs := by
          have htk : hs.take (k + 1) = hs.take k ++ [((q, m, d), u)] := by rw [List.take_add_one, HX.out]; rfl
          refine ⟨?_, ?_, ?_⟩
          · rw [htk, List.flatMap_append]
            exact hown3
          · refine (HWB.out.alloc (by have := HS2.out; omega) _).grown hgrow (by have := HS2.out; rw [World.size_alloc]; omega) (fun j hj => (HOWN2.out.lt j hj).1)
          · intro x hx
            rw [htk] at hx
            rcases List.mem_append.1 hx with hx | hx
            · exact hl.out.near x hx
            · simp at hx; subst hx; exact H300.out
        have HLW := Lib.hid hlw
        clear hown3 hgrow hi hz0 hz1 hz2 hlw
        go_wp2
        go_roundw
        case rel => exact ⟨k + 1, some ⟨g, 0, none⟩, cap, by go_num, by omega, rfl, HLW⟩
        case measure => simp [intOf]; omega
    · obtain rfl : k = n := by omega
      have hbw : Below w.heap.size w wr := HB1.out.trans (hl.out.below.mono (Nat.le_succ _))
      have g0 : wr.cell? ⟨w.heap.size, 0, none⟩ = some (.slice p0 n0 c0) := by rw [hl.out.below.cell (Nat.lt_succ_self _)]; exact K0.out
      have g1 : wr.cell? ⟨w.heap.size, 1, none⟩ = some (.slice p1 n1 c1) := by rw [hl.out.below.cell (Nat.lt_succ_self _)]; exact K1.out
      have g2 : wr.cell? ⟨w.heap.size, 2, none⟩ = some (.slice p2 n2 c2) := by rw [hl.out.below.cell (Nat.lt_succ_self _)]; exact K2.out
      obtain ⟨x0, hx0⟩ := HB.out (p0, n0, c0) (by simp)
      obtain ⟨x1, hx1⟩ := HB.out (p1, n1, c1) (by simp)
      obtain ⟨x2, hx2⟩ := HB.out (p2, n2, c2) (by simp)
      have hy0 := hx0.below hbw
      have hy1 := hx1.below hbw
      have hy2 := hx2.below hbw
      have hnear : ∀ x : Hd × Int, x ∈ hs → ∃ l, Bs w x.1.1 x.1.2.1 x.1.2.2 l := by
        intro x hx
        obtain ⟨_, l, hl2⟩ := HP.out.raw x hx
        have := hl.out.near x (by rw [List.take_of_length_le (by rw [HP.out.len]; exact Nat.le_refl _)]; exact hx)
        exact ⟨l, hl2 (by omega)⟩
      obtain ⟨ks, hks1, hks2⟩ := choose_keys w hs hnear
      have hps1 : Ps wr p k c ks := ⟨by rw [hks1, HP.out.len], hnc, by omega, fun h0 => by
        obtain ⟨b, o, e, hc⟩ := HP.out.cells h0
        refine ⟨b, o, e, fun i l hi => ?_⟩
        have hil : i < hs.length := by rw [← hks1]; exact (List.getElem?_eq_some_iff.1 hi).1
        obtain ⟨x, hx⟩ : ∃ x, hs[i]? = some x := ⟨hs[i], List.getElem?_eq_getElem hil⟩
        obtain ⟨ha, _⟩ := hc i x hx
        refine ⟨_, _, _, ?_, (hks2 i x l hx hi).below hbw⟩
        rw [hbw.cell (block_lt_of_cell ha)]; exact ha⟩
      have hown := hl.out.own
      rw [List.take_of_length_le (by rw [HP.out.len]; exact Nat.le_refl _)] at hown
      have hps2 : Ps wr pv k cv ks := ⟨by rw [hks1, HP.out.len], (by
          rcases hown.2 with ⟨e, e2⟩ | ⟨g, cap, cur, e, _, _, hcap, _⟩
          · omega
          · cases e; exact hcap), by omega, fun h0 => by
        rcases hown.2 with ⟨e, e2⟩ | ⟨g, cap, cur, e, _⟩
        · omega
        · cases e
          refine ⟨g, 0, rfl, fun i l hi => ?_⟩
          have hil : i < hs.length := by rw [← hks1]; exact (List.getElem?_eq_some_iff.1 hi).1
          obtain ⟨x, hx⟩ : ∃ x, hs[i]? = some x := ⟨hs[i], List.getElem?_eq_getElem hil⟩
          refine ⟨_, _, _, ?_, (hks2 i x l hx hi).below hbw⟩
          rw [Nat.zero_add, hown.cellAt (i * 2) (by rw [HP.out.len] at hil; omega)]
          exact (flat_pc hs i x hx).1⟩
      have C25 : Hid (∀ j, Calls Try.prog 25 #[.slice p0 n0 c0, .slice p1 n1 c1, .slice p2 n2 c2, .bool op] (wr.drewN j) fun e w' => e = .returned (.bool (withinB x0 x1 x2 op)) ∧ w' = wr.drewN j) :=
        fun j => within25 _ _ _ _ _ _ _ _ _ _ _ _ op _ (hy0.drewN j) (hy1.drewN j) (hy2.drewN j)
      have C26 : Hid (∀ j, Calls Try.prog 26 #[.slice p0 n0 c0, .slice p1 n1 c1, .slice p2 n2 c2, .bool op] (wr.drewN j) fun e w' => e = .returned (.bool (withinB x0 x1 x2 op)) ∧ ∃ z, w' = (wr.drewN j).drewN z) :=
        fun j => within26 _ _ _ _ _ _ _ _ _ _ _ _ op _ (hy0.drewN j) (hy1.drewN j) (hy2.drewN j)
      have C27 : Hid (∀ j, Calls Try.prog 27 #[.slice pv k cv] (wr.drewN j) fun e w' => e = .returned (.bool (riseB ks)) ∧ ∃ z, w' = (wr.drewN j).drewN z) :=
        fun j => sorted27 _ _ _ _ _ (hps2.drewN j)
      have C28 : Hid (∀ j, Calls Try.prog 28 #[.slice p k c] (wr.drewN j) fun e w' => e = .returned (.bool (riseB ks)) ∧ ∃ z, w' = (wr.drewN j).drewN z) :=
        fun j => sorted28 _ _ _ _ _ (hps1.drewN j)
      have HBW := Lib.hid hbw
      have hlt2 : w.heap.size < wr.heap.size := block_lt_of_cell g0
      have HLT := Lib.hid hlt2
      generalize withinB x0 x1 x2 op = r1 at *
      generalize riseB ks = r2 at *
      have q1 : (r1 == r1) = true := by simp
      have q2 : (r2 == r2) = true := by simp
      clear hbw hx0 hx1 hx2 hy0 hy1 hy2 hnear hks1 hks2 hps1 hps2 hown hl hlt2 HP HB HF HB1 HS1 K0 K1 K2
      go_wp2_with fail
      go_region_held3 (fun w' => w'.cell? ⟨w.heap.size, 0, none⟩ = some (.slice p0 n0 c0) ∧ w'.cell? ⟨w.heap.size, 1, none⟩ = some (.slice p1 n1 c1) ∧ w'.cell? ⟨w.heap.size, 2, none⟩ = some (.slice p2 n2 c2))
        (first | go_keep | (exact ⟨by rw [hbel.cell HLT.out]; exact g0, by rw [hbel.cell HLT.out]; exact g1, by rw [hbel.cell HLT.out]; exact g2⟩)) (first
        | (go_at_call 25; refine (C25.out _).mono ?_; rintro e w' ⟨rfl, rfl⟩)
        | (go_at_call 26; refine (C26.out _).mono ?_; rintro e w' ⟨rfl, z, rfl⟩)
        | (go_at_call 27; refine (C27.out _).mono ?_; rintro e w' ⟨rfl, z, rfl⟩)
        | (go_at_call 28; refine (C28.out _).mono ?_; rintro e w' ⟨rfl, z, rfl⟩)
        | (go_at_call 14; refine (alive14 _).mono ?_; rintro e w' ⟨rfl, hbel⟩))
      all_goals (
        have HLE := Lib.hid (Below.step HBW.out ((below_drewN (Below.refl _ wr) _).trans hbel))
        clear hbel
        go_wp2_with fail
        go_ret
        exact ⟨rfl, HLE.out⟩)

set_option maxRecDepth 100000 in
set_option maxHeartbeats 800000 in
/-- where one of the three keys is too long, or there are too many pairs -/
theorem within_stop (h0 h1 h2 : Hd) (op : Bool) (p : Option Addr) (n c : Nat) (w : World) (hm : n ≤ 9223372036854775807)
    (hB : ∀ h ∈ [h0, h1, h2], h.2.1 ≤ 9223372036854775807) (fb : Bool) (hf : farB [h0, h1, h2] = fb) (hs : fb = true ∨ 40 < n) :
    Calls Try.prog 5 #[.agg #[h0.val, h1.val, h2.val], .bool op, .slice p n c] w fun e w' => e = .returned (.bool true) ∧ Below w.heap.size w w' := by
  obtain ⟨p0, n0, c0⟩ := h0
  obtain ⟨p1, n1, c1⟩ := h1
  obtain ⟨p2, n2, c2⟩ := h2
  simp only [Hd.val]
  have HF : Hid (∀ (W W1 : World) (b : Nat), b = W.heap.size → W1 = W.alloc (.cells #[.slice p0 n0 c0, .slice p1 n1 c1, .slice p2 n2 c2] 22) →
      Calls Try.prog 13 #[.slice (some ⟨b, 0, none⟩) 3 3] W1 fun e w' => e = .returned (.bool fb) ∧ w' = W1) := fun W W1 b hb h => by
    subst hb h
    have := far13 W.heap.size 3 3 [(p0, n0, c0), (p1, n1, c1), (p2, n2, c2)] _ rfl (by omega) (lit_hd W [(p0, n0, c0), (p1, n1, c1), (p2, n2, c2)]) (fun h hh => hB h hh)
    rw [hf] at this
    exact this
  clear hB hf
  cases fb with
  | true =>
    clear hs
    go_enter Try.func5, Try.ntmps5
    go_wp2_with fail
    refine (HF.out (w.alloc (.cells #[.slice p0 n0 c0, .slice p1 n1 c1, .slice p2 n2 c2] 30)) _ _ (by simp) rfl).mono ?_
    rintro e w1 ⟨rfl, hw1⟩
    have hb1 : Below w.heap.size w w1 := by
      rw [hw1]
      exact ((Below.refl _ _).alloc (Nat.le_refl _) _).alloc (by rw [World.size_alloc]; omega) _
    have HB1 := Lib.hid hb1
    clear hw1 hb1
    go_wp2_with fail
    refine (alive14 _).mono ?_; rintro e w3 ⟨rfl, hbel⟩
    have HB3 := Lib.hid (Below.step HB1.out hbel)
    clear hbel
    go_wp2_with fail
    go_ret
    exact ⟨rfl, HB3.out⟩
  | false =>
    have hd : decide (40 < (n : Int)) = true := by
      rcases hs with h | h
      · cases h
      · simp; omega
    clear hs
    go_enter Try.func5, Try.ntmps5
    go_wp2_with fail
    refine (HF.out (w.alloc (.cells #[.slice p0 n0 c0, .slice p1 n1 c1, .slice p2 n2 c2] 30)) _ _ (by simp) rfl).mono ?_
    rintro e w1 ⟨rfl, hw1⟩
    have hb1 : Below w.heap.size w w1 := by
      rw [hw1]
      exact ((Below.refl _ _).alloc (Nat.le_refl _) _).alloc (by rw [World.size_alloc]; omega) _
    have HB1 := Lib.hid hb1
    clear hw1 hb1
    go_wp2_with fail
    refine (alive14 _).mono ?_; rintro e w3 ⟨rfl, hbel⟩
    have HB3 := Lib.hid (Below.step HB1.out hbel)
    clear hbel
    go_wp2_with fail
    go_ret
    exact ⟨rfl, HB3.out⟩

theorem walkKeysWithin (h0 h1 h2 : Hd) (op : Bool) (p : Option Addr) (n c : Nat) (w : World) (w0 : ∀ h ∈ [h0, h1, h2], RawB w h.1 h.2.1 h.2.2)
    (w2 : n ≤ c ∧ c ≤ maxLen ∧ ∃ hs, Prs w p n hs) :
    Calls Try.prog 5 #[.agg #[h0.val, h1.val, h2.val], .bool op, .slice p n c] w fun e w' => e = .returned (.bool true) ∧ Below w.heap.size w w' := by
  obtain ⟨hnc, hcm, hs, hP⟩ := w2
  have hB : ∀ h ∈ [h0, h1, h2], h.2.1 ≤ 9223372036854775807 := fun h hh => by
    have := (w0 h hh).1; unfold maxLen at this; exact this
  have hm : n ≤ 9223372036854775807 := by unfold maxLen at hcm; omega
  cases hf : farB [h0, h1, h2] with
  | true => exact within_stop h0 h1 h2 op p n c w hm hB true hf (Or.inl rfl)
  | false =>
    by_cases h40 : 40 < n
    · exact within_stop h0 h1 h2 op p n c w hm hB false hf (Or.inr h40)
    · refine within_loop h0 h1 h2 op p n c hs w (by omega) hnc hP (fun h hh => ?_) hf
      obtain ⟨_, xs, hx⟩ := w0 h hh
      have : h.2.1 ≤ 300 := farB_false hf h hh
      exact ⟨xs, hx (by omega)⟩

theorem raw_of_trod {H : Type} {enc : TypeId × Value → H} {w : World} {base : Nat} {n : Nat} {v : Value} {x : DataW H × List MemPlace}
    (hf : DataW.trod enc Try.prog w base (fun _ => true) true n 22 [v] = some x) : ∃ h : Hd, v = h.val ∧ RawB w h.1 h.2.1 h.2.2 := by
  rcases Go.ChangeShapes.open_ints Try.underlying22 Try.underlying5 (by kernel_rfl) hf with ⟨hcs, _⟩ | ⟨x, l, c, zs, hcs, _, hl, hm, hz, _, hcell, hwz⟩
  · simp at hcs; subst hcs
    exact ⟨(none, 0, 0), rfl, RawB.nil w⟩
  · simp at hcs; subst hcs
    exact ⟨(some x, l, c), rfl, RawB.of_cells hl hm (by simpa using hz) hcell hwz⟩

theorem open_three {H : Type} {enc : TypeId × Value → H} {w : World} {base b0 : Nat} {v : Value} {d : DataW H} {p : List MemPlace}
    (hv : Value.okWide Try.prog w .any b0 30 v) (h : DataW.Trod enc Try.prog w base (fun _ => true) true 30 v d p) :
    ∃ h0 h1 h2 : Hd, v = .agg #[h0.val, h1.val, h2.val] ∧ ∀ h ∈ [h0, h1, h2], RawB w h.1 h.2.1 h.2.2 := by
  obtain ⟨cs, rfl, hsz, _⟩ : ∃ cs, v = .agg cs ∧ cs.size = Try.prog.cellsOf 30 ∧ Row.okWide Try.prog w .any b0 30 cs := by
    simpa [Value.okWide, Try.underlying30] using hv
  rw [show Try.prog.cellsOf 30 = 3 by kernel_rfl] at hsz
  obtain ⟨fuel, hf⟩ := h
  obtain ⟨l⟩ := cs
  match l, hsz with
  | [c0, c1, c2], _ =>
    obtain ⟨y0, y1, y2, m, _, g0, g1, g2⟩ := Go.ChangeShapes.trod_array3 Try.underlying30 (by kernel_rfl) hf
    obtain ⟨h0, rfl, r0⟩ := raw_of_trod g0
    obtain ⟨h1, rfl, r1⟩ := raw_of_trod g1
    obtain ⟨h2, rfl, r2⟩ := raw_of_trod g2
    refine ⟨h0, h1, h2, rfl, fun h hh => ?_⟩
    simp at hh
    rcases hh with rfl | rfl | rfl
    · exact r0
    · exact r1
    · exact r2

theorem choose_pairs {Q : Nat → Hd × Int → Prop} : ∀ n : Nat, (∀ i, i < n → ∃ x, Q i x) → ∃ hs : List (Hd × Int), hs.length = n ∧ ∀ i x, hs[i]? = some x → Q i x
  | 0, _ => ⟨[], rfl, fun i x h => by simp at h⟩
  | n + 1, h => by
    obtain ⟨hs, h1, h2⟩ := choose_pairs n (fun i hi => h i (by omega))
    obtain ⟨y, hy⟩ := h n (by omega)
    refine ⟨hs ++ [y], by simp [h1], fun i x hx => ?_⟩
    by_cases hi : i < n
    · rw [List.getElem?_append_left (by omega)] at hx; exact h2 i x hx
    · rw [List.getElem?_append_right (by omega)] at hx
      have : i - hs.length = 0 := by
        cases hh : i - hs.length with
        | zero => rfl
        | succ k => rw [hh] at hx; simp at hx
      rw [this] at hx; simp at hx; subst hx
      rwa [show i = n by omega]

theorem u35 : ∃ f0 f1 : Field, Try.prog.underlying 35 = some (.struct #[f0, f1]) ∧ f0.offset = 0 ∧ f1.offset = 1 ∧ f0.type = 22 ∧ f1.type = 33 := ⟨⟨"Key", 22, 0, false, "", "", 0⟩, ⟨"Val", 33, 1, false, "", "", 24⟩, by kernel_rfl, rfl, rfl, rfl, rfl⟩

theorem open_prs {H : Type} {enc : TypeId × Value → H} {w : World} {b0 : Nat} {v : Value} {d : DataW H} {p : List MemPlace}
    (hv : Value.okWide Try.prog w .any b0 31 v) (h : DataW.Trod enc Try.prog w 0 (fun _ => true) true 31 v d p) :
    ∃ a n c, v = .slice a n c ∧ n ≤ c ∧ c ≤ maxLen ∧ ∃ hs, Prs w a n hs := by
  obtain ⟨a, n, c, rfl⟩ := Go.WideShapes.okWide_slice Try.underlying31 hv
  refine ⟨a, n, c, rfl, ?_⟩
  obtain ⟨fuel, hf⟩ := h
  obtain ⟨f0, f1, hu, o0, o1, t0, t1⟩ := u35
  rcases Go.Deep.open_slice_pairs Try.underlying31 hu (by kernel_rfl) o0 o1 (by rw [t0]; kernel_rfl) (by rw [t1]; kernel_rfl) hf with ⟨hcs, _⟩ | ⟨x, l, cap, m, k, V0, V1, D0, D1, P0, P1, hcs, _, hl, hm, hmm, _, hx⟩
  · simp [Value.cells] at hcs
    obtain ⟨rfl, rfl, rfl⟩ := hcs
    exact ⟨Nat.le_refl _, by unfold maxLen; omega, [], rfl, fun h => absurd h (by omega), fun x hx => by cases hx⟩
  · simp [Value.cells] at hcs
    obtain ⟨rfl, rfl, rfl⟩ := hcs
    simp at hmm
    subst hmm
    have each : ∀ i, i < n → ∃ y : Hd × Int, w.cell? (x.add (i * 2)) = some y.1.val ∧ w.cell? (x.add (i * 2 + 1)) = some (.int .u64 y.2) ∧ RawB w y.1.1 y.1.2.1 y.1.2.2 := by
      intro i hi
      obtain ⟨g0, g1, k0, k1⟩ := hx i (by omega)
      rw [t0] at k0
      rw [t1] at k1
      obtain ⟨h, e, hr⟩ := raw_of_trod k0
      obtain ⟨u, e1, _, _⟩ := DataW.trod_int Try.underlying33 k1
      simp at e1
      rw [e] at g0
      rw [e1] at g1
      exact ⟨(h, u), g0, g1, hr⟩
    obtain ⟨hs, h1, h2⟩ := choose_pairs n each
    refine ⟨hl, hm, hs, h1, fun h0 => ?_, fun y hy => ?_⟩
    · obtain ⟨b, o, sp⟩ := x
      obtain rfl : sp = none := by
        obtain ⟨y, hy, _⟩ := each 0 h0
        cases sp with
        | none => rfl
        | some s => simp [Addr.add, World.cell?] at hy; split at hy <;> simp_all
      refine ⟨b, o, rfl, fun i y hy => ?_⟩
      obtain ⟨g0, g1, _⟩ := h2 i y hy
      refine ⟨?_, ?_⟩
      · by_cases hi : i = 0
        · subst hi; simpa [Addr.add] using g0
        · simpa [Addr.add, show ¬ i * 2 = 0 by omega] using g0
      · simpa [Addr.add, Nat.add_assoc] using g1
    · obtain ⟨i, hi⟩ := List.getElem?_of_mem hy
      exact (h2 i y hi).2.2

end Go.Proofs.Ytbldahimdkifiaa
