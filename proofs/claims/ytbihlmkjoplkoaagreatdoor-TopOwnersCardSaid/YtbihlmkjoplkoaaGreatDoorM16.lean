/-
  For the statement TopOwners: Two lists of bytes: their order, their common beginning; how long a key may be; The world's struct: what counts, what gives owners; versions.
-/
import Derived.Test.YtbihlmkjoplkoaaGreatDoorM01
import Derived.Test.YtbihlmkjoplkoaaGreatDoorM12
import Derived.Test.YtbihlmkjoplkoaaGreatDoorM13
import Derived.Lib.BytesEntry
import Derived.LaidEqlPtr
/-
  Two lists of bytes: their order, their common beginning; how long a key may be.
-/
namespace Go.Proofs.YtbihlmkjoplkoaaGreatDoor
open Go.RowKit
set_option linter.unusedVariables false

/-- what is known of a slice of bytes that stands somewhere -/
structure Bs (w : World) (p : Option Addr) (n c : Nat) (xs : List Int) : Prop where
  len : xs.length = n
  cap : n ≤ c
  big : n ≤ 140737488351232
  byte : ∀ x ∈ xs, 0 ≤ x ∧ x < 256
  cells : Lib.BytesIn w p n xs

theorem Bs.get {w : World} {p : Option Addr} {n c : Nat} {xs : List Int} (h : Bs w p n c xs) (i : Nat) : 0 ≤ xs.getD i 0 ∧ xs.getD i 0 < 256 := by
  by_cases hi : i < xs.length
  · rw [List.getD_eq_getElem?_getD, List.getElem?_eq_getElem hi]; exact h.byte _ (List.getElem_mem hi)
  · rw [List.getD_eq_getElem?_getD, List.getElem?_eq_none (by omega)]; simp

set_option maxHeartbeats 400000 in
theorem common19 (p q : Option Addr) (n c m d : Nat) (xs ys : List Int) (w : World) (h1 : Bs w p n c xs) (h2 : Bs w q m d ys) :
    Calls Tryz.prog 59 #[.slice p n c, .slice q m d] w fun e w' => e = .returned (.int .i64 (com xs ys)) ∧ ∃ k, w' = w.drewN k := by
  have hn := h1.big
  have hm := h2.big
  have H1 := Lib.hid h1
  have H2 := Lib.hid h2
  clear h1 h2
  go_enter Tryz.func59, Tryz.ntmps59
  go_wp2
  go_loopw [11] (fun i wr => ∃ k : Nat, i = .int .i64 k ∧ k ≤ n ∧ k ≤ m ∧ Hid (∀ j, j < k → xs.getD j 0 = ys.getD j 0) ∧ ∃ z, wr = w.drewN z) (fun i _ => n - (intOf i).toNat)
  case atStart => exact ⟨0, rfl, by omega, by omega, fun j hj => by omega, 0, rfl⟩
  case round =>
    obtain ⟨k, rfl, hk1, hk2, hs, z, rfl⟩ := hrel
    by_cases hlt : k < n ∧ k < m
    · obtain ⟨hl1, hl2⟩ := hlt
      obtain ⟨b, o, rfl, hc1⟩ := H1.out.cells.at (by omega)
      obtain ⟨b', o', rfl, hc2⟩ := H2.out.cells.at (by omega)
      have g1 := hc1 k hl1
      have g2 := hc2 k hl2
      clear hc1 hc2
      obtain ⟨x, hx⟩ : ∃ x, xs.getD k 0 = x := ⟨_, rfl⟩
      obtain ⟨y, hy⟩ : ∃ y, ys.getD k 0 = y := ⟨_, rfl⟩
      rw [hx] at g1
      rw [hy] at g2
      have HX := Lib.hid hx
      have HY := Lib.hid hy
      clear hx hy
      have hmin : (k : Int) < min (n : Int) m := by omega
      by_cases e : x = y
      · have e1 : (!(x == y)) = false := by simp [e]
        go_wp2
        go_quiet (fail)
        go_wp2
        go_roundw
        case rel =>
          refine ⟨k + 1, by go_num, by omega, by omega, ?_, _, rfl⟩
          intro j hj
          by_cases hjk : j = k
          · subst hjk; rw [HX.out, HY.out, e]
          · exact hs.out j (by omega)
        case measure => simp [intOf]; omega
      · have e1 : (!(x == y)) = true := by simp [e]
        go_wp2
        go_quiet (fail)
        go_wp2
        go_ret
        exact ⟨ret_int (by rw [com_eq k xs ys (by rw [H1.out.len]; omega) (by rw [H2.out.len]; omega) hs.out (fun _ _ => by rw [HX.out, HY.out]; exact e)]), _, World.drewN_drewN _ _ _⟩
    · go_wp2
      go_ret
      have hk : min (n : Int) m = k := by omega
      exact ⟨ret_int (by rw [com_eq k xs ys (by rw [H1.out.len]; omega) (by rw [H2.out.len]; omega) hs.out (fun h1 h2 => by rw [H1.out.len] at h1; rw [H2.out.len] at h2; omega)]; exact hk), _, rfl⟩

theorem Bs.drewN {w : World} {p : Option Addr} {n c : Nat} {xs : List Int} (h : Bs w p n c xs) (k : Nat) : Bs (w.drewN k) p n c xs :=
  ⟨h.len, h.cap, h.big, h.byte, h.cells⟩

set_option maxHeartbeats 400000 in
theorem common20 (p q : Option Addr) (n c m d : Nat) (xs ys : List Int) (w : World) (h1 : Bs w p n c xs) (h2 : Bs w q m d ys) :
    Calls Tryz.prog 49 #[.slice p n c, .slice q m d] w fun e w' => e = .returned (.int .i64 (com xs ys)) ∧ ∃ k, w' = w.drewN k := by
  have hn := h1.big
  have hm := h2.big
  have H1 := Lib.hid h1
  have H2 := Lib.hid h2
  clear h1 h2
  go_enter Tryz.func49, Tryz.ntmps49
  go_wp2
  go_loopw [5] (fun i wr => ∃ k : Nat, i = .int .i64 k ∧ k ≤ n ∧ k ≤ m ∧ Hid (∀ j, j < k → xs.getD j 0 = ys.getD j 0) ∧ ∃ z, wr = w.drewN z) (fun i _ => n - (intOf i).toNat)
  case atStart => exact ⟨0, rfl, by omega, by omega, fun j hj => by omega, 0, rfl⟩
  case round =>
    obtain ⟨k, rfl, hk1, hk2, hs, z, rfl⟩ := hrel
    by_cases hl1 : k < n
    · have d1 : decide (k < n) = true := by simp [hl1]
      by_cases hl2 : k < m
      · have d2 : decide (k < m) = true := by simp [hl2]
        obtain ⟨b, o, rfl, hc1⟩ := H1.out.cells.at (by omega)
        obtain ⟨b', o', rfl, hc2⟩ := H2.out.cells.at (by omega)
        have g1 := hc1 k hl1
        have g2 := hc2 k hl2
        clear hc1 hc2
        obtain ⟨x, hx⟩ : ∃ x, xs.getD k 0 = x := ⟨_, rfl⟩
        obtain ⟨y, hy⟩ : ∃ y, ys.getD k 0 = y := ⟨_, rfl⟩
        rw [hx] at g1
        rw [hy] at g2
        have HX := Lib.hid hx
        have HY := Lib.hid hy
        clear hx hy
        by_cases e : x = y
        · have e1 : (x == y) = true := by simp [e]
          go_wp2
          go_quiet (fail)
          go_wp2
          go_roundw
          case rel =>
            refine ⟨k + 1, by go_num, by omega, by omega, ?_, _, rfl⟩
            intro j hj
            by_cases hjk : j = k
            · subst hjk; rw [HX.out, HY.out, e]
            · exact hs.out j (by omega)
          case measure => simp [intOf]; omega
        · have e1 : (x == y) = false := by simp [e]
          go_wp2
          go_quiet (fail)
          go_wp2
          go_ret
          exact ⟨ret_int (by rw [com_eq k xs ys (by rw [H1.out.len]; omega) (by rw [H2.out.len]; omega) hs.out (fun _ _ => by rw [HX.out, HY.out]; exact e)]), _, World.drewN_drewN _ _ _⟩
      · have d2 : decide (k < m) = false := by simp [hl2]
        go_wp2
        go_quiet (fail)
        go_wp2
        go_ret
        exact ⟨ret_int (by rw [com_eq k xs ys (by rw [H1.out.len]; omega) (by rw [H2.out.len]; omega) hs.out (fun h1 h2 => by rw [H1.out.len] at h1; rw [H2.out.len] at h2; omega)]), _, World.drewN_drewN _ _ _⟩
    · have d1 : decide (k < n) = false := by simp [hl1]
      go_wp2
      go_quiet (fail)
      go_wp2
      go_ret
      exact ⟨ret_int (by rw [com_eq k xs ys (by rw [H1.out.len]; omega) (by rw [H2.out.len]; omega) hs.out (fun h1 h2 => by rw [H1.out.len] at h1; rw [H2.out.len] at h2; omega)]), _, World.drewN_drewN _ _ _⟩

theorem run_bytesOf {w : World} {p : Option Addr} {n c : Nat} {xs : List Int} (h : Bs w p n c xs) :
    (Extern.Bytes.bytesOf (.slice p n c)).run Tryz.prog w = .ok (strOfNums xs) w := by
  cases p with
  | none =>
    have : xs = [] := by
      by_cases hn : 0 < n
      · obtain ⟨_, _, e, _⟩ := h.cells.at hn; cases e
      · exact List.length_eq_zero_iff.1 (by rw [h.len]; omega)
    subst this
    rfl
  | some a =>
    have hl := Lib.run_loadBytesX (P := Tryz.prog) w xs a .empty (fun j x hj => by
      have hjl : j < xs.length := (List.getElem?_eq_some_iff.1 hj).1
      obtain ⟨b, o, e, hc⟩ := h.cells.at (by rw [← h.len]; omega)
      cases e
      have e : (⟨b, o, none⟩ : Addr).add j = ⟨b, o + j, none⟩ := by unfold Addr.add; split <;> simp_all
      rw [e, hc j (by rw [← h.len]; omega), List.getD_eq_getElem?_getD, hj]
      rfl)
    rw [h.len] at hl
    show (Extern.Bytes.loadBytes a n .empty).run Tryz.prog w = _
    rw [hl]
    congr 1
    simp [strOfNums, Lib.bytesOf]

theorem run_compare {w : World} {p q : Option Addr} {n c m d : Nat} {xs ys : List Int} (h1 : Bs w p n c xs) (h2 : Bs w q m d ys) :
    (Extern.BytealgCompare.compare #[.slice p n c, .slice q m d]).run Tryz.prog w = .ok (.int .i64 (cmpL xs ys)) w := by
  change Sem.run Tryz.prog (do pure (goInt (Extern.BytealgCompare.cmp (← Extern.Bytes.bytesOf (.slice p n c)) (← Extern.Bytes.bytesOf (.slice q m d))))) w = _
  simp only [Sem.run_bind, run_bytesOf h1, run_bytesOf h2, Sem.run_pure, Result.andThen]
  rw [Lib.cmp_eq]
  have e1 : (strOfNums xs).data.toList = Lib.bytesOf xs := by simp [strOfNums, Lib.bytesOf]
  have e2 : (strOfNums ys).data.toList = Lib.bytesOf ys := by simp [strOfNums, Lib.bytesOf]
  rw [e1, e2, compareBytes_cmpL xs ys h1.byte h2.byte]
  rfl

set_option maxHeartbeats 400000 in
theorem bcompare59 (p q : Option Addr) (n c m d : Nat) (xs ys : List Int) (w : World) (h1 : Bs w p n c xs) (h2 : Bs w q m d ys) :
    Calls Tryz.prog 129 #[.slice p n c, .slice q m d] w fun e w' => e = .returned (.int .i64 (cmpL xs ys)) ∧ w' = w := by
  have hcmp : (callFunc 152 #[.slice p n c, .slice q m d]).run Tryz.prog w = .ok (.value (.int .i64 (cmpL xs ys))) w := by
    rw [run_callFunc_extern Tryz.func152 (by kernel_rfl) (by kernel_rfl) (by kernel_rfl) (e := Extern.BytealgCompare.compare) (by kernel_rfl), run_compare h1 h2]
    rfl
  clear h1 h2
  generalize cmpL xs ys = r at *
  go_enter Tryz.func129, Tryz.ntmps129
  go_wp2
  go_ret
  exact ⟨rfl, rfl⟩

set_option maxHeartbeats 400000 in
theorem cmp15 (p q : Option Addr) (n c m d : Nat) (xs ys : List Int) (w : World) (h1 : Bs w p n c xs) (h2 : Bs w q m d ys) :
    Calls Tryz.prog 99 #[.slice p n c, .slice q m d] w fun e w' => e = .returned (.int .i64 (cmpL xs ys)) ∧ w' = w := by
  have H := Lib.hid (bcompare59 p q n c m d xs ys w h1 h2)
  clear h1 h2
  go_enter Tryz.func99, Tryz.ntmps99
  go_wp2_with (go_at_call 129; refine H.out.mono ?_; rintro e w' ⟨rfl, rfl⟩)
  go_ret
  exact ⟨rfl, rfl⟩

theorem com_n {w : World} {p q : Option Addr} {n c m d : Nat} {xs ys : List Int} (h1 : Bs w p n c xs) (h2 : Bs w q m d ys) : com xs ys ≤ n ∧ com xs ys ≤ m := by
  have := com_le_left xs ys
  have := com_le_right xs ys
  rw [h1.len] at *; rw [h2.len] at *
  omega

set_option maxHeartbeats 400000 in
theorem cmp16 (p q : Option Addr) (n c m d : Nat) (xs ys : List Int) (w : World) (h1 : Bs w p n c xs) (h2 : Bs w q m d ys) :
    Calls Tryz.prog 28 #[.slice p n c, .slice q m d] w fun e w' => e = .returned (.int .i64 (cmpL xs ys)) ∧ ∃ k, w' = w.drewN k := by
  have H := Lib.hid (common20 p q n c m d xs ys w h1 h2)
  have hc := cmpL_com xs ys
  have hd := com_diff xs ys
  have hr := com_n h1 h2
  have hn := h1.big
  have hm := h2.big
  rw [h1.len, h2.len] at hc hd
  have H1 := Lib.hid h1
  have H2 := Lib.hid h2
  clear h1 h2
  generalize com xs ys = k at *
  obtain ⟨hk1, hk2⟩ := hr
  have HC := Lib.hid hc
  have HD := Lib.hid hd
  clear hc hd
  by_cases e1 : k = n
  · have t1 : ((k : Int) == n) = true := by simp [e1]
    by_cases e2 : k = m
    · have t2 : ((k : Int) == m) = true := by simp [e2]
      have E1 := Lib.hid e1
      have E2 := Lib.hid e2
      clear e1 e2
      go_enter Tryz.func28, Tryz.ntmps28
      go_wp2_with (go_at_call 49; refine H.out.mono ?_; rintro e w' ⟨rfl, z, rfl⟩)
      go_ret
      exact ⟨ret_int (by rw [HC.out, if_pos ⟨E1.out, E2.out⟩]), z, rfl⟩
    · have t2 : ((k : Int) == m) = false := by simp; omega
      have E1 := Lib.hid e1
      have E2 := Lib.hid e2
      clear e1 e2
      go_enter Tryz.func28, Tryz.ntmps28
      go_wp2_with (go_at_call 49; refine H.out.mono ?_; rintro e w' ⟨rfl, z, rfl⟩)
      go_ret
      exact ⟨ret_int (by rw [HC.out, if_neg (fun h => E2.out h.2), if_pos E1.out]), z, rfl⟩
  · have t1 : ((k : Int) == n) = false := by simp; omega
    by_cases e2 : k = m
    · have t2 : ((k : Int) == m) = true := by simp [e2]
      have E1 := Lib.hid e1
      have E2 := Lib.hid e2
      clear e1 e2
      go_enter Tryz.func28, Tryz.ntmps28
      go_wp2_with (go_at_call 49; refine H.out.mono ?_; rintro e w' ⟨rfl, z, rfl⟩)
      go_ret
      exact ⟨ret_int (by rw [HC.out, if_neg (fun h => E1.out h.1), if_neg E1.out, if_pos E2.out]), z, rfl⟩
    · have t2 : ((k : Int) == m) = false := by simp; omega
      have hl1 : k < n := by omega
      have hl2 : k < m := by omega
      obtain ⟨b, o, rfl, hc1⟩ := H1.out.cells.at (by omega)
      obtain ⟨b', o', rfl, hc2⟩ := H2.out.cells.at (by omega)
      have g1 := hc1 k hl1
      have g2 := hc2 k hl2
      clear hc1 hc2
      obtain ⟨x, hx⟩ : ∃ x, xs.getD k 0 = x := ⟨_, rfl⟩
      obtain ⟨y, hy⟩ : ∃ y, ys.getD k 0 = y := ⟨_, rfl⟩
      rw [hx] at g1
      rw [hy] at g2
      have HX := Lib.hid hx
      have HY := Lib.hid hy
      clear hx hy
      have E1 := Lib.hid e1
      have E2 := Lib.hid e2
      clear e1 e2
      by_cases e : x < y
      · have t3 : decide (x < y) = true := by simp [e]
        have E := Lib.hid e
        clear e
        go_enter Tryz.func28, Tryz.ntmps28
        go_wp2_with (go_at_call 49; refine H.out.mono ?_; rintro e w' ⟨rfl, z, rfl⟩)
        go_quiet (fail)
        go_wp2
        go_ret
        exact ⟨ret_int (by rw [HC.out, if_neg (fun h => E1.out h.1), if_neg E1.out, if_neg E2.out, HX.out, HY.out, if_pos E.out]), _, World.drewN_drewN _ _ _⟩
      · have t3 : decide (x < y) = false := by simp [e]
        have E := Lib.hid e
        clear e
        go_enter Tryz.func28, Tryz.ntmps28
        go_wp2_with (go_at_call 49; refine H.out.mono ?_; rintro e w' ⟨rfl, z, rfl⟩)
        go_quiet (fail)
        go_wp2
        go_ret
        exact ⟨ret_int (by rw [HC.out, if_neg (fun h => E1.out h.1), if_neg E1.out, if_neg E2.out, HX.out, HY.out, if_neg (by have := E.out; omega)]), _, World.drewN_drewN _ _ _⟩

set_option maxHeartbeats 400000 in
theorem same18 (p q : Option Addr) (n c m d : Nat) (xs ys : List Int) (w : World) (h1 : Bs w p n c xs) (h2 : Bs w q m d ys) :
    Calls Tryz.prog 29 #[.slice p n c, .slice q m d] w fun e w' => e = .returned (.bool (cmpL xs ys == 0)) ∧ ∃ k, w' = w.drewN k := by
  have H := Lib.hid (cmp16 p q n c m d xs ys w h1 h2)
  clear h1 h2
  generalize cmpL xs ys = r at *
  go_enter Tryz.func29, Tryz.ntmps29
  go_wp2_with (go_at_call 28; refine H.out.mono ?_; rintro e w' ⟨rfl, z, rfl⟩)
  go_ret
  exact ⟨rfl, z, rfl⟩

theorem decide_cast (k m : Nat) : ((k : Int) == (m : Int)) = decide (k = m) := by
  rw [Bool.eq_iff_iff]; simp; omega

theorem Bs.same {w w' : World} {p : Option Addr} {n c : Nat} {xs : List Int} (h : Bs w p n c xs) (hh : w'.heap = w.heap) : Bs w' p n c xs :=
  ⟨h.len, h.cap, h.big, h.byte, fun hn => by
    obtain ⟨b, o, e, hc⟩ := h.cells.at hn
    refine ⟨b, o, e, fun i hi => ?_⟩
    have : w'.cell? ⟨b, o + i, none⟩ = w.cell? ⟨b, o + i, none⟩ := by simp [World.cell?, hh]
    rw [this]; exact hc i hi⟩

def mayE (n : Nat) : Int := if 65535 < n then 8 else 0

set_option maxHeartbeats 400000 in
theorem may40 (p : Option Addr) (n c : Nat) (w : World) (hn : n ≤ 9223372036854775807) : Calls Tryz.prog 54 #[.slice p n c] w fun e w' => e = .returned (.int .i64 (mayE n)) ∧ w' = w := by
  by_cases h : 65535 < n
  · have d1 : decide (65535 < (n : Int)) = true := by simp; omega
    have e1 := Lib.hid (show mayE n = 8 by unfold mayE; rw [if_pos h])
    go_enter Tryz.func54, Tryz.ntmps54
    go_wp2
    go_ret
    exact ⟨ret_int e1.out.symm, rfl⟩
  · have d1 : decide (65535 < (n : Int)) = false := by simp; omega
    have e1 := Lib.hid (show mayE n = 0 by unfold mayE; rw [if_neg h])
    go_enter Tryz.func54, Tryz.ntmps54
    go_wp2
    go_ret
    exact ⟨ret_int e1.out.symm, rfl⟩


end Go.Proofs.YtbihlmkjoplkoaaGreatDoor
/-
  The world's struct: what counts, what gives owners; versions.
-/
namespace Go.Proofs.YtbihlmkjoplkoaaGreatDoor
open Go.RowKit
set_option linter.unusedVariables false

theorem add73 (a : Addr) (x y s : Int) (w : World) (hc : w.cell? a = some (.int .u64 x)) (hz : w.frozen? a = false) (hs : IntKind.u64.wrap (x + y) = s) :
    Calls Tryz.prog 73 #[.pointer (some a), .int .u64 y] w fun e w' => e = .returned (.int .u64 s) ∧ w' = w.setCell a (.int .u64 s) := by
  have hl := run_call_add (P := Tryz.prog) Tryz.func106 (by kernel_rfl) (by kernel_rfl) (by kernel_rfl) .u64 (by kernel_rfl) (y := y) (s := s) hc hz (by simp [go_sem, hs])
  go_enter Tryz.func73, Tryz.ntmps73
  go_wp2
  go_ret
  exact ⟨rfl, rfl⟩

theorem add130 (a : Addr) (x y s : Int) (w : World) (hc : w.cell? a = some (.int .i64 x)) (hz : w.frozen? a = false) (hs : IntKind.i64.wrap (x + y) = s) :
    Calls Tryz.prog 130 #[.pointer (some a), .int .i64 y] w fun e w' => e = .returned (.int .i64 s) ∧ w' = w.setCell a (.int .i64 s) := by
  have hl := run_call_add (P := Tryz.prog) Tryz.func153 (by kernel_rfl) (by kernel_rfl) (by kernel_rfl) .i64 (by kernel_rfl) (y := y) (s := s) hc hz (by simp [go_sem, hs])
  go_enter Tryz.func130, Tryz.ntmps130
  go_wp2
  go_ret
  exact ⟨rfl, rfl⟩

theorem next48 (a : Addr) (x s : Int) (w : World) (hc : w.cell? a = some (.int .u64 x)) (hz : w.frozen? a = false) (hs : IntKind.u64.wrap (x + 1) = s) :
    Calls Tryz.prog 48 #[.pointer (some a)] w fun e w' => e = .returned (.int .u64 s) ∧ w' = w.setCell a (.int .u64 s) := by
  have H := Lib.hid (add73 a x 1 s w hc hz hs)
  clear hc hz hs
  go_enter Tryz.func48, Tryz.ntmps48
  go_wp2_with fail
  refine H.out.mono ?_; rintro e w' ⟨rfl, rfl⟩
  go_wp2_with fail
  go_ret
  exact ⟨rfl, rfl⟩

theorem made100 (a : Addr) (x n s : Int) (w : World) (hn : 0 < n) (hc : w.cell? a = some (.int .i64 x)) (hz : w.frozen? a = false) (hs : IntKind.i64.wrap (x + n) = s) :
    Calls Tryz.prog 100 #[.pointer (some a), .int .i64 n] w fun e w' => e = .returned (.tuple #[]) ∧ w' = w.setCell a (.int .i64 s) := by
  have d : decide (0 < n) = true := by simp; omega
  have H := Lib.hid (add130 a x n s w hc hz hs)
  clear hc hz hs hn
  go_enter Tryz.func100, Tryz.ntmps100
  go_wp2_with fail
  refine H.out.mono ?_; rintro e w' ⟨rfl, rfl⟩
  go_wp2_with fail
  go_end0
  exact ⟨rfl, rfl⟩

/-- the world's struct in block b: how many were made, the last owner -/
def Wld (w : World) (b : Nat) (o : Int) : Prop := ∃ x : Int, w.heap[b]? = some (.cells #[.int .i64 x, .int .u64 o] 73 (0, 0))

theorem Wld.same {w w' : World} {b : Nat} {o : Int} (h : Wld w b o) (e : w'.heap[b]? = w.heap[b]?) : Wld w' b o := let ⟨x, h⟩ := h; ⟨x, e.trans h⟩
theorem Wld.lt {w : World} {b : Nat} {o : Int} (h : Wld w b o) : b < w.heap.size := let ⟨x, h⟩ := h; block_lt_of_cell (a := ⟨b, 0, none⟩) (v := .int .i64 x) (by rw [cell_of_row _ _ _ _ _ _ h]; rfl)
theorem Wld.step {w w' : World} {b : Nat} {o : Int} (h : Wld w b o) (k : Below w.heap.size w w') : Wld w' b o := h.same (k.block b h.lt)

/-- one more is made -/
theorem made1 {w : World} {b : Nat} {o : Int} (h : Wld w b o) :
    Calls Tryz.prog 100 #[.pointer (some ⟨b, 0, none⟩), .int .i64 1] w fun e w' => e = .returned (.tuple #[]) ∧ Wld w' b o ∧ Exc [b] w w' := by
  obtain ⟨x, h⟩ := h
  refine (made100 ⟨b, 0, none⟩ x 1 _ w (by omega) (by rw [cell_of_row _ _ _ _ _ _ h]; rfl) (frozen_of_row _ _ _ _ _ h) rfl).mono ?_
  rintro e w' ⟨rfl, rfl⟩
  exact ⟨rfl, ⟨_, heap_setCell_same w b 0 _ 73 _ h⟩, (Exc.refl _ _).set (p := ⟨b, 0, none⟩) (by simp) _⟩

theorem meter25 (b : Nat) (w : World) : Calls Tryz.prog 25 #[.pointer (some ⟨b, 0, none⟩)] w fun e w' => e = .returned (.pointer (some ⟨b, 0, none⟩)) ∧ w' = w := by
  go_enter Tryz.func25, Tryz.ntmps25
  go_wp2_with fail
  go_ret
  exact ⟨rfl, rfl⟩

theorem owner26 {w : World} {b : Nat} {o : Int} (h : Wld w b o) (h0 : 0 ≤ o) (h1 : o + 1 < 18446744073709551616) :
    Calls Tryz.prog 26 #[.pointer (some ⟨b, 0, none⟩)] w fun e w' => e = .returned (.int .u64 (o + 1)) ∧ Wld w' b (o + 1) ∧ Exc [b] w w' := by
  obtain ⟨x, h⟩ := h
  have hs : IntKind.u64.wrap (o + 1) = o + 1 := IntWalk.u64_in _ (by omega)
  have H := Lib.hid (next48 ⟨b, 1, none⟩ o (o + 1) w (by rw [cell_of_row _ _ _ _ _ _ h]; rfl) (frozen_of_row _ _ _ _ _ h) hs)
  have HH := Lib.hid h
  clear h hs
  go_enter Tryz.func26, Tryz.ntmps26
  go_wp2_with fail
  refine H.out.mono ?_; rintro e w' ⟨rfl, hw'⟩
  have HW := Lib.hid hw'
  clear hw'
  go_wp2_with fail
  go_ret
  refine ⟨rfl, ⟨x, ?_⟩, ?_⟩
  · rw [HW.out]; exact heap_setCell_same w b 1 _ 73 _ HH.out
  · rw [HW.out]; exact (Exc.refl _ _).set (p := ⟨b, 1, none⟩) (by simp) _

theorem new6 (w : World) : Calls Tryz.prog 6 #[] w fun e w' => e = .returned (.pointer (some ⟨w.heap.size, 0, none⟩)) ∧ Wld w' w.heap.size 0 ∧ Below w.heap.size w w' := by
  have HB := Lib.hid (fun o => (Below.refl w.heap.size w).alloc (Nat.le_refl _) o)
  have HN : Hid (∀ o, (w.alloc o).heap[w.heap.size]? = some o) := fun o => heap_alloc_new _ _
  go_enter Tryz.func6, Tryz.ntmps6
  go_wp2_with fail
  go_ret
  exact ⟨rfl, ⟨0, HN.out _⟩, HB.out _⟩

/-- a version in block v: its world, its root -/
def Ver (w : World) (v b : Nat) (r : Option Addr) : Prop := ∃ d s m n t, w.heap[v]? = some (.cells #[.pointer (some ⟨b, 0, none⟩), .pointer r, .int .u32 d, .int .i32 s, .int .u32 m, .int .i64 n, .bool t] 106 (0, 0))
/-- a version that nobody has asked for its length -/
def VerNew (w : World) (v b : Nat) (r : Option Addr) : Prop := w.heap[v]? = some (.cells #[.pointer (some ⟨b, 0, none⟩), .pointer r, .int .u32 0, .int .i32 0, .int .u32 0, .int .i64 0, .bool false] 106 (0, 0))

theorem VerNew.ver {w : World} {v b : Nat} {r : Option Addr} (h : VerNew w v b r) : Ver w v b r := ⟨_, _, _, _, _, h⟩
theorem Ver.same {w w' : World} {v b : Nat} {r : Option Addr} (h : Ver w v b r) (e : w'.heap[v]? = w.heap[v]?) : Ver w' v b r := let ⟨d, s, m, n, t, h⟩ := h; ⟨d, s, m, n, t, e.trans h⟩
theorem Ver.world {w : World} {v b : Nat} {r : Option Addr} (h : Ver w v b r) : w.cell? ⟨v, 0, none⟩ = some (.pointer (some ⟨b, 0, none⟩)) := by obtain ⟨d, s, m, n, t, h⟩ := h; rw [cell_of_row _ _ _ _ _ _ h]; rfl
theorem Ver.root {w : World} {v b : Nat} {r : Option Addr} (h : Ver w v b r) : w.cell? ⟨v, 1, none⟩ = some (.pointer r) := by obtain ⟨d, s, m, n, t, h⟩ := h; rw [cell_of_row _ _ _ _ _ _ h]; rfl
theorem Ver.lt {w : World} {v b : Nat} {r : Option Addr} (h : Ver w v b r) : v < w.heap.size := block_lt_of_cell h.root
theorem Ver.step {w w' : World} {v b : Nat} {r : Option Addr} (h : Ver w v b r) (k : Below w.heap.size w w') : Ver w' v b r := h.same (k.block v h.lt)

theorem version27 (b : Nat) (r : Option Addr) (w : World) : Calls Tryz.prog 27 #[.pointer (some ⟨b, 0, none⟩), .pointer r] w fun e w' => e = .returned (.pointer (some ⟨w.heap.size, 0, none⟩)) ∧ VerNew w' w.heap.size b r ∧ Below w.heap.size w w' := by
  have HB := Lib.hid (fun o => (Below.refl w.heap.size w).alloc (Nat.le_refl _) o)
  have HN : Hid (∀ o, (w.alloc o).heap[w.heap.size]? = some o) := fun o => heap_alloc_new _ _
  go_enter Tryz.func27, Tryz.ntmps27
  go_wp2_with fail
  go_ret
  exact ⟨rfl, HN.out _, HB.out _⟩

theorem world30 {w : World} {v b : Nat} {r : Option Addr} (h : Ver w v b r) : Calls Tryz.prog 30 #[.pointer (some ⟨v, 0, none⟩)] w fun e w' => e = .returned (.pointer (some ⟨b, 0, none⟩)) ∧ w' = w := by
  have c0 := h.world
  clear h
  go_enter Tryz.func30, Tryz.ntmps30
  go_wp2_with fail
  go_ret
  exact ⟨rfl, rfl⟩
theorem root16 {w : World} {v b : Nat} {r : Option Addr} (h : Ver w v b r) : Calls Tryz.prog 16 #[.pointer (some ⟨v, 0, none⟩)] w fun e w' => e = .returned (.pointer r) ∧ w' = w := by
  have c0 := h.root
  clear h
  go_enter Tryz.func16, Tryz.ntmps16
  go_wp2_with fail
  go_ret
  exact ⟨rfl, rfl⟩
theorem ok44 {w : World} {v b : Nat} {r : Option Addr} (h : Ver w v b r) : Calls Tryz.prog 44 #[.pointer (some ⟨v, 0, none⟩)] w fun e w' => e = .returned (.bool true) ∧ w' = w := by
  have c0 := h.world
  clear h
  go_enter Tryz.func44, Tryz.ntmps44
  go_wp2_with fail
  go_ret
  exact ⟨rfl, rfl⟩

/-- a pointer to a block, or none -/
def pt : Option Nat → Option Addr
  | none => none
  | some n => some ⟨n, 0, none⟩

/-- a block of cells that may be written -/
def Cellsy (w : World) (n : Nat) : Prop := ∃ cs t, w.heap[n]? = some (.cells cs t (0, 0))

theorem info48 : ∃ j, Tryz.prog.info? 116 = some j ∧ j.size ≠ 0 := by
  have h : (Tryz.prog.info? 116).map (·.size) = some 5 := by kernel_rfl
  obtain ⟨j, h1, h2⟩ := Option.map_eq_some_iff.1 h
  exact ⟨j, h1, by omega⟩
theorem info28 : ∃ j, Tryz.prog.info? 106 = some j ∧ j.size ≠ 0 := by
  have h : (Tryz.prog.info? 106).map (·.size) = some 7 := by kernel_rfl
  obtain ⟨j, h1, h2⟩ := Option.map_eq_some_iff.1 h
  exact ⟨j, h1, by omega⟩

theorem eql48_same (a : Nat) (w : World) : (binOp .eql 48 (.pointer (some ⟨a, 0, none⟩)) (.pointer (some ⟨a, 0, none⟩))).run Tryz.prog w = .ok (.bool true) w := by
  obtain ⟨j, h1, _⟩ := info48
  exact run_eql_ptr_same w _ Tryz.underlying48 h1
theorem eql48_other {a b : Nat} {w : World} (hne : a ≠ b) (ha : Cellsy w a) (hb : Cellsy w b) : (binOp .eql 48 (.pointer (some ⟨a, 0, none⟩)) (.pointer (some ⟨b, 0, none⟩))).run Tryz.prog w = .ok (.bool false) w := by
  obtain ⟨j, h1, h2⟩ := info48
  obtain ⟨ca, ta, ha⟩ := ha
  obtain ⟨cb, tb, hb⟩ := hb
  exact run_eql_ptr_other w Tryz.underlying48 h1 h2 (fun e => hne (by cases e; rfl)) ha hb
theorem eql48_left (b : Addr) (w : World) : (binOp .eql 48 (.pointer none) (.pointer (some b))).run Tryz.prog w = .ok (.bool false) w := by
  have h : ∀ d : Nat, (Op.equalIn (d + 1) 48 (.pointer none) (.pointer (some b))).run Tryz.prog w = .ok false w := fun d => by
    simp [Op.equalIn, run_underlying Tryz.underlying48]
  simp only [binOp]
  simp [Op.equal, Op.maxDepth, h 9999]
theorem neq28_same (a : Nat) (w : World) : (binOp .neq 28 (.pointer (some ⟨a, 0, none⟩)) (.pointer (some ⟨a, 0, none⟩))).run Tryz.prog w = .ok (.bool false) w := by
  obtain ⟨j, hte, _⟩ := info28
  have h : ∀ d : Nat, (Op.equalIn (d + 1) 28 (.pointer (some ⟨a, 0, none⟩)) (.pointer (some ⟨a, 0, none⟩))).run Tryz.prog w = .ok true w := fun d => by
    simp [Op.equalIn, run_underlying Tryz.underlying28, sizeOf, typeInfo, hte, run_sameAddr_same]
  simp only [binOp]
  simp [Op.equal, Op.maxDepth, h 9999]
theorem neq28_other {a b : Nat} {w : World} (hne : a ≠ b) (ha : Cellsy w a) (hb : Cellsy w b) : (binOp .neq 28 (.pointer (some ⟨a, 0, none⟩)) (.pointer (some ⟨b, 0, none⟩))).run Tryz.prog w = .ok (.bool true) w := by
  obtain ⟨j, hte, hsz⟩ := info28
  obtain ⟨ca, ta, ha⟩ := ha
  obtain ⟨cb, tb, hb⟩ := hb
  have hn : (⟨a, 0, none⟩ : Addr) ≠ ⟨b, 0, none⟩ := fun e => hne (by cases e; rfl)
  have h : ∀ d : Nat, (Op.equalIn (d + 1) 28 (.pointer (some ⟨a, 0, none⟩)) (.pointer (some ⟨b, 0, none⟩))).run Tryz.prog w = .ok false w := fun d => by
    simp [Op.equalIn, run_underlying Tryz.underlying28, sizeOf, typeInfo, hte, hsz, run_sameAddr_other w hn ha hb]
  simp only [binOp]
  simp [Op.equal, Op.maxDepth, h 9999]

theorem Wld.cellsy {w : World} {b : Nat} {o : Int} (h : Wld w b o) : Cellsy w b := let ⟨x, h⟩ := h; ⟨_, _, h⟩
theorem Ver.cellsy {w : World} {v b : Nat} {r : Option Addr} (h : Ver w v b r) : Cellsy w v := let ⟨d, s, m, n, t, h⟩ := h; ⟨_, _, h⟩

theorem now45_same {w : World} {v b : Nat} {r : Option Nat} (h : Ver w v b (pt r)) : Calls Tryz.prog 45 #[.pointer (some ⟨v, 0, none⟩), .pointer (pt r), .int .i64 0] w fun e w' => e = .returned (.tuple #[.pointer (some ⟨v, 0, none⟩), .int .i64 0]) ∧ w' = w := by
  have c0 := h.root
  have c1 := h.world
  clear h
  cases r with
  | none =>
    simp only [pt] at c0 ⊢
    go_enter Tryz.func45, Tryz.ntmps45
    go_wp2_with fail
    go_ret2
    exact ⟨rfl, rfl⟩
  | some a =>
    simp only [pt] at c0 ⊢
    have he := eql48_same a
    go_enter Tryz.func45, Tryz.ntmps45
    go_wp2_with fail
    go_ret2
    exact ⟨rfl, rfl⟩

/-- another tree is another version's -/
theorem now45_new {w : World} {v b : Nat} {r n : Option Nat} (h : Ver w v b (pt r)) (hne : n ≠ r) (hn : ∀ a, n = some a → Cellsy w a) (hr : ∀ a, r = some a → Cellsy w a) :
    Calls Tryz.prog 45 #[.pointer (some ⟨v, 0, none⟩), .pointer (pt n), .int .i64 0] w fun e w' => e = .returned (.tuple #[.pointer (some ⟨w.heap.size, 0, none⟩), .int .i64 0]) ∧ VerNew w' w.heap.size b (pt n) ∧ Below w.heap.size w w' := by
  have c0 := h.root
  have c1 := h.world
  have HV := Lib.hid (version27 b (pt n) w)
  clear h
  cases n with
  | none =>
    cases r with
    | none => exact absurd rfl hne
    | some a =>
      simp only [pt] at c0 HV ⊢
      have he := eql48_left ⟨a, 0, none⟩ w
      clear hn hr hne
      go_enter Tryz.func45, Tryz.ntmps45
      go_wp2_with fail
      refine HV.out.mono ?_; rintro e w' ⟨rfl, h1, h2⟩
      have H1 := Lib.hid h1
      have H2 := Lib.hid h2
      clear h1 h2
      go_wp2_with fail
      go_ret2
      exact ⟨rfl, H1.out, H2.out⟩
  | some n =>
    cases r with
    | none =>
      simp only [pt] at c0 HV ⊢
      clear hn hr hne
      go_enter Tryz.func45, Tryz.ntmps45
      go_wp2_with fail
      refine HV.out.mono ?_; rintro e w' ⟨rfl, h1, h2⟩
      have H1 := Lib.hid h1
      have H2 := Lib.hid h2
      clear h1 h2
      go_wp2_with fail
      go_ret2
      exact ⟨rfl, H1.out, H2.out⟩
    | some a =>
      simp only [pt] at c0 HV ⊢
      have he := eql48_other (a := n) (b := a) (w := w) (fun e => hne (by rw [e])) (hn _ rfl) (hr _ rfl)
      clear hn hr hne
      go_enter Tryz.func45, Tryz.ntmps45
      go_wp2_with fail
      refine HV.out.mono ?_; rintro e w' ⟨rfl, h1, h2⟩
      have H1 := Lib.hid h1
      have H2 := Lib.hid h2
      clear h1 h2
      go_wp2_with fail
      go_ret2
      exact ⟨rfl, H1.out, H2.out⟩
end Go.Proofs.YtbihlmkjoplkoaaGreatDoor
