/-
  Contracts of the seat's functions on two lists of bytes: order, common beginning, sameness, beginnings.
-/
import Derived.Test.YtbldahimdkifiaaRows
import Derived.Test.YtbldahimdkifiaaPlain
import Derived.Test.YtbldahimdkifiaaShelf
import Derived.WalkKit
import Derived.WalkLawsBesides
import Derived.Deep.QuietTactic
import Derived.BigQuiet
import Derived.Below
import Derived.Lib.Hide
import Derived.Lib.BytesEntry
namespace Go.Proofs.Ytbldahimdkifiaa
open Go.RowKit

/-- what is known of a slice of bytes that stands somewhere -/
structure Bs (w : World) (p : Option Addr) (n c : Nat) (xs : List Int) : Prop where
  len : xs.length = n
  cap : n ≤ c
  big : n ≤ 140737488351232
  byte : ∀ x ∈ xs, 0 ≤ x ∧ x < 256
  cells : Lib.BytesIn w p n xs

theorem Bs.get {w : World} {p : Option Addr} {n c : Nat} {xs : List Int} (h : Bs w p n c xs) (i : Nat) : 0 ≤ xs.getD i 0 ∧ xs.getD i 0 < 256 := by
  by_cases hi : i < xs.length
  · rw [List.getD_eq_getElem?_getD, List.getElem?_eq_getElem hi]; exact h.byte _ (List.getElem_mem hi)
  · rw [List.getD_eq_getElem?_getD, List.getElem?_eq_none (by omega)]; simp

theorem ret_int {k : IntKind} {a b : Int} (h : a = b) : Ending.returned (.int k a) = .returned (.int k b) := by rw [h]

set_option maxHeartbeats 400000 in
theorem common19 (p q : Option Addr) (n c m d : Nat) (xs ys : List Int) (w : World) (h1 : Bs w p n c xs) (h2 : Bs w q m d ys) :
    Calls Try.prog 19 #[.slice p n c, .slice q m d] w fun e w' => e = .returned (.int .i64 (com xs ys)) ∧ ∃ k, w' = w.drewN k := by
  have hn := h1.big
  have hm := h2.big
  have H1 := Lib.hid h1
  have H2 := Lib.hid h2
  clear h1 h2
  go_enter Try.func19, Try.ntmps19
  go_wp2
  go_loopw [11] (fun i wr => ∃ k : Nat, i = .int .i64 k ∧ k ≤ n ∧ k ≤ m ∧ Hid (∀ j, j < k → xs.getD j 0 = ys.getD j 0) ∧ ∃ z, wr = w.drewN z) (fun i _ => n - (intOf i).toNat)
  case atStart => exact ⟨0, rfl, by omega, by omega, fun j hj => by omega, 0, rfl⟩
  case round =>
    obtain ⟨k, rfl, hk1, hk2, hs, z, rfl⟩ := hrel
    by_cases hlt : k < n ∧ k < m
    · obtain ⟨hl1, hl2⟩ := hlt
      obtain ⟨b, o, rfl, hc1⟩ := H1.out.cells.at (by omega)
      obtain ⟨b', o', rfl, hc2⟩ := H2.out.cells.at (by omega)
      have g1 := hc1 k hl1
      have g2 := hc2 k hl2
      clear hc1 hc2
      obtain ⟨x, hx⟩ : ∃ x, xs.getD k 0 = x := ⟨_, rfl⟩
      obtain ⟨y, hy⟩ : ∃ y, ys.getD k 0 = y := ⟨_, rfl⟩
      rw [hx] at g1
      rw [hy] at g2
      have HX := Lib.hid hx
      have HY := Lib.hid hy
      clear hx hy
      have hmin : (k : Int) < min (n : Int) m := by omega
      by_cases e : x = y
      · have e1 : (!(x == y)) = false := by simp [e]
        go_wp2
        go_quiet (fail)
        go_wp2
        go_roundw
        case rel =>
          refine ⟨k + 1, by go_num, by omega, by omega, ?_, _, rfl⟩
          intro j hj
          by_cases hjk : j = k
          · subst hjk; rw [HX.out, HY.out, e]
          · exact hs.out j (by omega)
        case measure => simp [intOf]; omega
      · have e1 : (!(x == y)) = true := by simp [e]
        go_wp2
        go_quiet (fail)
        go_wp2
        go_ret
        exact ⟨ret_int (by rw [com_eq k xs ys (by rw [H1.out.len]; omega) (by rw [H2.out.len]; omega) hs.out (fun _ _ => by rw [HX.out, HY.out]; exact e)]), _, World.drewN_drewN _ _ _⟩
    · go_wp2
      go_ret
      have hk : min (n : Int) m = k := by omega
      exact ⟨ret_int (by rw [com_eq k xs ys (by rw [H1.out.len]; omega) (by rw [H2.out.len]; omega) hs.out (fun h1 h2 => by rw [H1.out.len] at h1; rw [H2.out.len] at h2; omega)]; exact hk), _, rfl⟩

theorem Bs.drewN {w : World} {p : Option Addr} {n c : Nat} {xs : List Int} (h : Bs w p n c xs) (k : Nat) : Bs (w.drewN k) p n c xs :=
  ⟨h.len, h.cap, h.big, h.byte, h.cells⟩

set_option maxHeartbeats 400000 in
theorem common20 (p q : Option Addr) (n c m d : Nat) (xs ys : List Int) (w : World) (h1 : Bs w p n c xs) (h2 : Bs w q m d ys) :
    Calls Try.prog 20 #[.slice p n c, .slice q m d] w fun e w' => e = .returned (.int .i64 (com xs ys)) ∧ ∃ k, w' = w.drewN k := by
  have hn := h1.big
  have hm := h2.big
  have H1 := Lib.hid h1
  have H2 := Lib.hid h2
  clear h1 h2
  go_enter Try.func20, Try.ntmps20
  go_wp2
  go_loopw [5] (fun i wr => ∃ k : Nat, i = .int .i64 k ∧ k ≤ n ∧ k ≤ m ∧ Hid (∀ j, j < k → xs.getD j 0 = ys.getD j 0) ∧ ∃ z, wr = w.drewN z) (fun i _ => n - (intOf i).toNat)
  case atStart => exact ⟨0, rfl, by omega, by omega, fun j hj => by omega, 0, rfl⟩
  case round =>
    obtain ⟨k, rfl, hk1, hk2, hs, z, rfl⟩ := hrel
    by_cases hl1 : k < n
    · have d1 : decide (k < n) = true := by simp [hl1]
      by_cases hl2 : k < m
      · have d2 : decide (k < m) = true := by simp [hl2]
        obtain ⟨b, o, rfl, hc1⟩ := H1.out.cells.at (by omega)
        obtain ⟨b', o', rfl, hc2⟩ := H2.out.cells.at (by omega)
        have g1 := hc1 k hl1
        have g2 := hc2 k hl2
        clear hc1 hc2
        obtain ⟨x, hx⟩ : ∃ x, xs.getD k 0 = x := ⟨_, rfl⟩
        obtain ⟨y, hy⟩ : ∃ y, ys.getD k 0 = y := ⟨_, rfl⟩
        rw [hx] at g1
        rw [hy] at g2
        have HX := Lib.hid hx
        have HY := Lib.hid hy
        clear hx hy
        by_cases e : x = y
        · have e1 : (x == y) = true := by simp [e]
          go_wp2
          go_quiet (fail)
          go_wp2
          go_roundw
          case rel =>
            refine ⟨k + 1, by go_num, by omega, by omega, ?_, _, rfl⟩
            intro j hj
            by_cases hjk : j = k
            · subst hjk; rw [HX.out, HY.out, e]
            · exact hs.out j (by omega)
          case measure => simp [intOf]; omega
        · have e1 : (x == y) = false := by simp [e]
          go_wp2
          go_quiet (fail)
          go_wp2
          go_ret
          exact ⟨ret_int (by rw [com_eq k xs ys (by rw [H1.out.len]; omega) (by rw [H2.out.len]; omega) hs.out (fun _ _ => by rw [HX.out, HY.out]; exact e)]), _, World.drewN_drewN _ _ _⟩
      · have d2 : decide (k < m) = false := by simp [hl2]
        go_wp2
        go_quiet (fail)
        go_wp2
        go_ret
        exact ⟨ret_int (by rw [com_eq k xs ys (by rw [H1.out.len]; omega) (by rw [H2.out.len]; omega) hs.out (fun h1 h2 => by rw [H1.out.len] at h1; rw [H2.out.len] at h2; omega)]), _, World.drewN_drewN _ _ _⟩
    · have d1 : decide (k < n) = false := by simp [hl1]
      go_wp2
      go_quiet (fail)
      go_wp2
      go_ret
      exact ⟨ret_int (by rw [com_eq k xs ys (by rw [H1.out.len]; omega) (by rw [H2.out.len]; omega) hs.out (fun h1 h2 => by rw [H1.out.len] at h1; rw [H2.out.len] at h2; omega)]), _, World.drewN_drewN _ _ _⟩

theorem run_bytesOf {w : World} {p : Option Addr} {n c : Nat} {xs : List Int} (h : Bs w p n c xs) :
    (Extern.Bytes.bytesOf (.slice p n c)).run Try.prog w = .ok (strOfNums xs) w := by
  cases p with
  | none =>
    have : xs = [] := by
      by_cases hn : 0 < n
      · obtain ⟨_, _, e, _⟩ := h.cells.at hn; cases e
      · exact List.length_eq_zero_iff.1 (by rw [h.len]; omega)
    subst this
    rfl
  | some a =>
    have hl := Lib.run_loadBytesX (P := Try.prog) w xs a .empty (fun j x hj => by
      have hjl : j < xs.length := (List.getElem?_eq_some_iff.1 hj).1
      obtain ⟨b, o, e, hc⟩ := h.cells.at (by rw [← h.len]; omega)
      cases e
      have e : (⟨b, o, none⟩ : Addr).add j = ⟨b, o + j, none⟩ := by unfold Addr.add; split <;> simp_all
      rw [e, hc j (by rw [← h.len]; omega), List.getD_eq_getElem?_getD, hj]
      rfl)
    rw [h.len] at hl
    show (Extern.Bytes.loadBytes a n .empty).run Try.prog w = _
    rw [hl]
    congr 1
    simp [strOfNums, Lib.bytesOf]

theorem run_compare {w : World} {p q : Option Addr} {n c m d : Nat} {xs ys : List Int} (h1 : Bs w p n c xs) (h2 : Bs w q m d ys) :
    (Extern.BytealgCompare.compare #[.slice p n c, .slice q m d]).run Try.prog w = .ok (.int .i64 (cmpL xs ys)) w := by
  change Sem.run Try.prog (do pure (goInt (Extern.BytealgCompare.cmp (← Extern.Bytes.bytesOf (.slice p n c)) (← Extern.Bytes.bytesOf (.slice q m d))))) w = _
  simp only [Sem.run_bind, run_bytesOf h1, run_bytesOf h2, Sem.run_pure, Result.andThen]
  rw [Lib.cmp_eq]
  have e1 : (strOfNums xs).data.toList = Lib.bytesOf xs := by simp [strOfNums, Lib.bytesOf]
  have e2 : (strOfNums ys).data.toList = Lib.bytesOf ys := by simp [strOfNums, Lib.bytesOf]
  rw [e1, e2, compareBytes_cmpL xs ys h1.byte h2.byte]
  rfl

set_option maxHeartbeats 400000 in
theorem bcompare59 (p q : Option Addr) (n c m d : Nat) (xs ys : List Int) (w : World) (h1 : Bs w p n c xs) (h2 : Bs w q m d ys) :
    Calls Try.prog 59 #[.slice p n c, .slice q m d] w fun e w' => e = .returned (.int .i64 (cmpL xs ys)) ∧ w' = w := by
  have hcmp : (callFunc 72 #[.slice p n c, .slice q m d]).run Try.prog w = .ok (.value (.int .i64 (cmpL xs ys))) w := by
    rw [run_callFunc_extern Try.func72 (by kernel_rfl) (by kernel_rfl) (by kernel_rfl) (e := Extern.BytealgCompare.compare) (by kernel_rfl), run_compare h1 h2]
    rfl
  clear h1 h2
  generalize cmpL xs ys = r at *
  go_enter Try.func59, Try.ntmps59
  go_wp2
  go_ret
  exact ⟨rfl, rfl⟩

set_option maxHeartbeats 400000 in
theorem cmp15 (p q : Option Addr) (n c m d : Nat) (xs ys : List Int) (w : World) (h1 : Bs w p n c xs) (h2 : Bs w q m d ys) :
    Calls Try.prog 15 #[.slice p n c, .slice q m d] w fun e w' => e = .returned (.int .i64 (cmpL xs ys)) ∧ w' = w := by
  have H := Lib.hid (bcompare59 p q n c m d xs ys w h1 h2)
  clear h1 h2
  go_enter Try.func15, Try.ntmps15
  go_wp2_with (go_at_call 59; refine H.out.mono ?_; rintro e w' ⟨rfl, rfl⟩)
  go_ret
  exact ⟨rfl, rfl⟩

set_option maxHeartbeats 400000 in
theorem same17 (p q : Option Addr) (n c m d : Nat) (xs ys : List Int) (w : World) (h1 : Bs w p n c xs) (h2 : Bs w q m d ys) :
    Calls Try.prog 17 #[.slice p n c, .slice q m d] w fun e w' => e = .returned (.bool (cmpL xs ys == 0)) ∧ w' = w := by
  have h := Try.bytes_Equal_all p q n c m d xs ys w h1.len h2.len h1.cells h2.cells
  rw [beq_bytesOf xs ys h1.byte h2.byte] at h
  have H := Lib.hid h
  clear h h1 h2
  generalize (cmpL xs ys == 0) = r at *
  go_enter Try.func17, Try.ntmps17
  go_wp2_with (go_at_call 60; refine H.out.mono ?_; rintro e w' ⟨rfl, rfl⟩)
  go_ret
  exact ⟨rfl, rfl⟩

set_option maxHeartbeats 400000 in
theorem begins21 (p q : Option Addr) (n c m d : Nat) (xs ys : List Int) (w : World) (h1 : Bs w p n c xs) (h2 : Bs w q m d ys) :
    Calls Try.prog 21 #[.slice p n c, .slice q m d] w fun e w' => e = .returned (.bool (decide (com xs ys = m))) ∧ w' = w := by
  have h := Try.bytes_HasPrefix_all p q n c m d xs ys w h1.len h2.len h1.cap h1.cells h2.cells
  rw [hasPrefix_com xs ys h1.byte h2.byte, h2.len] at h
  have H := Lib.hid h
  clear h h1 h2
  generalize decide (com xs ys = m) = r at *
  go_enter Try.func21, Try.ntmps21
  go_wp2_with (go_at_call 61; refine H.out.mono ?_; rintro e w' ⟨rfl, rfl⟩)
  go_ret
  exact ⟨rfl, rfl⟩

theorem com_n {w : World} {p q : Option Addr} {n c m d : Nat} {xs ys : List Int} (h1 : Bs w p n c xs) (h2 : Bs w q m d ys) : com xs ys ≤ n ∧ com xs ys ≤ m := by
  have := com_le_left xs ys
  have := com_le_right xs ys
  rw [h1.len] at *; rw [h2.len] at *
  omega

set_option maxHeartbeats 400000 in
theorem cmp16 (p q : Option Addr) (n c m d : Nat) (xs ys : List Int) (w : World) (h1 : Bs w p n c xs) (h2 : Bs w q m d ys) :
    Calls Try.prog 16 #[.slice p n c, .slice q m d] w fun e w' => e = .returned (.int .i64 (cmpL xs ys)) ∧ ∃ k, w' = w.drewN k := by
  have H := Lib.hid (common20 p q n c m d xs ys w h1 h2)
  have hc := cmpL_com xs ys
  have hd := com_diff xs ys
  have hr := com_n h1 h2
  have hn := h1.big
  have hm := h2.big
  rw [h1.len, h2.len] at hc hd
  have H1 := Lib.hid h1
  have H2 := Lib.hid h2
  clear h1 h2
  generalize com xs ys = k at *
  obtain ⟨hk1, hk2⟩ := hr
  have HC := Lib.hid hc
  have HD := Lib.hid hd
  clear hc hd
  by_cases e1 : k = n
  · have t1 : ((k : Int) == n) = true := by simp [e1]
    by_cases e2 : k = m
    · have t2 : ((k : Int) == m) = true := by simp [e2]
      have E1 := Lib.hid e1
      have E2 := Lib.hid e2
      clear e1 e2
      go_enter Try.func16, Try.ntmps16
      go_wp2_with (go_at_call 20; refine H.out.mono ?_; rintro e w' ⟨rfl, z, rfl⟩)
      go_ret
      exact ⟨ret_int (by rw [HC.out, if_pos ⟨E1.out, E2.out⟩]), z, rfl⟩
    · have t2 : ((k : Int) == m) = false := by simp; omega
      have E1 := Lib.hid e1
      have E2 := Lib.hid e2
      clear e1 e2
      go_enter Try.func16, Try.ntmps16
      go_wp2_with (go_at_call 20; refine H.out.mono ?_; rintro e w' ⟨rfl, z, rfl⟩)
      go_ret
      exact ⟨ret_int (by rw [HC.out, if_neg (fun h => E2.out h.2), if_pos E1.out]), z, rfl⟩
  · have t1 : ((k : Int) == n) = false := by simp; omega
    by_cases e2 : k = m
    · have t2 : ((k : Int) == m) = true := by simp [e2]
      have E1 := Lib.hid e1
      have E2 := Lib.hid e2
      clear e1 e2
      go_enter Try.func16, Try.ntmps16
      go_wp2_with (go_at_call 20; refine H.out.mono ?_; rintro e w' ⟨rfl, z, rfl⟩)
      go_ret
      exact ⟨ret_int (by rw [HC.out, if_neg (fun h => E1.out h.1), if_neg E1.out, if_pos E2.out]), z, rfl⟩
    · have t2 : ((k : Int) == m) = false := by simp; omega
      have hl1 : k < n := by omega
      have hl2 : k < m := by omega
      obtain ⟨b, o, rfl, hc1⟩ := H1.out.cells.at (by omega)
      obtain ⟨b', o', rfl, hc2⟩ := H2.out.cells.at (by omega)
      have g1 := hc1 k hl1
      have g2 := hc2 k hl2
      clear hc1 hc2
      obtain ⟨x, hx⟩ : ∃ x, xs.getD k 0 = x := ⟨_, rfl⟩
      obtain ⟨y, hy⟩ : ∃ y, ys.getD k 0 = y := ⟨_, rfl⟩
      rw [hx] at g1
      rw [hy] at g2
      have HX := Lib.hid hx
      have HY := Lib.hid hy
      clear hx hy
      have E1 := Lib.hid e1
      have E2 := Lib.hid e2
      clear e1 e2
      by_cases e : x < y
      · have t3 : decide (x < y) = true := by simp [e]
        have E := Lib.hid e
        clear e
        go_enter Try.func16, Try.ntmps16
        go_wp2_with (go_at_call 20; refine H.out.mono ?_; rintro e w' ⟨rfl, z, rfl⟩)
        go_quiet (fail)
        go_wp2
        go_ret
        exact ⟨ret_int (by rw [HC.out, if_neg (fun h => E1.out h.1), if_neg E1.out, if_neg E2.out, HX.out, HY.out, if_pos E.out]), _, World.drewN_drewN _ _ _⟩
      · have t3 : decide (x < y) = false := by simp [e]
        have E := Lib.hid e
        clear e
        go_enter Try.func16, Try.ntmps16
        go_wp2_with (go_at_call 20; refine H.out.mono ?_; rintro e w' ⟨rfl, z, rfl⟩)
        go_quiet (fail)
        go_wp2
        go_ret
        exact ⟨ret_int (by rw [HC.out, if_neg (fun h => E1.out h.1), if_neg E1.out, if_neg E2.out, HX.out, HY.out, if_neg (by have := E.out; omega)]), _, World.drewN_drewN _ _ _⟩

set_option maxHeartbeats 400000 in
theorem same18 (p q : Option Addr) (n c m d : Nat) (xs ys : List Int) (w : World) (h1 : Bs w p n c xs) (h2 : Bs w q m d ys) :
    Calls Try.prog 18 #[.slice p n c, .slice q m d] w fun e w' => e = .returned (.bool (cmpL xs ys == 0)) ∧ ∃ k, w' = w.drewN k := by
  have H := Lib.hid (cmp16 p q n c m d xs ys w h1 h2)
  clear h1 h2
  generalize cmpL xs ys = r at *
  go_enter Try.func18, Try.ntmps18
  go_wp2_with (go_at_call 16; refine H.out.mono ?_; rintro e w' ⟨rfl, z, rfl⟩)
  go_ret
  exact ⟨rfl, z, rfl⟩

theorem decide_cast (k m : Nat) : ((k : Int) == (m : Int)) = decide (k = m) := by
  rw [Bool.eq_iff_iff]; simp; omega

set_option maxHeartbeats 400000 in
theorem begins22 (p q : Option Addr) (n c m d : Nat) (xs ys : List Int) (w : World) (h1 : Bs w p n c xs) (h2 : Bs w q m d ys) :
    Calls Try.prog 22 #[.slice p n c, .slice q m d] w fun e w' => e = .returned (.bool (decide (com xs ys = m))) ∧ ∃ k, w' = w.drewN k := by
  have H := Lib.hid (common20 p q n c m d xs ys w h1 h2)
  clear h1 h2
  generalize com xs ys = r at *
  have ht := decide_cast r m
  generalize decide (r = m) = t at *
  go_enter Try.func22, Try.ntmps22
  go_wp2_with (go_at_call 20; refine H.out.mono ?_; rintro e w' ⟨rfl, z, rfl⟩)
  go_ret
  exact ⟨rfl, z, rfl⟩

/-- whether k stands between from and to -/
def withinB (k from' to' : List Int) (op : Bool) : Bool := decide (0 ≤ cmpL k from') && (op || decide (cmpL k to' < 0))

set_option maxHeartbeats 400000 in
theorem within25 (p q r : Option Addr) (n c m d l e : Nat) (xs ys zs : List Int) (op : Bool) (w : World) (h1 : Bs w p n c xs) (h2 : Bs w q m d ys) (h3 : Bs w r l e zs) :
    Calls Try.prog 25 #[.slice p n c, .slice q m d, .slice r l e, .bool op] w fun e w' => e = .returned (.bool (withinB xs ys zs op)) ∧ w' = w := by
  have H1 := Lib.hid (cmp15 p q n c m d xs ys w h1 h2)
  have H2 := Lib.hid (cmp15 p r n c l e xs zs w h1 h3)
  clear h1 h2 h3
  unfold withinB
  generalize cmpL xs ys = a at *
  generalize cmpL xs zs = b at *
  by_cases e1 : 0 ≤ a
  · have t1 : decide (0 ≤ a) = true := by simp [e1]
    cases op with
    | true =>
      go_enter Try.func25, Try.ntmps25
      go_wp2_with fail
      refine H1.out.mono ?_; rintro e w' ⟨rfl, rfl⟩
      go_wp2_with fail
      go_ret
      exact ⟨by simp [e1], rfl⟩
    | false =>
      go_enter Try.func25, Try.ntmps25
      go_wp2_with fail
      refine H1.out.mono ?_; rintro e w' ⟨rfl, rfl⟩
      go_wp2_with fail
      refine H2.out.mono ?_; rintro e w' ⟨rfl, rfl⟩
      go_wp2_with fail
      go_ret
      exact ⟨by simp [e1], rfl⟩
  · have t1 : decide (0 ≤ a) = false := by simp [e1]
    go_enter Try.func25, Try.ntmps25
    go_wp2_with fail
    refine H1.out.mono ?_; rintro e w' ⟨rfl, rfl⟩
    go_wp2_with fail
    go_ret
    exact ⟨by rw [t1, Bool.false_and]; rfl, rfl⟩

set_option maxHeartbeats 400000 in
theorem within26 (p q r : Option Addr) (n c m d l e : Nat) (xs ys zs : List Int) (op : Bool) (w : World) (h1 : Bs w p n c xs) (h2 : Bs w q m d ys) (h3 : Bs w r l e zs) :
    Calls Try.prog 26 #[.slice p n c, .slice q m d, .slice r l e, .bool op] w fun e w' => e = .returned (.bool (withinB xs ys zs op)) ∧ ∃ k, w' = w.drewN k := by
  have H1 := Lib.hid (cmp16 p q n c m d xs ys w h1 h2)
  have H2 : Hid (∀ k, Calls Try.prog 16 #[.slice p n c, .slice r l e] (w.drewN k) fun e w' => e = .returned (.int .i64 (cmpL xs zs)) ∧ ∃ k', w' = (w.drewN k).drewN k') :=
    Lib.hid (fun k => cmp16 p r n c l e xs zs (w.drewN k) (h1.drewN k) (h3.drewN k))
  clear h1 h2 h3
  unfold withinB
  generalize cmpL xs ys = a at *
  generalize cmpL xs zs = b at *
  by_cases e1 : 0 ≤ a
  · have t1 : decide (0 ≤ a) = true := by simp [e1]
    cases op with
    | true =>
      go_enter Try.func26, Try.ntmps26
      go_wp2_with fail
      refine H1.out.mono ?_; rintro e w' ⟨rfl, z, rfl⟩
      go_wp2_with fail
      go_ret
      exact ⟨by simp [e1], z, rfl⟩
    | false =>
      go_enter Try.func26, Try.ntmps26
      go_wp2_with fail
      refine H1.out.mono ?_; rintro e w' ⟨rfl, z, rfl⟩
      go_wp2_with fail
      refine (H2.out z).mono ?_; rintro e w' ⟨rfl, z2, rfl⟩
      go_wp2_with fail
      go_ret
      exact ⟨by simp [e1], _, rfl⟩
  · have t1 : decide (0 ≤ a) = false := by simp [e1]
    go_enter Try.func26, Try.ntmps26
    go_wp2_with fail
    refine H1.out.mono ?_; rintro e w' ⟨rfl, z, rfl⟩
    go_wp2_with fail
    go_ret
    exact ⟨by rw [t1, Bool.false_and]; rfl, z, rfl⟩

end Go.Proofs.Ytbldahimdkifiaa
