/-
  The small row: what Len, Room, Get, Next, Prev tell.
-/
import Derived.Test.YthohpeinmkdfeaaSmall2
import Derived.Test.YthohpeinmkdfeaaLaw10p
namespace Go.Proofs.Ythohpeinmkdfeaa
open Go.RowKit
set_option linter.unusedVariables false

/-- what is held, and where -/
structure SmP (room n : Nat) (B : Nat → Nat) (X : Nat → Int) (f : Nat → Option Int) : Prop where
  srt : Srt n B
  room1 : 1 ≤ room
  room16 : room ≤ 16
  le : n ≤ room
  hit : ∀ k, k < n → f (B k) = some (X k)
  miss : ∀ b, b < 256 → (∀ k, k < n → B k ≠ b) → f b = none
  cnt : n = cntF f

theorem AtP.no {n b i : Nat} {B : Nat → Nat} (hs : Srt n B) (h : AtP n B b i false) : ∀ k, k < n → B k ≠ b := fun k hk e => by
  have h0 : ¬ (i < n ∧ B i = b) := fun hh => by have := h.is.2 hh; cases this
  by_cases hki : k < i
  · have := h.low k hki; omega
  · have h1 := hs.le i k (by omega) hk
    have h2 := h.high i (Nat.le_refl _) (by omega)
    exact h0 ⟨by omega, by omega⟩

theorem SmP.get {room n b i : Nat} {B : Nat → Nat} {X : Nat → Int} {f : Nat → Option Int} {is : Bool} (h : SmP room n B X f) (hb : b < 256) (ha : AtP n B b i is) : (is = true ∧ i < n ∧ f b = some (X i)) ∨ (is = false ∧ f b = none) := by
  cases is with
  | true =>
    obtain ⟨h1, h2⟩ := ha.is.1 rfl
    exact Or.inl ⟨rfl, h1, by rw [← h2]; exact h.hit i h1⟩
  | false => exact Or.inr ⟨rfl, h.miss b hb (ha.no h.srt)⟩

/-- what stands at a place -/
def atT (n : Nat) (B : Nat → Nat) (X : Nat → Int) (i : Int) : Tri := if 0 ≤ i ∧ i < n then ⟨B i.toNat, X i.toNat, true⟩ else ⟨0, 0, false⟩

theorem SmP.next {room n s i : Nat} {B : Nat → Nat} {X : Nat → Int} {f : Nat → Option Int} {is : Bool} (h : SmP room n B X f) (ha : AtP n B s i is) : NextR f s (atT n B X i) := by
  unfold atT
  by_cases hi : i < n
  · rw [if_pos ⟨by omega, by omega⟩]
    refine Or.inl ⟨B i, X i, h.srt.small i hi, by have := ha.high i (Nat.le_refl _) hi; omega, h.hit i hi, fun c h1 h2 => ?_, by simp⟩
    have := h.srt.small i hi
    refine h.miss c (by omega) (fun k hk e => ?_)
    by_cases hk2 : k < i
    · have := ha.low k hk2; omega
    · have := h.srt.le i k (by omega) hk; omega
  · rw [if_neg (by omega)]
    refine Or.inr ⟨fun c h1 h2 => ?_, rfl⟩
    refine h.miss c h1 (fun k hk e => ?_)
    have := ha.low k (by omega); omega

theorem SmP.prev {room n s i : Nat} {B : Nat → Nat} {X : Nat → Int} {f : Nat → Option Int} {is : Bool} (h : SmP room n B X f) (hs : s < 256) (ha : AtP n B s i is) : PrevR f s (atT n B X (if is then (i : Int) else (i : Int) - 1)) := by
  cases is with
  | true =>
    obtain ⟨h1, h2⟩ := ha.is.1 rfl
    unfold atT
    simp only [if_true]
    rw [if_pos ⟨by omega, by omega⟩]
    exact Or.inl ⟨B i, X i, by omega, by omega, h.hit i h1, fun c h3 h4 h5 => by omega, by simp⟩
  | false =>
    have hno := ha.no h.srt
    unfold atT
    by_cases hi : 0 < i
    · have hle := ha.le
      have hlo := ha.low (i - 1) (by omega)
      have hsm := h.srt.small (i - 1) (by omega)
      rw [if_pos (by simp; omega)]
      refine Or.inl ⟨B (i - 1), X (i - 1), hsm, by omega, h.hit (i - 1) (by omega), fun c h3 h4 h5 => ?_, by simp⟩
      refine h.miss c h4 (fun k hk e => ?_)
      by_cases hk2 : k < i
      · have := h.srt.le k (i - 1) (by omega) (by omega); omega
      · have := ha.high k (by omega) hk
        have := hno k hk
        omega
    · rw [if_neg (by simp; omega)]
      refine Or.inr ⟨fun c h1 h2 => h.miss c h1 (fun k hk e => ?_), rfl⟩
      have := ha.high k (by omega) hk
      have := hno k hk
      omega

theorem len50 (g n : Nat) (room : Nat) (B : Nat → Nat) (X : Nat → Int) (w : World) (h : Sm w g room n B X) (h0 : 0 < room) : Calls Try.prog 50 #[.pointer (some ⟨g, 0, none⟩)] w fun e w' => e = .returned (.int .i64 n) ∧ w' = w := by
  have H := Lib.hid (ok66 g room w h.vRoom (by omega))
  have c1 := h.vN
  have hnot : ∀ (x : Bool) (w : World), (Op.unary .not (.bool x)).run Try.prog w = .ok (.bool (!x)) w := fun _ _ => rfl
  clear h
  go_enter Try.func50, Try.ntmps50
  go_wp2_with fail
  refine H.out.mono ?_; rintro e w' ⟨rfl, rfl⟩
  go_wp2_with fail
  go_ret
  exact ⟨rfl, rfl⟩
theorem room51 (g n : Nat) (room : Nat) (B : Nat → Nat) (X : Nat → Int) (w : World) (h : Sm w g room n B X) (h0 : 0 < room) : Calls Try.prog 51 #[.pointer (some ⟨g, 0, none⟩)] w fun e w' => e = .returned (.int .i64 room) ∧ w' = w := by
  have H := Lib.hid (ok66 g room w h.vRoom (by omega))
  have c1 := h.vRoom
  have hnot : ∀ (x : Bool) (w : World), (Op.unary .not (.bool x)).run Try.prog w = .ok (.bool (!x)) w := fun _ _ => rfl
  clear h
  go_enter Try.func51, Try.ntmps51
  go_wp2_with fail
  refine H.out.mono ?_; rintro e w' ⟨rfl, rfl⟩
  go_wp2_with fail
  go_ret
  exact ⟨rfl, rfl⟩

theorem len50_no (v : Value) (w : World) (h : NoSm w v) : Calls Try.prog 50 #[v] w fun e w' => e = .returned (.int .i64 0) ∧ w' = w := by
  have H := Lib.hid (ok66_no v w h)
  have hnot : ∀ (x : Bool) (w : World), (Op.unary .not (.bool x)).run Try.prog w = .ok (.bool (!x)) w := fun _ _ => rfl
  clear h
  go_enter Try.func50, Try.ntmps50
  go_wp2_with fail
  refine H.out.mono ?_; rintro e w' ⟨rfl, rfl⟩
  go_wp2_with fail
  go_ret
  exact ⟨rfl, rfl⟩
theorem room51_no (v : Value) (w : World) (h : NoSm w v) : Calls Try.prog 51 #[v] w fun e w' => e = .returned (.int .i64 0) ∧ w' = w := by
  have H := Lib.hid (ok66_no v w h)
  have hnot : ∀ (x : Bool) (w : World), (Op.unary .not (.bool x)).run Try.prog w = .ok (.bool (!x)) w := fun _ _ => rfl
  clear h
  go_enter Try.func51, Try.ntmps51
  go_wp2_with fail
  refine H.out.mono ?_; rintro e w' ⟨rfl, rfl⟩
  go_wp2_with fail
  go_ret
  exact ⟨rfl, rfl⟩
theorem get48_no (v : Value) (b : Int) (w : World) (h : NoSm w v) : Calls Try.prog 48 #[v, .int .u8 b] w fun e w' => e = .returned (.tuple #[.int .i64 0, .bool false]) ∧ w' = w := by
  have H := Lib.hid (ok66_no v w h)
  have hnot : ∀ (x : Bool) (w : World), (Op.unary .not (.bool x)).run Try.prog w = .ok (.bool (!x)) w := fun _ _ => rfl
  clear h
  go_enter Try.func48, Try.ntmps48
  go_wp2_with fail
  refine H.out.mono ?_; rintro e w' ⟨rfl, rfl⟩
  go_wp2_with fail
  go_ret2
  exact ⟨rfl, rfl⟩
theorem next47_no (v : Value) (from' : Int) (w : World) (h : NoSm w v) : Calls Try.prog 47 #[v, .int .i64 from'] w fun e w' => e = .returned (tri ⟨0, 0, false⟩) ∧ w' = w := by
  have H := Lib.hid (ok66_no v w h)
  have hnot : ∀ (x : Bool) (w : World), (Op.unary .not (.bool x)).run Try.prog w = .ok (.bool (!x)) w := fun _ _ => rfl
  clear h
  go_enter Try.func47, Try.ntmps47
  go_wp2_with fail
  refine H.out.mono ?_; rintro e w' ⟨rfl, rfl⟩
  go_wp2_with fail
  go_ret3
  exact ⟨rfl, rfl⟩
theorem prev49_no (v : Value) (from' : Int) (w : World) (h : NoSm w v) : Calls Try.prog 49 #[v, .int .i64 from'] w fun e w' => e = .returned (tri ⟨0, 0, false⟩) ∧ w' = w := by
  have H := Lib.hid (ok66_no v w h)
  have hnot : ∀ (x : Bool) (w : World), (Op.unary .not (.bool x)).run Try.prog w = .ok (.bool (!x)) w := fun _ _ => rfl
  clear h
  go_enter Try.func49, Try.ntmps49
  go_wp2_with fail
  refine H.out.mono ?_; rintro e w' ⟨rfl, rfl⟩
  go_wp2_with fail
  go_ret3
  exact ⟨rfl, rfl⟩
theorem drop43_no (v : Value) (b : Int) (w : World) (h : NoSm w v) : Calls Try.prog 43 #[v, .int .u8 b] w fun e w' => e = .returned (.int .i64 2) ∧ w' = w := by
  have H := Lib.hid (ok66_no v w h)
  have hnot : ∀ (x : Bool) (w : World), (Op.unary .not (.bool x)).run Try.prog w = .ok (.bool (!x)) w := fun _ _ => rfl
  clear h
  go_enter Try.func43, Try.ntmps43
  go_wp2_with fail
  refine H.out.mono ?_; rintro e w' ⟨rfl, rfl⟩
  go_wp2_with fail
  go_ret
  exact ⟨rfl, rfl⟩
theorem set44_no (v : Value) (b x : Int) (w : World) (h : NoSm w v) : Calls Try.prog 44 #[v, .int .u8 b, .int .i64 x] w fun e w' => e = .returned (.int .i64 2) ∧ w' = w := by
  have H := Lib.hid (ok66_no v w h)
  have hnot : ∀ (x : Bool) (w : World), (Op.unary .not (.bool x)).run Try.prog w = .ok (.bool (!x)) w := fun _ _ => rfl
  clear h
  go_enter Try.func44, Try.ntmps44
  go_wp2_with fail
  refine H.out.mono ?_; rintro e w' ⟨rfl, rfl⟩
  go_wp2_with fail
  go_ret
  exact ⟨rfl, rfl⟩
theorem copy46_no (v : Value) (w : World) (h : NoSm w v) : Calls Try.prog 46 #[v] w fun e w' => e = .returned (.pointer none) ∧ w' = w := by
  have H := Lib.hid (ok66_no v w h)
  have hnot : ∀ (x : Bool) (w : World), (Op.unary .not (.bool x)).run Try.prog w = .ok (.bool (!x)) w := fun _ _ => rfl
  clear h
  go_enter Try.func46, Try.ntmps46
  go_wp2_with fail
  refine H.out.mono ?_; rintro e w' ⟨rfl, rfl⟩
  go_wp2_with fail
  go_returns
  exact ⟨rfl, rfl⟩

set_option maxRecDepth 100000 in
set_option maxHeartbeats 800000 in
theorem at68 (g n : Nat) (room : Nat) (B : Nat → Nat) (X : Nat → Int) (i : Int) (w : World) (h : Sm w g room n B X) (hn : n ≤ 16) :
    Calls Try.prog 68 #[.pointer (some ⟨g, 0, none⟩), .int .i64 i] w fun e w' => e = .returned (tri (atT n B X i)) ∧ ∃ z, w' = w.drewN z := by
  have c1 := h.vN
  unfold atT
  by_cases h1 : i < 0
  · rw [if_neg (by omega)]
    have d0 : decide (i < 0) = true := by simp; omega
    clear h
    go_enter Try.func68, Try.ntmps68
    go_wp2_with fail
    go_ret3
    exact ⟨rfl, 0, rfl⟩
  · have d0 : decide (i < 0) = false := by simp; omega
    by_cases h2 : (n : Int) ≤ i
    · rw [if_neg (by omega)]
      have d1 : decide ((n : Int) ≤ i) = true := by simp; omega
      clear h
      go_enter Try.func68, Try.ntmps68
      go_wp2_with fail
      go_ret3
      exact ⟨rfl, 0, rfl⟩
    · rw [if_pos (by omega)]
      obtain ⟨k, rfl⟩ := Int.eq_ofNat_of_zero_le (show 0 ≤ i by omega)
      have d1 : decide ((n : Int) ≤ (k : Int)) = false := by simp; omega
      have b0 : (0 : Int) ≤ (k : Int) := by omega
      have b1 : (k : Int) < 16 := by omega
      have c2 := h.vB k (by omega)
      have c3 := h.vX k (by omega)
      clear h
      simp only [Int.toNat_natCast]
      go_enter Try.func68, Try.ntmps68
      go_wp2_with fail
      go_quiet (fail)
      go_wp2_with fail
      go_ret3
      exact ⟨rfl, _, rfl⟩

set_option maxHeartbeats 800000 in
theorem get48 (g n b : Nat) (room : Nat) (B : Nat → Nat) (X : Nat → Int) (f : Nat → Option Int) (w : World) (h : Sm w g room n B X) (hp : SmP room n B X f) (hb : b < 256) :
    Calls Try.prog 48 #[.pointer (some ⟨g, 0, none⟩), .int .u8 b] w fun e w' => e = .returned (.tuple #[.int .i64 (valO (f b)), .bool (f b).isSome]) ∧ ∃ z, w' = w.drewN z := by
  have r1 := hp.room1
  have r16 := hp.room16
  have hle := hp.le
  obtain ⟨i, is, ha⟩ := AtP.exists b hp.srt
  have H := Lib.hid (ok66 g room w h.vRoom (by omega))
  have HP := Lib.hid (place67 g n b i is room B X w h (by omega) hp.srt ha)
  have hnot : ∀ (x : Bool) (w : World), (Op.unary .not (.bool x)).run Try.prog w = .ok (.bool (!x)) w := fun _ _ => rfl
  rcases hp.get hb ha with ⟨rfl, hi, hf⟩ | ⟨rfl, hf⟩
  · rw [hf]
    have b0 : (0 : Int) ≤ (i : Int) := by omega
    have b1 : (i : Int) < 16 := by omega
    have hx := h.vX i (by omega)
    clear h hf ha hp
    simp only [valO, Option.getD, Option.isSome]
    go_enter Try.func48, Try.ntmps48
    go_wp2_with fail
    refine H.out.mono ?_; rintro e w' ⟨rfl, hw'⟩
    rw [hw']; clear hw' w'
    go_wp2_with fail
    refine HP.out.mono ?_; rintro e w' ⟨rfl, z, hw'⟩
    rw [hw']; clear hw' w'
    go_wp2_with fail
    go_ret2
    exact ⟨rfl, _, rfl⟩
  · rw [hf]
    clear h hf ha hp
    simp only [valO, Option.getD, Option.isSome]
    go_enter Try.func48, Try.ntmps48
    go_wp2_with fail
    refine H.out.mono ?_; rintro e w' ⟨rfl, hw'⟩
    rw [hw']; clear hw' w'
    go_wp2_with fail
    refine HP.out.mono ?_; rintro e w' ⟨rfl, z, hw'⟩
    rw [hw']; clear hw' w'
    go_wp2_with fail
    go_ret2
    exact ⟨rfl, _, rfl⟩

set_option maxHeartbeats 800000 in
theorem next47 (g n : Nat) (room : Nat) (B : Nat → Nat) (X : Nat → Int) (f : Nat → Option Int) (from' : Int) (w : World) (h : Sm w g room n B X) (hp : SmP room n B X f) :
    Calls Try.prog 47 #[.pointer (some ⟨g, 0, none⟩), .int .i64 from'] w fun e w' => ∃ r, NextR f (max from' 0) r ∧ e = .returned (tri r) ∧ ∃ z, w' = w.drewN z := by
  have r1 := hp.room1
  have r16 := hp.room16
  have hle := hp.le
  have H := Lib.hid (ok66 g room w h.vRoom (by omega))
  have hnot : ∀ (x : Bool) (w : World), (Op.unary .not (.bool x)).run Try.prog w = .ok (.bool (!x)) w := fun _ _ => rfl
  by_cases h1 : 255 < from'
  · have d0 : decide (255 < from') = true := by simp; omega
    have h2 : NextR f (max from' 0) ⟨0, 0, false⟩ := Or.inr ⟨fun c h3 h4 => by omega, rfl⟩
    have H2 := Lib.hid h2
    clear h hp h2
    go_enter Try.func47, Try.ntmps47
    go_wp2_with fail
    refine H.out.mono ?_; rintro e w' ⟨rfl, hw'⟩
    rw [hw']; clear hw' w'
    go_wp2_with fail
    go_ret3
    exact ⟨⟨0, 0, false⟩, H2.out, rfl, 0, rfl⟩
  · have d0 : decide (255 < from') = false := by simp; omega
    obtain ⟨s, hs⟩ : ∃ s : Nat, (if (0 : Int) > from' then 0 else from') = (s : Int) ∧ max from' 0 = (s : Int) ∧ s < 256 := by
      by_cases h0 : (0 : Int) > from'
      · exact ⟨0, by rw [if_pos h0]; rfl, by omega, by omega⟩
      · exact ⟨from'.toNat, by rw [if_neg h0]; omega, by omega, by omega⟩
    obtain ⟨hs1, hs2, hs3⟩ := hs
    obtain ⟨i, is, ha⟩ := AtP.exists s hp.srt
    have HP := Lib.hid (place67 g n s i is room B X w h (by omega) hp.srt ha)
    have HN := Lib.hid (hp.next ha)
    have HM := Lib.hid hs1
    have q0 : IntKind.u8.wrap (s : Int) = (s : Int) := IntWalk.u8_in _ (by omega)
    have HS := Lib.hid h
    have hn16 : n ≤ 16 := by omega
    rw [hs2]
    clear h hp ha hs1 hs2
    obtain ⟨⟨rb, rx, rk⟩, hr⟩ : ∃ r, r = atT n B X i := ⟨_, rfl⟩
    have HR := Lib.hid hr
    clear hr
    go_enter Try.func47, Try.ntmps47
    go_wp2_with fail
    refine H.out.mono ?_; rintro e w' ⟨rfl, hw'⟩
    rw [hw']; clear hw' w'
    go_wp2_with (refine wpList_max rfl _ _ 3 (by rfl) from' 0 s (by rfl) (by rfl) HM.out ?_; refine stop ?_)
    refine unhid ?_
    go_wp2_with fail
    refine HP.out.mono ?_; rintro e w' ⟨rfl, z, hw'⟩
    have HS2 : Hid (Sm w' g room n B X) := by show Sm _ _ _ _ _ _; rw [hw']; exact ⟨HS.out.heap⟩
    have HZ := Lib.hid hw'
    clear hw'
    go_wp2_with fail
    refine (at68 g n room B X i w' HS2.out hn16).mono ?_
    rw [← HR.out]
    rintro e w2 ⟨rfl, z2, hw2⟩
    have HZ2 : Hid (∃ z, w2 = w.drewN z) := ⟨z + z2, by rw [hw2, HZ.out, World.drewN_drewN]⟩
    clear hw2
    simp only [tri]
    go_wp2_with fail
    go_ret3
    exact ⟨⟨rb, rx, rk⟩, by rw [HR.out]; exact HN.out, rfl, HZ2.out⟩

set_option maxHeartbeats 1600000 in
theorem prev49 (g n : Nat) (room : Nat) (B : Nat → Nat) (X : Nat → Int) (f : Nat → Option Int) (from' : Int) (w : World) (h : Sm w g room n B X) (hp : SmP room n B X f) :
    Calls Try.prog 49 #[.pointer (some ⟨g, 0, none⟩), .int .i64 from'] w fun e w' => ∃ r, PrevR f (min from' 255) r ∧ e = .returned (tri r) ∧ ∃ z, w' = w.drewN z := by
  have r1 := hp.room1
  have r16 := hp.room16
  have hle := hp.le
  have H := Lib.hid (ok66 g room w h.vRoom (by omega))
  have hnot : ∀ (x : Bool) (w : World), (Op.unary .not (.bool x)).run Try.prog w = .ok (.bool (!x)) w := fun _ _ => rfl
  by_cases h1 : from' < 0
  · have d0 : decide (from' < 0) = true := by simp; omega
    have h2 : PrevR f (min from' 255) ⟨0, 0, false⟩ := Or.inr ⟨fun c h3 h4 => by omega, rfl⟩
    have H2 := Lib.hid h2
    clear h hp h2
    go_enter Try.func49, Try.ntmps49
    go_wp2_with fail
    refine H.out.mono ?_; rintro e w' ⟨rfl, hw'⟩
    rw [hw']; clear hw' w'
    go_wp2_with fail
    go_ret3
    exact ⟨⟨0, 0, false⟩, H2.out, rfl, 0, rfl⟩
  · have d0 : decide (from' < 0) = false := by simp; omega
    obtain ⟨s, hs⟩ : ∃ s : Nat, (if (255 : Int) < from' then 255 else from') = (s : Int) ∧ min from' 255 = (s : Int) ∧ s < 256 := by
      by_cases h0 : (255 : Int) < from'
      · exact ⟨255, by rw [if_pos h0]; rfl, by omega, by omega⟩
      · exact ⟨from'.toNat, by rw [if_neg h0]; omega, by omega, by omega⟩
    obtain ⟨hs1, hs2, hs3⟩ := hs
    obtain ⟨i, is, ha⟩ := AtP.exists s hp.srt
    have HP := Lib.hid (place67 g n s i is room B X w h (by omega) hp.srt ha)
    have HN := Lib.hid (hp.prev hs3 ha)
    have hin := ha.le
    have HM := Lib.hid hs1
    have q0 : IntKind.u8.wrap (s : Int) = (s : Int) := IntWalk.u8_in _ (by omega)
    have q1 : IntKind.i64.wrap ((i : Int) - 1) = (i : Int) - 1 := IntWalk.i64_in _ (by omega)
    have HS := Lib.hid h
    have hn16 : n ≤ 16 := by omega
    rw [hs2]
    clear h hp ha hs1 hs2
    obtain ⟨i2, hi2⟩ : ∃ i2, i2 = (if is = true then (i : Int) else (i : Int) - 1) := ⟨_, rfl⟩
    rw [← hi2] at HN
    obtain ⟨⟨rb, rx, rk⟩, hr⟩ : ∃ r, r = atT n B X i2 := ⟨_, rfl⟩
    have HR := Lib.hid hr
    clear hr
    cases is with
    | true =>
      have hi3 : i2 = (i : Int) := by rw [hi2]; simp
      have HI := Lib.hid hi3
      clear hi2 hi3
      go_enter Try.func49, Try.ntmps49
      go_wp2_with fail
      refine H.out.mono ?_; rintro e w' ⟨rfl, hw'⟩
      rw [hw']; clear hw' w'
      go_wp2_with (refine wpList_min rfl _ _ 3 (by rfl) from' 255 s (by rfl) (by rfl) HM.out ?_; refine stop ?_)
      refine unhid ?_
      go_wp2_with fail
      refine HP.out.mono ?_; rintro e w' ⟨rfl, z, hw'⟩
      have HS2 : Hid (Sm w' g room n B X) := by show Sm _ _ _ _ _ _; rw [hw']; exact ⟨HS.out.heap⟩
      have HZ := Lib.hid hw'
      clear hw'
      go_wp2_with fail
      rw [← HI.out]
      refine (at68 g n room B X i2 w' HS2.out hn16).mono ?_
      rw [← HR.out]
      rintro e w2 ⟨rfl, z2, hw2⟩
      have HZ2 : Hid (∃ z, w2 = w.drewN z) := ⟨z + z2, by rw [hw2, HZ.out, World.drewN_drewN]⟩
      clear hw2
      simp only [tri]
      go_wp2_with fail
      go_ret3
      exact ⟨⟨rb, rx, rk⟩, by rw [HR.out]; exact HN.out, rfl, HZ2.out⟩
    | false =>
      have hi3 : i2 = (i : Int) - 1 := by rw [hi2]; simp
      have HI := Lib.hid hi3
      clear hi2 hi3
      go_enter Try.func49, Try.ntmps49
      go_wp2_with fail
      refine H.out.mono ?_; rintro e w' ⟨rfl, hw'⟩
      rw [hw']; clear hw' w'
      go_wp2_with (refine wpList_min rfl _ _ 3 (by rfl) from' 255 s (by rfl) (by rfl) HM.out ?_; refine stop ?_)
      refine unhid ?_
      go_wp2_with fail
      refine HP.out.mono ?_; rintro e w' ⟨rfl, z, hw'⟩
      have HS2 : Hid (Sm w' g room n B X) := by show Sm _ _ _ _ _ _; rw [hw']; exact ⟨HS.out.heap⟩
      have HZ := Lib.hid hw'
      clear hw'
      go_wp2_with fail
      rw [← HI.out]
      refine (at68 g n room B X i2 w' HS2.out hn16).mono ?_
      rw [← HR.out]
      rintro e w2 ⟨rfl, z2, hw2⟩
      have HZ2 : Hid (∃ z, w2 = w.drewN z) := ⟨z + z2, by rw [hw2, HZ.out, World.drewN_drewN]⟩
      clear hw2
      simp only [tri]
      go_wp2_with fail
      go_ret3
      exact ⟨⟨rb, rx, rk⟩, by rw [HR.out]; exact HN.out, rfl, HZ2.out⟩

end Go.Proofs.Ythohpeinmkdfeaa
