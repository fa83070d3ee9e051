/-
  The small row: where a byte is, or would be.
-/
import Derived.Test.YthohpeinmkdfeaaSmall1
namespace Go.Proofs.Ythohpeinmkdfeaa
open Go.RowKit
set_option linter.unusedVariables false

/-- bytes that rise -/
structure Srt (n : Nat) (B : Nat → Nat) : Prop where
  small : ∀ k, k < n → B k < 256
  rise : ∀ i j, i < j → j < n → B i < B j

theorem Srt.le {n : Nat} {B : Nat → Nat} (h : Srt n B) (i j : Nat) (hij : i ≤ j) (hj : j < n) : B i ≤ B j := by
  rcases Nat.lt_or_eq_of_le hij with h1 | rfl
  · exact Nat.le_of_lt (h.rise i j h1 hj)
  · exact Nat.le_refl _

/-- the first place whose byte is not below b, and whether it is that -/
structure AtP (n : Nat) (B : Nat → Nat) (b i : Nat) (is : Bool) : Prop where
  le : i ≤ n
  low : ∀ k, k < i → B k < b
  high : ∀ k, i ≤ k → k < n → b ≤ B k
  is : is = true ↔ (i < n ∧ B i = b)

/-- what the search tells -/
def Out75 (n : Nat) (B : Nat → Nat) (b : Nat) (w : World) (e : Ending) (w' : World) : Prop := ∃ i is, AtP n B b i is ∧ e = .returned (.tuple #[.int .i64 i, .bool is]) ∧ w' = w

set_option maxRecDepth 100000 in
set_option maxHeartbeats 800000 in
theorem search75 (g n b : Nat) (B : Nat → Nat) (w : World) (hc : ∀ k, k < n → w.cell? ⟨g, 2 + k, none⟩ = some (.int .u8 (B k))) (hn : n ≤ 16) (hs : Srt n B) :
    Calls Try.prog 75 #[.slice (some ⟨g, 2, none⟩) n 16, .int .u8 b] w (Out75 n B b w) := by
  have HC := Lib.hid hc
  have HS := Lib.hid hs
  clear hc hs
  go_enter Try.func75, Try.ntmps75
  go_wp2_with fail
  go_loop [7, 8] (fun u t => ∃ (i j : Nat), u = .int .i64 i ∧ t = .int .i64 j ∧ i ≤ j ∧ j ≤ n ∧ Hid ((∀ k, k < i → B k < b) ∧ (∀ k, j ≤ k → k < n → b ≤ B k))) (fun u t => (intOf t).toNat - (intOf u).toNat)
  case atStart => exact ⟨0, n, rfl, rfl, by omega, by omega, ⟨fun k h => by omega, fun k h1 h2 => by omega⟩⟩
  case round =>
    obtain ⟨i, j, rfl, rfl, hij, hj, hinv⟩ := hrel
    by_cases hlt : i < j
    · have d0 : decide ((i : Int) < (j : Int)) = true := by simp; omega
      obtain ⟨h, hh⟩ : ∃ h, (i + j) / 2 = h := ⟨_, rfl⟩
      have h1 : i ≤ h := by omega
      have h2 : h < j := by omega
      have q0 : IntKind.i64.wrap ((i : Int) + (j : Int)) = ((i + j : Nat) : Int) := by rw [IntWalk.i64_in _ (by omega)]; push_cast; rfl
      have q1 : IntKind.u64.wrap ((i + j : Nat) : Int) = ((i + j : Nat) : Int) := by rw [IntKind.wrap_u64]; omega
      have hm : ((i : Int) + (j : Int)) / 2 = (h : Int) := by omega
      have c0 := HC.out h (by omega)
      have b0 : (0 : Int) ≤ (h : Int) := by omega
      have b1 : (h : Int) < (n : Int) := by omega
      have q2 : IntKind.i64.wrap ((h : Int) + 1) = (h : Int) + 1 := IntWalk.i64_in _ (by omega)
      by_cases hl : B h < b
      · have hd : decide ((B h : Int) < (b : Int)) = true := by simp; omega
        have HL := Lib.hid hl
        clear hl
        go_wp2_with fail
        refine (less80 _ _ _ _ hd).mono ?_; rintro e w' ⟨rfl, hw'⟩
        rw [hw']; clear hw' w'
        go_wp2_with fail
        go_round
        case rel => exact ⟨h + 1, j, by go_num, rfl, by omega, by omega, ⟨fun k hk => Nat.lt_of_le_of_lt (HS.out.le k h (by omega) (by omega)) HL.out, hinv.out.2⟩⟩
        case measure => simp [intOf]; omega
      · have hd : decide ((B h : Int) < (b : Int)) = false := by simp; omega
        have HL := Lib.hid hl
        clear hl
        go_wp2_with fail
        refine (less80 _ _ _ _ hd).mono ?_; rintro e w' ⟨rfl, hw'⟩
        rw [hw']; clear hw' w'
        go_wp2_with fail
        go_round
        case rel => exact ⟨i, h, rfl, rfl, by omega, by omega, ⟨hinv.out.1, fun k h1 h2 => Nat.le_trans (Nat.le_of_not_lt HL.out) (HS.out.le h k h1 h2)⟩⟩
        case measure => simp [intOf]; omega
    · obtain rfl : i = j := by omega
      have d0 : decide ((i : Int) < (i : Int)) = false := by simp
      by_cases hlt2 : i < n
      · have d1 : decide ((i : Int) < (n : Int)) = true := by simp; omega
        have c0 := HC.out i hlt2
        have b0 : (0 : Int) ≤ (i : Int) := by omega
        have b1 : (i : Int) < (n : Int) := by omega
        by_cases he : B i = b
        · have hd : ((B i : Int) == (b : Int)) = true := by simp; omega
          have HE := Lib.hid he
          clear he
          go_wp2_with fail
          go_ret2
          exact ⟨i, true, ⟨hj, hinv.out.1, hinv.out.2, ⟨fun _ => ⟨hlt2, HE.out⟩, fun _ => rfl⟩⟩, rfl, rfl⟩
        · have hd : ((B i : Int) == (b : Int)) = false := by simp; omega
          have HE := Lib.hid he
          clear he
          go_wp2_with fail
          refine (nan81 _ _).mono ?_; rintro e w' ⟨rfl, hw'⟩
          rw [hw']; clear hw' w'
          go_wp2_with fail
          go_ret2
          exact ⟨i, false, ⟨hj, hinv.out.1, hinv.out.2, ⟨fun h => (by cases h), fun h => absurd h.2 HE.out⟩⟩, rfl, rfl⟩
      · have d1 : decide ((i : Int) < (n : Int)) = false := by simp; omega
        go_wp2_with fail
        go_ret2
        exact ⟨i, false, ⟨hj, hinv.out.1, hinv.out.2, ⟨fun h => (by cases h), fun h => absurd h.1 hlt2⟩⟩, rfl, rfl⟩

theorem AtP.ex {B : Nat → Nat} (b : Nat) : ∀ n : Nat, Srt n B → ∃ i, i ≤ n ∧ (∀ k, k < i → B k < b) ∧ (∀ k, i ≤ k → k < n → b ≤ B k)
  | 0, _ => ⟨0, by omega, fun k h => by omega, fun k h1 h2 => by omega⟩
  | n + 1, hs => by
    obtain ⟨i, h1, h2, h3⟩ := AtP.ex b n ⟨fun k hk => hs.small k (by omega), fun i j h1 h2 => hs.rise i j h1 (by omega)⟩
    by_cases hi : i < n
    · refine ⟨i, by omega, h2, fun k hk hk2 => ?_⟩
      exact Nat.le_trans (h3 i (Nat.le_refl _) hi) (hs.le i k hk hk2)
    · obtain rfl : i = n := by omega
      by_cases hb : B i < b
      · refine ⟨i + 1, by omega, fun k hk => ?_, fun k h4 h5 => by omega⟩
        by_cases e : k = i
        · rw [e]; exact hb
        · exact h2 k (by omega)
      · refine ⟨i, by omega, h2, fun k h4 h5 => ?_⟩
        obtain rfl : k = i := by omega
        omega

theorem AtP.exists {n : Nat} {B : Nat → Nat} (b : Nat) (hs : Srt n B) : ∃ i is, AtP n B b i is := by
  obtain ⟨i, h1, h2, h3⟩ := AtP.ex b n hs
  by_cases h : i < n ∧ B i = b
  · exact ⟨i, true, h1, h2, h3, ⟨fun _ => h, fun _ => rfl⟩⟩
  · exact ⟨i, false, h1, h2, h3, ⟨fun e => (by cases e), fun e => absurd e h⟩⟩

theorem AtP.det {n b i j : Nat} {B : Nat → Nat} {is js : Bool} (h : AtP n B b i is) (k : AtP n B b j js) : i = j ∧ is = js := by
  have e : i = j := by
    rcases Nat.lt_trichotomy i j with h1 | h1 | h1
    · have := k.low i h1; have := h.high i (Nat.le_refl _) (by have := k.le; omega); omega
    · exact h1
    · have := h.low j h1; have := k.high j (Nat.le_refl _) (by have := h.le; omega); omega
  subst e
  refine ⟨rfl, ?_⟩
  cases is with
  | true => exact (k.is.2 (h.is.1 rfl)).symm
  | false =>
    cases js with
    | true => exact h.is.2 (k.is.1 rfl)
    | false => rfl

theorem search75' (g n b i : Nat) (is : Bool) (B : Nat → Nat) (w : World) (hc : ∀ k, k < n → w.cell? ⟨g, 2 + k, none⟩ = some (.int .u8 (B k))) (hn : n ≤ 16) (hs : Srt n B) (ha : AtP n B b i is) :
    Calls Try.prog 75 #[.slice (some ⟨g, 2, none⟩) n 16, .int .u8 b] w fun e w' => e = .returned (.tuple #[.int .i64 i, .bool is]) ∧ w' = w :=
  (search75 g n b B w hc hn hs).mono fun e w' ⟨j, js, h1, h2, h3⟩ => by
    obtain ⟨rfl, rfl⟩ := AtP.det ha h1
    exact ⟨h2, h3⟩

set_option maxHeartbeats 400000 in
/-- the place of a byte in a row -/
theorem place67 (g n b i : Nat) (is : Bool) (room : Int) (B : Nat → Nat) (X : Nat → Int) (w : World) (h : Sm w g room n B X) (hn : n ≤ 16) (hs : Srt n B) (ha : AtP n B b i is) :
    Calls Try.prog 67 #[.pointer (some ⟨g, 0, none⟩), .int .u8 b] w fun e w' => e = .returned (.tuple #[.int .i64 i, .bool is]) ∧ ∃ z, w' = w.drewN z := by
  have H := Lib.hid h
  have HS := Lib.hid hs
  have HA := Lib.hid ha
  have c1 := h.vN
  have b0 : (0 : Int) ≤ (n : Int) := by omega
  have b1 : (n : Int) ≤ 16 := by omega
  clear h hs ha
  go_enter Try.func67, Try.ntmps67
  go_wp2_with fail
  go_quiet ((go_at_call 75; exact Calls.quiet_of_same (search75' g n b i is B _ (fun k hk => H.out.vB k (by omega)) hn HS.out HA.out)))
  go_wp2_with fail
  go_ret2
  exact ⟨rfl, _, rfl⟩

end Go.Proofs.Ythohpeinmkdfeaa
