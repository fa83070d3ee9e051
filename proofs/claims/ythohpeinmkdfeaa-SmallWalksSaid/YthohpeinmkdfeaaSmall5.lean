/-
  The small row: what is held behind a thing laid, put in, taken out.
-/
import Derived.Test.YthohpeinmkdfeaaSmall4
namespace Go.Proofs.Ythohpeinmkdfeaa
open Go.RowKit
set_option linter.unusedVariables false

theorem cntH_upd (f : Nat → Option Int) (b : Nat) (v : Option Int) : ∀ n : Nat, (cntH (fun c => (updF f b v c).isSome) n : Int) = (cntH (fun c => (f c).isSome) n : Int) + (if b < n then (if v.isSome then 1 else 0) - (if (f b).isSome then 1 else 0) else 0)
  | 0 => by simp [cntH]
  | n + 1 => by
    rw [cntH_succ, cntH_succ]
    have ih := cntH_upd f b v n
    generalize cntH (fun c => (updF f b v c).isSome) n = A at ih ⊢
    generalize cntH (fun c => (f c).isSome) n = C at ih ⊢
    by_cases h1 : n = b
    · subst h1
      have e : updF f n v n = v := by unfold updF; rw [if_pos rfl]
      rw [if_neg (show ¬ n < n by omega)] at ih
      simp only [e]
      rw [if_pos (show n < n + 1 by omega)]
      generalize v.isSome = p
      generalize (f n).isSome = q
      cases p <;> cases q <;> simp <;> omega
    · have e : updF f b v n = f n := by unfold updF; rw [if_neg h1]
      simp only [e]
      generalize (f n).isSome = q
      by_cases h2 : b < n
      · rw [if_pos h2] at ih
        rw [if_pos (show b < n + 1 by omega)]
        cases q <;> simp <;> omega
      · rw [if_neg h2] at ih
        rw [if_neg (show ¬ b < n + 1 by omega)]
        cases q <;> simp <;> omega

theorem cntF_upd (f : Nat → Option Int) (b : Nat) (v : Option Int) (hb : b < 256) : (cntF (updF f b v) : Int) = (cntF f : Int) + ((if v.isSome then 1 else 0) - (if (f b).isSome then 1 else 0)) := by
  have h := cntH_upd f b v 256
  rw [if_pos hb] at h
  exact h

theorem updF_ne (f : Nat → Option Int) (b c : Nat) (v : Option Int) (h : c ≠ b) : updF f b v c = f c := by unfold updF; rw [if_neg h]
theorem updF_at (f : Nat → Option Int) (b : Nat) (v : Option Int) : updF f b v b = v := by unfold updF; rw [if_pos rfl]

theorem Srt.inj {n : Nat} {B : Nat → Nat} (h : Srt n B) (i j : Nat) (hi : i < n) (hj : j < n) (e : B i = B j) : i = j := by
  rcases Nat.lt_trichotomy i j with h1 | h1 | h1
  · have := h.rise i j h1 hj; omega
  · exact h1
  · have := h.rise j i h1 hi; omega

theorem SmP.lay {room n b i : Nat} {B : Nat → Nat} {X : Nat → Int} {f : Nat → Option Int} (h : SmP room n B X f) (ha : AtP n B b i true) (x : Int) : SmP room n B (updX X i x) (updF f b (some x)) := by
  obtain ⟨hi, rfl⟩ := ha.is.1 rfl
  have hs := h.srt.small i hi
  refine ⟨h.srt, h.room1, h.room16, h.le, fun k hk => ?_, fun c hc hn => ?_, ?_⟩
  · unfold updX
    by_cases e : k = i
    · subst e; rw [if_pos rfl, updF_at]
    · rw [if_neg e, updF_ne _ _ _ _ (fun q => e (h.srt.inj k i hk hi q))]; exact h.hit k hk
  · rw [updF_ne _ _ _ _ (fun q => hn i hi q.symm)]; exact h.miss c hc hn
  · have h1 := cntF_upd f (B i) (some x) hs
    have h2 := h.cnt
    rw [h.hit i hi] at h1
    simp at h1; omega

theorem SmP.ins {room n b i : Nat} {B : Nat → Nat} {X : Nat → Int} {f : Nat → Option Int} (h : SmP room n B X f) (hb : b < 256) (ha : AtP n B b i false) (hn : n < room) (x : Int) :
    SmP room (n + 1) (updB (shU B i n) i b) (updX (shU X i n) i x) (updF f b (some x)) := by
  have hno := ha.no h.srt
  have hle := ha.le
  have eB : ∀ k, updB (shU B i n) i b k = if k = i then b else if i < k ∧ k ≤ n then B (k - 1) else B k := fun k => rfl
  have eX : ∀ k, updX (shU X i n) i x k = if k = i then x else if i < k ∧ k ≤ n then X (k - 1) else X k := fun k => rfl
  refine ⟨⟨fun k hk => ?_, fun j k hjk hk => ?_⟩, h.room1, h.room16, by omega, fun k hk => ?_, fun c hc hm => ?_, ?_⟩
  · rw [eB]
    by_cases e : k = i
    · rw [if_pos e]; exact hb
    · rw [if_neg e]
      by_cases e2 : i < k ∧ k ≤ n
      · rw [if_pos e2]; exact h.srt.small _ (by omega)
      · rw [if_neg e2]; exact h.srt.small _ (by omega)
  · rw [eB, eB]
    by_cases e : k = i
    · rw [if_pos e, if_neg (by omega), if_neg (by omega)]
      exact ha.low j (by omega)
    · rw [if_neg e]
      by_cases e2 : j = i
      · rw [if_pos e2, if_pos (by omega)]
        have h1 := ha.high (k - 1) (by omega) (by omega)
        have h2 := hno (k - 1) (by omega)
        omega
      · rw [if_neg e2]
        by_cases e3 : i < k ∧ k ≤ n
        · rw [if_pos e3]
          by_cases e4 : i < j ∧ j ≤ n
          · rw [if_pos e4]; exact h.srt.rise _ _ (by omega) (by omega)
          · rw [if_neg e4]; exact h.srt.rise _ _ (by omega) (by omega)
        · rw [if_neg e3, if_neg (by omega)]; exact h.srt.rise _ _ hjk (by omega)
  · rw [eB, eX]
    by_cases e : k = i
    · rw [if_pos e, if_pos e, updF_at]
    · rw [if_neg e, if_neg e]
      by_cases e2 : i < k ∧ k ≤ n
      · rw [if_pos e2, if_pos e2, updF_ne _ _ _ _ (hno _ (by omega))]; exact h.hit _ (by omega)
      · rw [if_neg e2, if_neg e2, updF_ne _ _ _ _ (hno _ (by omega))]; exact h.hit _ (by omega)
  · have hcb : c ≠ b := fun e => by
      have := hm i (by omega)
      rw [eB, if_pos rfl] at this
      exact this e.symm
    rw [updF_ne _ _ _ _ hcb]
    refine h.miss c hc (fun k hk e => ?_)
    by_cases hki : k < i
    · have := hm k (by omega)
      rw [eB, if_neg (by omega), if_neg (by omega)] at this
      exact this e
    · have := hm (k + 1) (by omega)
      rw [eB, if_neg (by omega), if_pos (by omega), show k + 1 - 1 = k by omega] at this
      exact this e
  · have h1 := cntF_upd f b (some x) hb
    have h2 := h.cnt
    rw [h.miss b hb hno] at h1
    simp at h1; omega

theorem SmP.del {room n b i : Nat} {B : Nat → Nat} {X : Nat → Int} {f : Nat → Option Int} (h : SmP room n B X f) (ha : AtP n B b i true) :
    SmP room (n - 1) (updB (shD B i n) (n - 1) 0) (updX (shD X i n) (n - 1) 0) (updF f b none) := by
  obtain ⟨hi, rfl⟩ := ha.is.1 rfl
  have hs := h.srt.small i hi
  have hle := h.le
  have eB : ∀ k, k < n - 1 → updB (shD B i n) (n - 1) 0 k = if i ≤ k then B (k + 1) else B k := fun k hk => by
    show (if k = n - 1 then 0 else if i ≤ k ∧ k + 1 < n then B (k + 1) else B k) = _
    rw [if_neg (by omega)]
    by_cases e : i ≤ k
    · rw [if_pos ⟨e, by omega⟩, if_pos e]
    · rw [if_neg (by omega), if_neg e]
  have eX : ∀ k, k < n - 1 → updX (shD X i n) (n - 1) 0 k = if i ≤ k then X (k + 1) else X k := fun k hk => by
    show (if k = n - 1 then 0 else if i ≤ k ∧ k + 1 < n then X (k + 1) else X k) = _
    rw [if_neg (by omega)]
    by_cases e : i ≤ k
    · rw [if_pos ⟨e, by omega⟩, if_pos e]
    · rw [if_neg (by omega), if_neg e]
  refine ⟨⟨fun k hk => ?_, fun j k hjk hk => ?_⟩, h.room1, h.room16, by omega, fun k hk => ?_, fun c hc hm => ?_, ?_⟩
  · rw [eB k hk]
    by_cases e : i ≤ k
    · rw [if_pos e]; exact h.srt.small _ (by omega)
    · rw [if_neg e]; exact h.srt.small _ (by omega)
  · rw [eB j (by omega), eB k hk]
    by_cases e : i ≤ k
    · rw [if_pos e]
      by_cases e2 : i ≤ j
      · rw [if_pos e2]; exact h.srt.rise _ _ (by omega) (by omega)
      · rw [if_neg e2]; exact h.srt.rise _ _ (by omega) (by omega)
    · rw [if_neg e, if_neg (by omega)]; exact h.srt.rise _ _ hjk (by omega)
  · rw [eB k hk, eX k hk]
    by_cases e : i ≤ k
    · rw [if_pos e, if_pos e, updF_ne _ _ _ _ (fun q => by have := h.srt.inj _ _ (by omega) hi q; omega)]; exact h.hit _ (by omega)
    · rw [if_neg e, if_neg e, updF_ne _ _ _ _ (fun q => by have := h.srt.inj _ _ (by omega) hi q; omega)]; exact h.hit _ (by omega)
  · by_cases hcb : c = B i
    · rw [hcb, updF_at]
    · rw [updF_ne _ _ _ _ hcb]
      refine h.miss c hc (fun k hk e => ?_)
      by_cases hki : k < i
      · have := hm k (by omega)
        rw [eB k (by omega), if_neg (by omega)] at this
        exact this e
      · by_cases hk2 : k = i
        · subst hk2; exact hcb e.symm
        · have := hm (k - 1) (by omega)
          rw [eB (k - 1) (by omega), if_pos (by omega), show k - 1 + 1 = k by omega] at this
          exact this e
  · have h1 := cntF_upd f (B i) none hs
    have h2 := h.cnt
    rw [h.hit i hi] at h1
    simp at h1; omega

end Go.Proofs.Ythohpeinmkdfeaa
