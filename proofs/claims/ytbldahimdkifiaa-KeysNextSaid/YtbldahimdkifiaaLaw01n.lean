/-
  The walk of the statement KeysNext, and the plain law behind it: what begins with some bytes is within them and their next one, and nothing else is.
-/
import Derived.Test.YtbldahimdkifiaaLaw01
namespace Go.Proofs.Ytbldahimdkifiaa
open Go.RowKit
set_option linter.unusedVariables false

theorem lastN_zero (xs : List Int) : ∀ n, lastN xs n = 0 → ∀ i, i < n → xs.getD i 0 = 255
  | 0, _, i, h => by omega
  | n + 1, h, i, hi => by
    simp only [lastN] at h
    split at h
    · rename_i e
      by_cases hin : i = n
      · subst hin; exact e
      · exact lastN_zero xs n h i (by omega)
    · omega

theorem lastN_rest (xs : List Int) : ∀ n i, lastN xs n ≤ i → i < n → xs.getD i 0 = 255
  | 0, i, _, h => by omega
  | n + 1, i, h, hi => by
    simp only [lastN] at h
    split at h
    · rename_i e
      by_cases hin : i = n
      · subst hin; exact e
      · exact lastN_rest xs n i h (by omega)
    · omega

theorem cmp_tops : ∀ (xs k : List Int), (∀ x ∈ xs, x = 255) → (∀ x ∈ k, 0 ≤ x ∧ x < 256) → (0 ≤ cmpL k xs ↔ com k xs = xs.length)
  | [], [], _, _ => by simp [cmpL, com]
  | [], _ :: _, _, _ => by simp [cmpL, com]
  | x :: xs, [], _, _ => by simp [cmpL, com]
  | x :: xs, y :: k, h, hk => by
    have hx := h x (by simp)
    have hy := hk y (by simp)
    have ih := cmp_tops xs k (fun a ha => h a (by simp [ha])) (fun a ha => hk a (by simp [ha]))
    by_cases e : y = x
    · have e1 : cmpL (y :: k) (x :: xs) = cmpL k xs := by simp [cmpL, e]
      have e2 : com (y :: k) (x :: xs) = com k xs + 1 := by simp [com, e]
      rw [e1, e2, ih]; simp
    · have e1 : cmpL (y :: k) (x :: xs) = -1 := by simp only [cmpL]; rw [if_neg e, if_pos (by omega)]
      have e2 : com (y :: k) (x :: xs) = 0 := by simp [com, e]
      rw [e1, e2]; simp

theorem cmp_next : ∀ (pre : List Int) (x : Int) (rest k : List Int), (∀ a ∈ rest, a = 255) → (∀ a ∈ k, 0 ≤ a ∧ a < 256) →
    ((0 ≤ cmpL k (pre ++ x :: rest) ∧ cmpL k (pre ++ [x + 1]) < 0) ↔ com k (pre ++ x :: rest) = (pre ++ x :: rest).length)
  | [], x, rest, [], _, _ => by simp [cmpL, com]
  | [], x, rest, y :: k, h, hk => by
    have ht := cmp_tops rest k h (fun a ha => hk a (by simp [ha]))
    simp only [List.nil_append]
    by_cases e : y = x
    · have e1 : cmpL (y :: k) (x :: rest) = cmpL k rest := by simp [cmpL, e]
      have e2 : com (y :: k) (x :: rest) = com k rest + 1 := by simp [com, e]
      have e3 : cmpL (y :: k) [x + 1] = -1 := by simp only [cmpL]; rw [if_neg (by omega), if_pos (by omega)]
      rw [e1, e2, e3, ht]; simp
    · have e2 : com (y :: k) (x :: rest) = 0 := by simp [com, e]
      rw [e2]
      simp only [cmpL, if_neg e, List.length_cons]
      by_cases f : y < x
      · rw [if_pos f]; simp
      · rw [if_neg f]
        by_cases g : y = x + 1
        · rw [if_pos g]
          have : 0 ≤ cmpL k [] := by cases k <;> simp [cmpL]
          omega
        · rw [if_neg g, if_neg (by omega)]; simp
  | a :: pre, x, rest, [], _, _ => by simp [cmpL, com]
  | a :: pre, x, rest, y :: k, h, hk => by
    have ih := cmp_next pre x rest k h (fun a ha => hk a (by simp [ha]))
    simp only [List.cons_append]
    by_cases e : y = a
    · have e1 : ∀ l, cmpL (y :: k) (a :: l) = cmpL k l := fun l => by simp [cmpL, e]
      have e2 : ∀ l, com (y :: k) (a :: l) = com k l + 1 := fun l => by simp [com, e]
      rw [e1, e1, e2, ih]; simp
    · have e2 : ∀ l, com (y :: k) (a :: l) = 0 := fun l => by simp [com, e]
      rw [e2]
      simp only [cmpL, if_neg e, List.length_cons]
      by_cases f : y < a
      · rw [if_pos f]; simp
      · rw [if_neg f]; simp

theorem mem_getD (xs : List Int) (P : Int → Prop) (h : ∀ i, i < xs.length → P (xs.getD i 0)) : ∀ x ∈ xs, P x := by
  intro x hx
  obtain ⟨i, hi, rfl⟩ := List.getElem_of_mem hx
  have := h i hi
  rwa [List.getD_eq_getElem?_getD, List.getElem?_eq_getElem hi] at this

/-- what the next one of a beginning is good for -/
theorem next_none (xs k : List Int) (hk : ∀ x ∈ k, 0 ≤ x ∧ x < 256) (h : lastN xs xs.length = 0) : withinB k xs [] true = decide (com k xs = xs.length) := by
  have := cmp_tops xs k (mem_getD xs (· = 255) (lastN_zero xs xs.length h)) hk
  unfold withinB
  rw [Bool.true_or, Bool.and_true]
  exact decide_eq_decide.2 this

theorem next_some (xs k : List Int) (hk : ∀ x ∈ k, 0 ≤ x ∧ x < 256) (h : 0 < lastN xs xs.length) :
    withinB k xs (bump xs (lastN xs xs.length)) false = decide (com k xs = xs.length) := by
  have hle := lastN_le xs xs.length
  have hrest := lastN_rest xs xs.length
  generalize lastN xs xs.length = n at *
  have hn1 : n - 1 < xs.length := by omega
  have ex : xs = xs.take (n - 1) ++ xs.getD (n - 1) 0 :: xs.drop n := by
    have h1 : xs.drop (n - 1) = xs.getD (n - 1) 0 :: xs.drop n := by
      rw [List.drop_eq_getElem_cons hn1, List.getD_eq_getElem?_getD, List.getElem?_eq_getElem hn1, Nat.sub_add_cancel h]; rfl
    rw [← h1, List.take_append_drop]
  have eb : bump xs n = xs.take (n - 1) ++ [xs.getD (n - 1) 0 + 1] := by
    have h1 : xs.take n = xs.take (n - 1) ++ [xs[n - 1]] := by
      conv => lhs; rw [← Nat.sub_add_cancel h]
      exact List.take_succ_eq_append_getElem hn1
    unfold bump
    rw [h1, List.set_append, List.length_take, if_neg (by omega)]
    congr 1
    rw [show n - 1 - min (n - 1) xs.length = 0 by omega]
    rfl
  have hr : ∀ a ∈ xs.drop n, a = 255 := by
    refine mem_getD _ (· = 255) (fun i hi => ?_)
    rw [List.getD_eq_getElem?_getD, List.getElem?_drop, ← List.getD_eq_getElem?_getD]
    exact hrest (n + i) (by omega) (by rw [List.length_drop] at hi; omega)
  have := cmp_next (xs.take (n - 1)) (xs.getD (n - 1) 0) (xs.drop n) k hr hk
  rw [← ex, ← eb] at this
  unfold withinB
  rw [Bool.false_or, ← Bool.decide_and]
  exact decide_eq_decide.2 this

set_option maxRecDepth 100000 in
set_option maxHeartbeats 800000 in
theorem next_far (p q : Option Addr) (n c m d : Nat) (w : World) (hn : n ≤ 9223372036854775807) (hm : m ≤ 9223372036854775807) (hf : farB [(p, n, c), (q, m, d)] = true) :
    Calls Try.prog 4 #[.slice p n c, .slice q m d] w fun e w' => e = .returned (.bool true) ∧ Below w.heap.size w w' := by
  have hl := lit_hd w [(p, n, c), (q, m, d)]
  have HF := Lib.hid (far13 w.heap.size 2 2 [(p, n, c), (q, m, d)] (w.alloc (.cells #[.slice p n c, .slice q m d] 22)) rfl (by omega) hl (by intro h hh; rcases List.mem_cons.1 hh with rfl | hh; exact hn; rcases List.mem_cons.1 hh with rfl | hh; exact hm; cases hh))
  rw [hf] at HF
  clear hl hf
  go_enter Try.func4, Try.ntmps4
  go_wp2_with fail
  refine HF.out.mono ?_
  rintro e w' ⟨rfl, hw⟩
  have HL : Hid (Below w.heap.size w w') := by rw [hw]; exact (Below.refl _ _).alloc (Nat.le_refl _) _
  clear hw
  go_wp2_with fail
  refine (alive14 _).mono ?_; rintro e w2 ⟨rfl, hbel⟩
  have HL2 := Lib.hid (Below.step HL.out hbel)
  clear hbel
  go_wp2_with fail
  go_ret
  exact ⟨rfl, HL2.out⟩


theorem NextB.zero {w w' : World} {e : Ending} {xs : List Int} (h : NextB w w' e xs) (hz : lastN xs xs.length = 0) : e = .returned (.tuple #[.slice none 0 0, .bool false]) ∧ w' = w := by
  rcases h with ⟨_, h⟩ | ⟨h, _⟩
  · exact h
  · omega
theorem NextB.pos {w w' : World} {e : Ending} {xs : List Int} (h : NextB w w' e xs) (hz : 0 < lastN xs xs.length) :
    ∃ v, e = .returned (.tuple #[v, .bool true]) ∧ NewB w w' v (bump xs (lastN xs xs.length)) := by
  rcases h with ⟨h, _⟩ | ⟨_, h⟩
  · omega
  · exact h

set_option maxRecDepth 100000 in
set_option maxHeartbeats 1600000 in
theorem next_near (p q : Option Addr) (n c m d : Nat) (xs ys : List Int) (w : World) (h1 : Bs w p n c xs) (h2 : Bs w q m d ys) (hf : farB [(p, n, c), (q, m, d)] = false) :
    Calls Try.prog 4 #[.slice p n c, .slice q m d] w fun e w' => e = .returned (.bool true) ∧ Below w.heap.size w w' := by
  have hl := lit_hd w [(p, n, c), (q, m, d)]
  have hn := h1.big
  have hm := h2.big
  have HF := Lib.hid (far13 w.heap.size 2 2 [(p, n, c), (q, m, d)] (w.alloc (.cells #[.slice p n c, .slice q m d] 22)) rfl (by omega) hl (by intro h hh; rcases List.mem_cons.1 hh with rfl | hh; (show n ≤ _; omega); rcases List.mem_cons.1 hh with rfl | hh; (show m ≤ _; omega); cases hh))
  rw [hf] at HF
  have H1 := Lib.hid h1
  have H2 := Lib.hid h2
  have HLEN := Lib.hid h1.len
  clear hl hf h1 h2
  by_cases hz : lastN xs xs.length = 0
  · have hw1 := next_none xs ys H2.out.byte hz
    have HW := Lib.hid hw1
    have HZ := Lib.hid hz
    clear hw1 hz
    go_enter Try.func4, Try.ntmps4
    go_wp2_with fail
    refine HF.out.mono ?_
    rintro e w1 ⟨rfl, hw⟩
    have hbel : Below w.heap.size w w1 := by rw [hw]; exact (Below.refl _ _).alloc (Nat.le_refl _) _
    have HL := Lib.hid hbel
    have H1' := Lib.hid (H1.out.below hbel)
    have H2' := Lib.hid (H2.out.below hbel)
    clear hw hbel H1 H2
    go_wp2_with fail
    refine (next23 _ _ _ xs _ H1'.out).mono ?_
    intro e w' hN
    obtain ⟨rfl, hw'⟩ := hN.zero HZ.out
    obtain rfl : w' = w1 := hw'
    clear hN
    go_wp2_with fail
    refine (next24 _ _ _ xs _ H1'.out).mono ?_
    intro e w2 hN
    obtain ⟨rfl, hw'⟩ := hN.zero HZ.out
    obtain rfl : w2 = w' := hw'
    clear hN
    go_wp2_with fail
    refine (same17 _ _ _ _ _ _ _ _ _ (Bs.nil0 _) (Bs.nil0 _)).mono ?_
    rw [show (cmpL [] [] == 0) = true by decide]
    rintro e w' ⟨rfl, rfl⟩
    go_wp2_with fail
    refine (within25 _ _ _ _ _ _ _ _ _ _ _ _ true _ H2'.out H1'.out (Bs.nil0 _)).mono ?_
    rw [HW.out]
    rintro e w' ⟨rfl, rfl⟩
    go_wp2_with fail
    refine (begins22 _ _ _ _ _ _ _ _ _ H2'.out H1'.out).mono ?_
    rw [← HLEN.out]
    rintro e w3 ⟨rfl, z, hw3⟩
    have HL3 : Hid (Below w.heap.size w w3) := by rw [hw3]; exact below_drewN HL.out _
    generalize decide (com ys xs = xs.length) = r at *
    have q1 : (r == r) = true := by simp
    clear hw3
    go_wp2_with fail
    refine (alive14 _).mono ?_; rintro e w4 ⟨rfl, hbel⟩
    have HL4 := Lib.hid (Below.step HL3.out hbel)
    clear hbel
    go_wp2_with fail
    go_ret
    exact ⟨rfl, HL4.out⟩
  · have hz' : 0 < lastN xs xs.length := by omega
    have hw1 := next_some xs ys H2.out.byte hz'
    have HW := Lib.hid hw1
    have HZ := Lib.hid hz'
    clear hw1 hz hz'
    go_enter Try.func4, Try.ntmps4
    go_wp2_with fail
    refine HF.out.mono ?_
    rintro e w1 ⟨rfl, hw⟩
    have hbel : Below w.heap.size w w1 := by rw [hw]; exact (Below.refl _ _).alloc (Nat.le_refl _) _
    have HL := Lib.hid hbel
    have H1' := Lib.hid (H1.out.below hbel)
    have H2' := Lib.hid (H2.out.below hbel)
    clear hw hbel H1 H2
    go_wp2_with fail
    refine (next23 _ _ _ xs _ H1'.out).mono ?_
    intro e w2 hN
    obtain ⟨v, rfl, p2, c2, rfl, hb2, _, hbel2⟩ := hN.pos HZ.out
    have H3 := Lib.hid hb2
    have HL2 := Lib.hid (Below.step HL.out hbel2)
    have H12 := Lib.hid (H1'.out.below hbel2)
    have H22 := Lib.hid (H2'.out.below hbel2)
    clear hN hb2 hbel2 H1' H2'
    go_wp2_with fail
    refine (next24 _ _ _ xs _ H12.out).mono ?_
    intro e w3 hN
    obtain ⟨v, rfl, p3, c3, rfl, hb3, _, hbel3⟩ := hN.pos HZ.out
    have H4 := Lib.hid hb3
    have HL3 := Lib.hid (Below.step HL2.out hbel3)
    have H13 := Lib.hid (H12.out.below hbel3)
    have H23 := Lib.hid (H22.out.below hbel3)
    have H33 := Lib.hid (H3.out.below hbel3)
    clear hN hb3 hbel3 H12 H22 H3
    generalize bump xs (lastN xs xs.length) = bs at *
    go_wp2_with fail
    refine (same17 _ _ _ _ _ _ _ _ _ H33.out H4.out).mono ?_
    rw [show (cmpL bs bs == 0) = true by rw [beq_iff_eq, cmpL_zero]]
    rintro e w' ⟨rfl, rfl⟩
    go_wp2_with fail
    refine (within25 _ _ _ _ _ _ _ _ _ _ _ _ false _ H23.out H13.out H33.out).mono ?_
    rw [HW.out]
    rintro e w' ⟨rfl, rfl⟩
    go_wp2_with fail
    refine (begins22 _ _ _ _ _ _ _ _ _ H23.out H13.out).mono ?_
    rw [← HLEN.out]
    rintro e w4 ⟨rfl, z, hw4⟩
    have HL4 : Hid (Below w.heap.size w w4) := by rw [hw4]; exact below_drewN HL3.out _
    generalize decide (com ys xs = xs.length) = r at *
    have q1 : (r == r) = true := by simp
    clear hw4
    go_wp2_with fail
    refine (alive14 _).mono ?_; rintro e w5 ⟨rfl, hbel⟩
    have HL5 := Lib.hid (Below.step HL4.out hbel)
    clear hbel
    go_wp2_with fail
    go_ret
    exact ⟨rfl, HL5.out⟩

theorem walkKeysNext (p : Option Addr) (n c : Nat) (q : Option Addr) (m d : Nat) (w : World) (w0 : RawB w p n c) (w1 : RawB w q m d) :
    Calls Try.prog 4 #[.slice p n c, .slice q m d] w fun e w' => e = .returned (.bool true) ∧ Below w.heap.size w w' := by
  obtain ⟨hn, xs, hx⟩ := w0
  obtain ⟨hm, ys, hy⟩ := w1
  unfold maxLen at hn hm
  cases hf : farB [(p, n, c), (q, m, d)] with
  | true => exact next_far p q n c m d w hn hm hf
  | false =>
    have h1 := farB_false hf (p, n, c) (by simp)
    have h2 := farB_false hf (q, m, d) (by simp)
    exact next_near p q n c m d xs ys w (hx (by have : n ≤ 300 := h1; omega)) (hy (by have : m ≤ 300 := h2; omega)) hf

end Go.Proofs.Ytbldahimdkifiaa
