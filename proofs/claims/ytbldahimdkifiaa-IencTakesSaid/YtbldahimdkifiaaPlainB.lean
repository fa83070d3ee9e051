/-
  Plain laws on the bytes of numbers without a sign: what was put is what the bytes tell; the bytes are in order as the numbers.
-/
import Derived.Test.YtbldahimdkifiaaUenc
namespace Go.Proofs.Ytbldahimdkifiaa
set_option linter.unusedVariables false

theorem foldl_shift (l : List Int) : ∀ a : Int, l.foldl (fun a x => 256 * a + x) a = a * 256 ^ l.length + valL l := by
  induction l with
  | nil => intro a; simp [valL]
  | cons x l ih =>
    intro a
    have h1 := ih (256 * a + x)
    have h2 := ih (256 * 0 + x)
    simp only [List.foldl_cons, valL, List.length_cons] at h1 h2 ⊢
    rw [h1, h2, Int.pow_succ]
    have e1 : (256 * a + x) * 256 ^ l.length = 256 * a * 256 ^ l.length + x * 256 ^ l.length := Int.add_mul _ _ _
    have e2 : (256 * 0 + x) * 256 ^ l.length = x * 256 ^ l.length := by rw [Int.mul_zero, Int.zero_add]
    have e3 : a * (256 ^ l.length * 256) = 256 * a * 256 ^ l.length := by
      rw [Int.mul_comm (256 ^ l.length) 256, ← Int.mul_assoc, Int.mul_comm a 256]
    rw [e1, e2, e3]; omega

theorem valL_cons (x : Int) (l : List Int) : valL (x :: l) = x * 256 ^ l.length + valL l := by
  have := foldl_shift l (256 * 0 + x)
  rw [Int.mul_zero, Int.zero_add] at this
  simpa [valL] using this

theorem valL_range (l : List Int) (h : ∀ x ∈ l, 0 ≤ x ∧ x < 256) : 0 ≤ valL l ∧ valL l < 256 ^ l.length := by
  have := valL_bd l.length l h (Nat.le_refl _)
  rwa [List.take_length] at this

theorem cmpL_valL : ∀ (xs ys : List Int), xs.length = ys.length → (∀ x ∈ xs, 0 ≤ x ∧ x < 256) → (∀ y ∈ ys, 0 ≤ y ∧ y < 256) → cmpL xs ys = ordI (valL xs) (valL ys)
  | [], [], _, _, _ => rfl
  | [], _ :: _, h, _, _ => by simp at h
  | _ :: _, [], h, _, _ => by simp at h
  | x :: xs, y :: ys, h, h1, h2 => by
    have hl : xs.length = ys.length := by simpa using h
    have ih := cmpL_valL xs ys hl (fun a ha => h1 a (by simp [ha])) (fun a ha => h2 a (by simp [ha]))
    have r1 := valL_range xs (fun a ha => h1 a (by simp [ha]))
    have r2 := valL_range ys (fun a ha => h2 a (by simp [ha]))
    rw [valL_cons, valL_cons, hl] at *
    rw [hl] at r1
    generalize valL xs = a at *
    generalize valL ys = b at *
    generalize hM : (256 : Int) ^ ys.length = M at *
    simp only [cmpL]
    by_cases e : x = y
    · subst e
      rw [if_pos rfl, ih]
      unfold ordI
      have e1 : (x * M + a < x * M + b) ↔ a < b := by omega
      have e2 : (x * M + b < x * M + a) ↔ b < a := by omega
      simp only [e1, e2]
    · rw [if_neg e]
      unfold ordI
      by_cases f : x < y
      · have : (x + 1) * M ≤ y * M := Int.mul_le_mul_of_nonneg_right (by omega) (by omega)
        rw [Int.add_mul, Int.one_mul] at this
        rw [if_pos f, if_pos (by omega)]
      · have : (y + 1) * M ≤ x * M := Int.mul_le_mul_of_nonneg_right (by omega) (by omega)
        rw [Int.add_mul, Int.one_mul] at this
        rw [if_neg f, if_neg (by omega), if_pos (by omega)]

theorem beL_succ (wd : Nat) (n : Int) : beL (wd + 1) n = (n / 2 ^ (8 * wd) % 256) :: beL wd n := by
  simp only [beL, List.range_succ_eq_map, List.map_cons, List.map_map]
  congr 1
  apply List.map_congr_left
  intro i hi
  have : wd + 1 - 1 - (i + 1) = wd - 1 - i := by omega
  simp only [Function.comp, Nat.succ_eq_add_one, this]

theorem pow_256 (k : Nat) : (2 : Int) ^ (8 * k) = 256 ^ k := by
  rw [Int.pow_mul]; rfl

theorem valL_beL : ∀ (wd : Nat) (n : Nat), valL (beL wd n) = ((n % 256 ^ wd : Nat) : Int)
  | 0, n => by simp [beL, valL]
  | wd + 1, n => by
    rw [beL_succ, valL_cons, valL_beL wd n, length_beL, pow_256]
    have := Nat.mod_mul (x := n) (a := 256 ^ wd) (b := 256)
    rw [Nat.pow_succ, this]
    have e1 : ((256 : Int) ^ wd) = ((256 ^ wd : Nat) : Int) := by simp
    rw [e1]
    generalize 256 ^ wd = M
    have e2 : ((n : Int) / (M : Int) % 256) = ((n / M % 256 : Nat) : Int) := by simp
    rw [e2]
    generalize n / M % 256 = q
    generalize n % M = r
    rw [Int.natCast_add, Int.natCast_mul, Int.mul_comm (M : Int)]
    omega

/-- what stands in a width's bytes, and comes out of them again -/
theorem round_beL (wd : Nat) (n : Int) (h0 : 0 ≤ n) (h1 : n < 256 ^ wd) : valL (beL wd n) = n := by
  obtain ⟨m, rfl⟩ := Int.eq_ofNat_of_zero_le h0
  rw [valL_beL, Nat.mod_eq_of_lt]
  have : ((m : Nat) : Int) < ((256 ^ wd : Nat) : Int) := by simpa using h1
  exact Int.ofNat_lt.1 this

theorem order_beL (wd : Nat) (a b : Int) (h0 : 0 ≤ a) (h1 : a < 256 ^ wd) (h2 : 0 ≤ b) (h3 : b < 256 ^ wd) : cmpL (beL wd a) (beL wd b) = ordI a b := by
  rw [cmpL_valL _ _ (by rw [length_beL, length_beL]) (byte_beL _ _) (byte_beL _ _), round_beL wd a h0 h1, round_beL wd b h2 h3]

theorem most_lt (wd : Nat) (h : errV (wd : Int) = 0) (n : Int) (hn : n ≤ mostV wd) : n < 256 ^ wd := by
  rcases width_cases wd with ⟨e, he, hm⟩ | ⟨e, he, hm⟩ | ⟨e, he, hm⟩ | ⟨e, he, hm⟩ | ⟨_, _, _, _, he, _⟩
  · obtain rfl : wd = 1 := by omega
    rw [hm] at hn; simp; omega
  · obtain rfl : wd = 2 := by omega
    rw [hm] at hn; simp; omega
  · obtain rfl : wd = 4 := by omega
    rw [hm] at hn; simp; omega
  · obtain rfl : wd = 8 := by omega
    rw [hm] at hn; simp; omega
  · omega

theorem takeN_put (wd : Nat) (n : Int) (b : List Int) (he : errV (wd : Int) = 0) (h0 : 0 ≤ n) (hn : n ≤ mostV wd) :
    takeE wd (beL wd n ++ b).length = 0 ∧ takeN wd (beL wd n ++ b) = n ∧ takeL wd (beL wd n ++ b) = b := by
  have hl := length_beL wd n
  have e1 : takeE wd (beL wd n ++ b).length = 0 := takeE_ok he (by rw [List.length_append]; omega)
  refine ⟨e1, ?_, ?_⟩
  · unfold takeN
    rw [if_pos e1, Int.toNat_natCast, List.take_left' hl]
    exact round_beL wd n h0 (most_lt wd he n hn)
  · unfold takeL
    rw [if_pos e1, Int.toNat_natCast, List.drop_left' hl]

end Go.Proofs.Ytbldahimdkifiaa
