/-
  Plain words on lists of bytes (whole numbers), for the seat Ytbldahimdkifiaa: how many numbers both lists begin with, their order, the next one of a prefix. No program in sight.
-/
import Derived.Lib.Bytes
import Derived.Lib.Strings
import Derived.Lib.Bytealg
namespace Go.Proofs.Ytbldahimdkifiaa

/-- with how many numbers both lists begin -/
def com : List Int → List Int → Nat
  | x :: xs, y :: ys => if x = y then com xs ys + 1 else 0
  | _, _ => 0

/-- the order of two lists -/
def cmpL : List Int → List Int → Int
  | [], [] => 0
  | [], _ :: _ => -1
  | _ :: _, [] => 1
  | x :: xs, y :: ys => if x = y then cmpL xs ys else if x < y then -1 else 1

theorem com_le_left : ∀ (xs ys : List Int), com xs ys ≤ xs.length
  | [], _ => by simp [com]
  | _ :: _, [] => by simp [com]
  | x :: xs, y :: ys => by
    have := com_le_left xs ys
    simp only [com]; split <;> simp <;> omega

theorem com_le_right : ∀ (xs ys : List Int), com xs ys ≤ ys.length
  | [], _ => by simp [com]
  | _ :: _, [] => by simp [com]
  | x :: xs, y :: ys => by
    have := com_le_right xs ys
    simp only [com]; split <;> simp <;> omega

theorem com_eq : ∀ (k : Nat) (xs ys : List Int), k ≤ xs.length → k ≤ ys.length → (∀ j, j < k → xs.getD j 0 = ys.getD j 0) →
    (k < xs.length → k < ys.length → xs.getD k 0 ≠ ys.getD k 0) → com xs ys = k
  | 0, [], _, _, _, _, _ => by simp [com]
  | 0, _ :: _, [], _, _, _, _ => by simp [com]
  | 0, x :: xs, y :: ys, _, _, _, h => by
    have := h (by simp) (by simp)
    simp at this
    simp [com, this]
  | k + 1, [], _, h, _, _, _ => by simp at h
  | k + 1, _ :: _, [], _, h, _, _ => by simp at h
  | k + 1, x :: xs, y :: ys, h1, h2, h3, h4 => by
    have h0 : x = y := by simpa using h3 0 (by omega)
    simp only [com, if_pos h0]
    rw [com_eq k xs ys (by simpa using h1) (by simpa using h2) (fun j hj => by simpa using h3 (j + 1) (by omega))
      (fun a b => by simpa using h4 (by simpa using a) (by simpa using b))]

theorem com_same : ∀ (xs ys : List Int) (j : Nat), j < com xs ys → xs.getD j 0 = ys.getD j 0
  | [], _, j, h => by simp [com] at h
  | _ :: _, [], j, h => by simp [com] at h
  | x :: xs, y :: ys, j, h => by
    simp only [com] at h
    split at h
    · rename_i e
      cases j with
      | zero => simpa using e
      | succ j => simpa using com_same xs ys j (by omega)
    · omega

theorem com_diff : ∀ (xs ys : List Int), com xs ys < xs.length → com xs ys < ys.length → xs.getD (com xs ys) 0 ≠ ys.getD (com xs ys) 0
  | [], _, h, _ => by simp [com] at h
  | _ :: _, [], _, h => by simp [com] at h
  | x :: xs, y :: ys, h1, h2 => by
    simp only [com] at h1 h2 ⊢
    split
    · rename_i e
      rw [if_pos e] at h1 h2
      simpa using com_diff xs ys (by simpa using h1) (by simpa using h2)
    · rename_i e
      simpa using e

theorem cmpL_com : ∀ (xs ys : List Int), cmpL xs ys =
    if com xs ys = xs.length ∧ com xs ys = ys.length then 0 else if com xs ys = xs.length then -1 else if com xs ys = ys.length then 1
    else if xs.getD (com xs ys) 0 < ys.getD (com xs ys) 0 then -1 else 1
  | [], [] => by simp [cmpL, com]
  | [], _ :: _ => by simp [cmpL, com]
  | _ :: _, [] => by simp [cmpL, com]
  | x :: xs, y :: ys => by
    have ih := cmpL_com xs ys
    by_cases e : x = y
    · have h1 : com (x :: xs) (y :: ys) = com xs ys + 1 := by simp [com, e]
      have h2 : cmpL (x :: xs) (y :: ys) = cmpL xs ys := by simp [cmpL, e]
      rw [h2, ih]
      simp [h1]
    · have h1 : com (x :: xs) (y :: ys) = 0 := by simp [com, e]
      simp [h1, cmpL, e]

theorem cmpL_zero : ∀ (xs ys : List Int), cmpL xs ys = 0 ↔ xs = ys
  | [], [] => by simp [cmpL]
  | [], _ :: _ => by simp [cmpL]
  | _ :: _, [] => by simp [cmpL]
  | x :: xs, y :: ys => by
    simp only [cmpL]
    by_cases e : x = y
    · rw [if_pos e, cmpL_zero xs ys]; simp [e]
    · rw [if_neg e]; simp [e]; split <;> simp

theorem cmpL_range (xs ys : List Int) : -1 ≤ cmpL xs ys ∧ cmpL xs ys ≤ 1 := by
  rw [cmpL_com]
  repeat' split
  all_goals omega

theorem byte_inj {x y : Int} (hx : 0 ≤ x ∧ x < 256) (hy : 0 ≤ y ∧ y < 256) : (UInt8.ofNat x.toNat = UInt8.ofNat y.toNat) ↔ x = y := by
  rw [← UInt8.toNat_inj, UInt8.toNat_ofNat', UInt8.toNat_ofNat']; omega

theorem bytesOf_inj : ∀ (xs ys : List Int), (∀ x ∈ xs, 0 ≤ x ∧ x < 256) → (∀ y ∈ ys, 0 ≤ y ∧ y < 256) → (Lib.bytesOf xs = Lib.bytesOf ys ↔ xs = ys)
  | [], [], _, _ => by simp [Lib.bytesOf]
  | [], _ :: _, _, _ => by simp [Lib.bytesOf]
  | _ :: _, [], _, _ => by simp [Lib.bytesOf]
  | x :: xs, y :: ys, h1, h2 => by
    have ih := bytesOf_inj xs ys (fun a ha => h1 a (by simp [ha])) (fun a ha => h2 a (by simp [ha]))
    simp only [Lib.bytesOf, List.map_cons, List.cons.injEq] at ih ⊢
    rw [byte_inj (h1 x (by simp)) (h2 y (by simp)), ih]

theorem beq_bytesOf (xs ys : List Int) (h1 : ∀ x ∈ xs, 0 ≤ x ∧ x < 256) (h2 : ∀ y ∈ ys, 0 ≤ y ∧ y < 256) : (Lib.bytesOf xs == Lib.bytesOf ys) = (cmpL xs ys == 0) := by
  rw [Bool.eq_iff_iff]
  simp only [beq_iff_eq]
  rw [bytesOf_inj xs ys h1 h2, cmpL_zero]

theorem hasPrefix_com : ∀ (xs ys : List Int), (∀ x ∈ xs, 0 ≤ x ∧ x < 256) → (∀ y ∈ ys, 0 ≤ y ∧ y < 256) →
    Lib.hasPrefix (Lib.bytesOf xs) (Lib.bytesOf ys) = decide (com xs ys = ys.length)
  | [], [], _, _ => by simp [Lib.bytesOf, Lib.hasPrefix, com]
  | [], _ :: _, _, _ => by simp [Lib.bytesOf, Lib.hasPrefix, com]
  | _ :: _, [], _, _ => by simp [Lib.bytesOf, Lib.hasPrefix, com]
  | x :: xs, y :: ys, h1, h2 => by
    have ih := hasPrefix_com xs ys (fun a ha => h1 a (by simp [ha])) (fun a ha => h2 a (by simp [ha]))
    have hb := byte_inj (h2 y (by simp)) (h1 x (by simp))
    have hp : Lib.hasPrefix (Lib.bytesOf (x :: xs)) (Lib.bytesOf (y :: ys)) = (UInt8.ofNat y.toNat == UInt8.ofNat x.toNat && Lib.hasPrefix (Lib.bytesOf xs) (Lib.bytesOf ys)) := rfl
    rw [hp, ih]
    by_cases e : x = y
    · subst e
      have h1 : com (x :: xs) (x :: ys) = com xs ys + 1 := by simp [com]
      simp [h1]
    · have h1 : com (x :: xs) (y :: ys) = 0 := by simp [com, e]
      have : (UInt8.ofNat y.toNat == UInt8.ofNat x.toNat) = false := by
        rw [beq_eq_false_iff_ne]; intro h; exact e (hb.1 h).symm
      simp [this, h1]

theorem compareBytes_cmpL : ∀ (xs ys : List Int), (∀ x ∈ xs, 0 ≤ x ∧ x < 256) → (∀ y ∈ ys, 0 ≤ y ∧ y < 256) → Lib.compareBytes (Lib.bytesOf xs) (Lib.bytesOf ys) = cmpL xs ys
  | [], [], _, _ => by simp [Lib.bytesOf, Lib.compareBytes, cmpL]
  | [], _ :: _, _, _ => by simp [Lib.bytesOf, Lib.compareBytes, cmpL]
  | _ :: _, [], _, _ => by simp [Lib.bytesOf, Lib.compareBytes, cmpL]
  | x :: xs, y :: ys, h1, h2 => by
    have ih := compareBytes_cmpL xs ys (fun a ha => h1 a (by simp [ha])) (fun a ha => h2 a (by simp [ha]))
    have hx := h1 x (by simp)
    have hy := h2 y (by simp)
    have l1 : (UInt8.ofNat x.toNat < UInt8.ofNat y.toNat) ↔ x < y := by
      rw [UInt8.lt_iff_toNat_lt, UInt8.toNat_ofNat', UInt8.toNat_ofNat']; omega
    have l2 : (UInt8.ofNat y.toNat < UInt8.ofNat x.toNat) ↔ y < x := by
      rw [UInt8.lt_iff_toNat_lt, UInt8.toNat_ofNat', UInt8.toNat_ofNat']; omega
    show (if UInt8.ofNat x.toNat < UInt8.ofNat y.toNat then -1 else if UInt8.ofNat y.toNat < UInt8.ofNat x.toNat then 1 else Lib.compareBytes (Lib.bytesOf xs) (Lib.bytesOf ys)) = _
    simp only [l1, l2, ih, cmpL]
    by_cases e : x = y
    · subst e; simp
    · by_cases f : x < y
      · simp [e, f]
      · have : y < x := by omega
        simp [e, f, this]

/-- how many of the first n numbers stand ahead of those at the end that are 255 -/
def lastN (xs : List Int) : Nat → Nat
  | 0 => 0
  | n + 1 => if xs.getD n 0 = 255 then lastN xs n else n + 1

/-- the next one of a prefix whose first n (n > 0) numbers do not end in 255 -/
def bump (xs : List Int) (n : Nat) : List Int := (xs.take n).set (n - 1) (xs.getD (n - 1) 0 + 1)

theorem lastN_le (xs : List Int) : ∀ n, lastN xs n ≤ n
  | 0 => Nat.le_refl _
  | n + 1 => by
    have := lastN_le xs n
    simp only [lastN]; split <;> omega

theorem lastN_end (xs : List Int) : ∀ n, 0 < lastN xs n → xs.getD (lastN xs n - 1) 0 ≠ 255
  | 0, h => by simp [lastN] at h
  | n + 1, h => by
    simp only [lastN] at h ⊢
    split
    · rename_i e; rw [if_pos e] at h; exact lastN_end xs n h
    · rename_i e; simpa using e

theorem lastN_fix (xs : List Int) (k : Nat) (h : 0 < k → xs.getD (k - 1) 0 ≠ 255) : lastN xs k = k := by
  cases k with
  | zero => rfl
  | succ k => simp only [lastN]; rw [if_neg (by simpa using h (by omega))]

theorem lastN_step (xs : List Int) (k : Nat) (h0 : 0 < k) (h : xs.getD (k - 1) 0 = 255) : lastN xs k = lastN xs (k - 1) := by
  cases k with
  | zero => omega
  | succ k => simp only [lastN]; rw [if_pos (by simpa using h)]; rfl

theorem length_bump (xs : List Int) (n : Nat) (h : n ≤ xs.length) : (bump xs n).length = n := by
  simp [bump]; omega

theorem getD_bump (xs : List Int) (n i : Nat) (h : n ≤ xs.length) (hi : i < n) : (bump xs n).getD i 0 = if i = n - 1 then xs.getD (n - 1) 0 + 1 else xs.getD i 0 := by
  simp only [bump, List.getD_eq_getElem?_getD, List.getElem?_set, List.length_take]
  by_cases e : n - 1 = i
  · subst e
    rw [if_pos rfl, if_pos (by omega), if_pos rfl]; rfl
  · rw [if_neg e, if_neg (fun f => e f.symm), List.getElem?_take, if_pos hi]

end Go.Proofs.Ytbldahimdkifiaa
