/-
  Plain words on keys as texts: digits, a key's text, the key of a text.
-/
import Derived.Test.YtbldahimdkifiaaPlain
namespace Go.Proofs.Ytbldahimdkifiaa

/-! ### keys as texts -/
/-- the sixteen digits, as bytes -/
def dgs : List UInt8 := [48, 49, 50, 51, 52, 53, 54, 55, 56, 57, 97, 98, 99, 100, 101, 102]
/-- a digit's value; -1: it is none -/
def dv (c : UInt8) : Int := Lib.indexByte dgs c

def parseL : List UInt8 → Option (List Int)
  | a :: b :: r => if dv a < 0 ∨ dv b < 0 then none else (parseL r).map ((16 * dv a + dv b) :: ·)
  | _ => some []

def errP (l : List UInt8) : Int := if 131071 < l.length then 8 else if l.length % 2 ≠ 0 then 3 else if parseL l = none then 3 else 0
def lstP (l : List UInt8) : List Int := if errP l = 0 then (parseL l).getD [] else []

/-- the digit of a number below 16 -/
def dg (x : Int) : UInt8 := dgs.getD x.toNat 0
/-- a key's text -/
def textL (xs : List Int) : List UInt8 := xs.flatMap fun x => [dg (x / 16), dg (x % 16)]

theorem dv_dg : ∀ k : Fin 16, dv (dg (k.val : Int)) = (k.val : Int) := by decide

theorem dv_dg' (x : Int) (h : 0 ≤ x ∧ x < 16) : dv (dg x) = x := by
  obtain ⟨n, rfl⟩ := Int.eq_ofNat_of_zero_le h.1
  exact dv_dg ⟨n, by omega⟩

theorem indexByte_range : ∀ (l : List UInt8) (c : UInt8), -1 ≤ Lib.indexByte l c ∧ Lib.indexByte l c < l.length
  | [], c => by simp [Lib.indexByte]
  | a :: l, c => by
    have ih := indexByte_range l c
    unfold Lib.indexByte
    split
    · simp
    · simp only [List.length_cons]
      repeat' split
      all_goals omega

theorem dv_range (c : UInt8) : -1 ≤ dv c ∧ dv c < 16 := by
  have := indexByte_range dgs c
  have e : dgs.length = 16 := rfl
  rw [e] at this
  exact this

theorem length_textL (xs : List Int) : (textL xs).length = 2 * xs.length := by
  induction xs with
  | nil => rfl
  | cons x xs ih => simp only [textL, List.flatMap_cons, List.length_append, List.length_cons, List.length_nil] at ih ⊢; omega

theorem parse_text : ∀ xs : List Int, (∀ x ∈ xs, 0 ≤ x ∧ x < 256) → parseL (textL xs) = some xs
  | [], _ => rfl
  | x :: xs, h => by
    have ih := parse_text xs (fun a ha => h a (by simp [ha]))
    have hx := h x (by simp)
    have h1 := dv_dg' (x / 16) (by omega)
    have h2 := dv_dg' (x % 16) (by omega)
    have e : textL (x :: xs) = dg (x / 16) :: dg (x % 16) :: textL xs := by simp [textL]
    rw [e, parseL, h1, h2, if_neg (by omega), ih]
    simp; omega

theorem errP_text (xs : List Int) (h : ∀ x ∈ xs, 0 ≤ x ∧ x < 256) (hl : xs.length ≤ 300) : errP (textL xs) = 0 ∧ lstP (textL xs) = xs := by
  have e : errP (textL xs) = 0 := by
    unfold errP
    rw [length_textL, parse_text xs h, if_neg (by omega), if_neg (by omega), if_neg (by simp)]
  exact ⟨e, by unfold lstP; rw [if_pos e, parse_text xs h]; rfl⟩

theorem parseL_byte : ∀ (l : List UInt8) (xs : List Int), parseL l = some xs → (∀ x ∈ xs, 0 ≤ x ∧ x < 256) ∧ 2 * xs.length ≤ l.length
  | [], xs, h => by simp [parseL] at h; subst h; simp
  | [a], xs, h => by simp [parseL] at h; subst h; simp
  | a :: b :: r, xs, h => by
    rw [parseL] at h
    split at h
    · cases h
    · rename_i hd
      obtain ⟨ys, hy, rfl⟩ := Option.map_eq_some_iff.1 h
      have ih := parseL_byte r ys hy
      have h1 := dv_range a
      have h2 := dv_range b
      refine ⟨fun x hx => ?_, by simp; omega⟩
      rcases List.mem_cons.1 hx with rfl | hx
      · omega
      · exact ih.1 x hx

end Go.Proofs.Ytbldahimdkifiaa
