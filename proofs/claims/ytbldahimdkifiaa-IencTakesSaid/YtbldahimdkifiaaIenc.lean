/-
  Contracts of the seat's functions on the bytes of numbers with a sign (ienc, and its reference).
-/
import Derived.Test.YtbldahimdkifiaaLaw02o
import Derived.Test.YtbldahimdkifiaaShelf
import Derived.Handy
namespace Go.Proofs.Ytbldahimdkifiaa
open Go.RowKit
set_option linter.unusedVariables false

def imostV (x : Int) : Int := if x = 1 then 127 else if x = 2 then 32767 else if x = 4 then 2147483647 else if x = 8 then 9223372036854775807 else 0
def ileastV (x : Int) : Int := if x = 1 then -128 else if x = 2 then -32768 else if x = 4 then -2147483648 else if x = 8 then -9223372036854775808 else 0

theorem iwidth_cases (x : Int) : (x = 1 ∧ errV x = 0 ∧ imostV x = 127 ∧ ileastV x = -128) ∨ (x = 2 ∧ errV x = 0 ∧ imostV x = 32767 ∧ ileastV x = -32768) ∨ (x = 4 ∧ errV x = 0 ∧ imostV x = 2147483647 ∧ ileastV x = -2147483648) ∨
    (x = 8 ∧ errV x = 0 ∧ imostV x = 9223372036854775807 ∧ ileastV x = -9223372036854775808) ∨ ((x == 1) = false ∧ (x == 2) = false ∧ (x == 4) = false ∧ (x == 8) = false ∧ errV x = 1 ∧ imostV x = 0 ∧ ileastV x = 0) := by
  by_cases h1 : x = 1
  · subst h1; exact .inl ⟨rfl, rfl, rfl, rfl⟩
  by_cases h2 : x = 2
  · subst h2; exact .inr (.inl ⟨rfl, rfl, rfl, rfl⟩)
  by_cases h4 : x = 4
  · subst h4; exact .inr (.inr (.inl ⟨rfl, rfl, rfl, rfl⟩))
  by_cases h8 : x = 8
  · subst h8; exact .inr (.inr (.inr (.inl ⟨rfl, rfl, rfl, rfl⟩)))
  · right; right; right; right
    simp [errV, imostV, ileastV, h1, h2, h4, h8]

theorem idx_not {x : Int} (h1 : (x == 1) = false) (h2 : (x == 2) = false) (h4 : (x == 4) = false) (h8 : (x == 8) = false) : Lib.idxOf (([1, 2, 4, 8] : List Int).take 4) x = -1 := by
  simp at h1 h2 h4 h8
  simp only [Lib.idxOf, Lib.idxFrom, List.take]
  rw [if_neg (by omega), if_neg (by omega), if_neg (by omega), if_neg (by omega)]

set_option maxHeartbeats 400000 in
theorem widths68 (w : World) : Calls Try.prog 68 #[] w fun e w' => e = .returned (.agg #[.int .i64 1, .int .i64 2, .int .i64 4, .int .i64 8]) ∧ Below w.heap.size w w' := by
  have HL := Lib.hid (fun o => (Below.refl w.heap.size w).alloc (Nat.le_refl _) o)
  go_enter Try.func68, Try.ntmps68
  go_wp2
  go_returns
  exact ⟨rfl, HL.out _⟩

set_option maxHeartbeats 400000 in
theorem limits70 (w : World) : Calls Try.prog 70 #[] w fun e w' => e = .returned (.agg #[.int .i64 127, .int .i64 32767, .int .i64 2147483647, .int .i64 9223372036854775807]) ∧ Below w.heap.size w w' := by
  have HL := Lib.hid (fun o => (Below.refl w.heap.size w).alloc (Nat.le_refl _) o)
  go_enter Try.func70, Try.ntmps70
  go_wp2
  go_returns
  exact ⟨rfl, HL.out _⟩

theorem index69 (x i : Int) (W W1 : World) (b : Nat) (hb : b = W.heap.size) (h : W1 = W.alloc (.cells #[.int .i64 1, .int .i64 2, .int .i64 4, .int .i64 8] 91)) (hi : Lib.idxOf (([1, 2, 4, 8] : List Int).take 4) x = i) :
    Calls Try.prog 69 #[.slice (some ⟨b, 0, none⟩) 4 4, .int .i64 x] W1 fun e w' => e = .returned (.int .i64 i) ∧ w' = W1 := by
  subst hb h hi
  refine Try.slices_Index_int _ 0 4 4 [1, 2, 4, 8] x _ (by decide) (by omega) (fun j hj => ?_)
  rw [cell_of_row _ _ (0 + j) _ 91 (0, 0) (heap_alloc_new W _)]
  match j, hj with
  | 0, _ => rfl
  | 1, _ => rfl
  | 2, _ => rfl
  | 3, _ => rfl

def lims : Array Value := #[.int .i64 127, .int .i64 32767, .int .i64 2147483647, .int .i64 9223372036854775807]
theorem idx95 (i m : Int) (h : i = 0 ∧ m = 127 ∨ i = 1 ∧ m = 32767 ∨ i = 2 ∧ m = 2147483647 ∨ i = 3 ∧ m = 9223372036854775807) (w : World) :
    (Instr.index 95 (.agg #[.int .i64 127, .int .i64 32767, .int .i64 2147483647, .int .i64 9223372036854775807]) (.int .i64 i)).run Try.prog w = .ok (.int .i64 m) w := by
  show (Instr.index 95 (.agg lims) (.int .i64 i)).run Try.prog w = _
  rcases h with ⟨rfl, rfl⟩ | ⟨rfl, rfl⟩ | ⟨rfl, rfl⟩ | ⟨rfl, rfl⟩ <;>
    simp [Instr.index, run_underlying Try.underlying95, asIntOf, go_sem, lims]

set_option maxRecDepth 100000 in
set_option maxHeartbeats 400000 in
theorem most47 (x : Int) (w : World) : Calls Try.prog 47 #[.int .i64 x] w fun e w' => e = .returned (.tuple #[.int .i64 (imostV x), .int .i64 (errV x)]) ∧ Below w.heap.size w w' := by
  have key : ∀ (i m er : Int), Lib.idxOf (([1, 2, 4, 8] : List Int).take 4) x = i → imostV x = m → errV x = er → (i = 0 ∧ m = 127 ∧ er = 0 ∨ i = 1 ∧ m = 32767 ∧ er = 0 ∨ i = 2 ∧ m = 2147483647 ∧ er = 0 ∨ i = 3 ∧ m = 9223372036854775807 ∧ er = 0 ∨ i = -1 ∧ m = 0 ∧ er = 1) →
      Calls Try.prog 47 #[.int .i64 x] w fun e w' => e = .returned (.tuple #[.int .i64 m, .int .i64 er]) ∧ Below w.heap.size w w' := by
    intro i m er hi hm he hc
    have HI := Lib.hid (fun W W1 b hb h => index69 x i W W1 b hb h hi)
    clear hi hm he
    rcases hc with ⟨rfl, rfl, rfl⟩ | ⟨rfl, rfl, rfl⟩ | ⟨rfl, rfl, rfl⟩ | ⟨rfl, rfl, rfl⟩ | ⟨rfl, rfl, rfl⟩
    all_goals
      go_enter Try.func47, Try.ntmps47
      go_wp2_with fail
      refine (widths68 _).mono ?_; rintro e w1 ⟨rfl, hbel1⟩
      have HL1 := Lib.hid hbel1
      clear hbel1
      go_wp2_with fail
      refine (HI.out w1 _ _ rfl rfl).mono ?_
      rintro e w' ⟨rfl, hw'⟩
      have HL2 : Hid (Below w.heap.size w w') := by
        show Below _ _ _
        rw [hw']; exact HL1.out.alloc HL1.out.size _
      clear hw'
      go_wp2_with fail
      first
      | (refine (limits70 _).mono ?_; rintro e w3 ⟨rfl, hbel3⟩
         have HL3 := Lib.hid (Below.step HL2.out hbel3)
         clear hbel3
         go_wp2_with fail
         first
         | rw [idx95 0 127 (by omega)]
         | rw [idx95 1 32767 (by omega)]
         | rw [idx95 2 2147483647 (by omega)]
         | rw [idx95 3 9223372036854775807 (by omega)]
         go_wp2_with fail
         go_ret2
         exact ⟨rfl, HL3.out⟩)
      | (go_ret2
         exact ⟨rfl, HL2.out⟩)
  rcases iwidth_cases x with ⟨rfl, he, hm, _⟩ | ⟨rfl, he, hm, _⟩ | ⟨rfl, he, hm, _⟩ | ⟨rfl, he, hm, _⟩ | ⟨h1, h2, h4, h8, he, hm, _⟩
  · rw [he, hm]; exact key 0 _ _ rfl hm he (by omega)
  · rw [he, hm]; exact key 1 _ _ rfl hm he (by omega)
  · rw [he, hm]; exact key 2 _ _ rfl hm he (by omega)
  · rw [he, hm]; exact key 3 _ _ rfl hm he (by omega)
  · rw [he, hm]; exact key (-1) _ _ (idx_not h1 h2 h4 h8) hm he (by omega)

set_option maxHeartbeats 400000 in
theorem most48 (x : Int) (w : World) : Calls Try.prog 48 #[.int .i64 x] w fun e w' => e = .returned (.tuple #[.int .i64 (imostV x), .int .i64 (errV x)]) ∧ w' = w := by
  rcases iwidth_cases x with ⟨rfl, he, hm, _⟩ | ⟨rfl, he, hm, _⟩ | ⟨rfl, he, hm, _⟩ | ⟨rfl, he, hm, _⟩ | ⟨h1, h2, h4, h8, he, hm, _⟩
  all_goals
    have H := Lib.hid he
    have M := Lib.hid hm
    clear he hm
    go_enter Try.func48, Try.ntmps48
    go_wp2
    go_ret2
    exact ⟨ret2 (vint (by rw [M.out])) (vint (by rw [H.out])), rfl⟩

set_option maxHeartbeats 400000 in
theorem least49_yes (x m l : Int) (w : World) (hx : bits .xor .i64 (-1) m = l) (HM : Hid (Calls Try.prog 47 #[.int .i64 x] w fun e w' => e = .returned (.tuple #[.int .i64 m, .int .i64 0]) ∧ Below w.heap.size w w')) :
    Calls Try.prog 49 #[.int .i64 x] w fun e w' => e = .returned (.tuple #[.int .i64 l, .int .i64 0]) ∧ Below w.heap.size w w' := by
  have HX := Lib.hid hx
  clear hx
  go_enter Try.func49, Try.ntmps49
  go_wp2_with fail
  refine HM.out.mono ?_; rintro e w1 ⟨rfl, hbel⟩
  have HL := Lib.hid hbel
  clear hbel
  go_wp2_with fail
  · go_ret2
    exact ⟨ret2 (vint HX.out) rfl, HL.out⟩
  all_goals simp [IntKind.signed] at *

set_option maxHeartbeats 400000 in
theorem least49_no (x : Int) (w : World) (HM : Hid (Calls Try.prog 47 #[.int .i64 x] w fun e w' => e = .returned (.tuple #[.int .i64 0, .int .i64 1]) ∧ Below w.heap.size w w')) :
    Calls Try.prog 49 #[.int .i64 x] w fun e w' => e = .returned (.tuple #[.int .i64 0, .int .i64 1]) ∧ Below w.heap.size w w' := by
  go_enter Try.func49, Try.ntmps49
  go_wp2_with fail
  refine HM.out.mono ?_; rintro e w1 ⟨rfl, hbel⟩
  have HL := Lib.hid hbel
  clear hbel
  go_wp2_with fail
  go_ret2
  exact ⟨rfl, HL.out⟩

theorem least49 (x : Int) (w : World) : Calls Try.prog 49 #[.int .i64 x] w fun e w' => e = .returned (.tuple #[.int .i64 (ileastV x), .int .i64 (errV x)]) ∧ Below w.heap.size w w' := by
  have HM := Lib.hid (most47 x w)
  rcases iwidth_cases x with ⟨_, he, hm, hl⟩ | ⟨_, he, hm, hl⟩ | ⟨_, he, hm, hl⟩ | ⟨_, he, hm, hl⟩ | ⟨_, _, _, _, he, hm, hl⟩
  · rw [he, hm] at HM; rw [he, hl]; exact least49_yes x _ _ w (by decide +kernel) HM
  · rw [he, hm] at HM; rw [he, hl]; exact least49_yes x _ _ w (by decide +kernel) HM
  · rw [he, hm] at HM; rw [he, hl]; exact least49_yes x _ _ w (by decide +kernel) HM
  · rw [he, hm] at HM; rw [he, hl]; exact least49_yes x _ _ w (by decide +kernel) HM
  · rw [he, hm] at HM; rw [he, hl]; exact least49_no x w HM

set_option maxHeartbeats 400000 in
theorem least50_yes (x m l : Int) (w : World) (hx : l = -m - 1) (hm : 0 ≤ m ∧ m ≤ 9223372036854775807) (HM : Hid (Calls Try.prog 48 #[.int .i64 x] w fun e w' => e = .returned (.tuple #[.int .i64 m, .int .i64 0]) ∧ w' = w)) :
    Calls Try.prog 50 #[.int .i64 x] w fun e w' => e = .returned (.tuple #[.int .i64 l, .int .i64 0]) ∧ w' = w := by
  have HX := Lib.hid hx
  have q1 : IntKind.i64.wrap (-m) = -m := IntWalk.i64_in _ (by omega)
  clear hx
  go_enter Try.func50, Try.ntmps50
  go_wp2_with fail
  refine HM.out.mono ?_; rintro e w1 ⟨rfl, rfl⟩
  go_wp2_with fail
  go_ret2
  exact ⟨ret2 (vint HX.out.symm) rfl, rfl⟩

set_option maxHeartbeats 400000 in
theorem least50_no (x : Int) (w : World) (HM : Hid (Calls Try.prog 48 #[.int .i64 x] w fun e w' => e = .returned (.tuple #[.int .i64 0, .int .i64 1]) ∧ w' = w)) :
    Calls Try.prog 50 #[.int .i64 x] w fun e w' => e = .returned (.tuple #[.int .i64 0, .int .i64 1]) ∧ w' = w := by
  go_enter Try.func50, Try.ntmps50
  go_wp2_with fail
  refine HM.out.mono ?_; rintro e w1 ⟨rfl, rfl⟩
  go_wp2_with fail
  go_ret2
  exact ⟨rfl, rfl⟩

theorem least50 (x : Int) (w : World) : Calls Try.prog 50 #[.int .i64 x] w fun e w' => e = .returned (.tuple #[.int .i64 (ileastV x), .int .i64 (errV x)]) ∧ w' = w := by
  have HM := Lib.hid (most48 x w)
  rcases iwidth_cases x with ⟨_, he, hm, hl⟩ | ⟨_, he, hm, hl⟩ | ⟨_, he, hm, hl⟩ | ⟨_, he, hm, hl⟩ | ⟨_, _, _, _, he, hm, hl⟩
  · rw [he, hm] at HM; rw [he, hl]; exact least50_yes x _ _ w (by omega) (by omega) HM
  · rw [he, hm] at HM; rw [he, hl]; exact least50_yes x _ _ w (by omega) (by omega) HM
  · rw [he, hm] at HM; rw [he, hl]; exact least50_yes x _ _ w (by omega) (by omega) HM
  · rw [he, hm] at HM; rw [he, hl]; exact least50_yes x _ _ w (by omega) (by omega) HM
  · rw [he, hm] at HM; rw [he, hl]; exact least50_no x w HM

set_option maxHeartbeats 400000 in
theorem ccmp71 (a b : Int) (w : World) : Calls Try.prog 71 #[.int .i64 a, .int .i64 b] w fun e w' => e = .returned (.int .i64 (ordI a b)) ∧ w' = w := by
  have q1 : (a != a) = false := by simp
  have q2 : (b != b) = false := by simp
  rcases ord_cases a b with ⟨h, e⟩ | ⟨h, h2, e⟩ | ⟨rfl, e⟩
  all_goals
    have HE := Lib.hid e
    clear e
    go_enter Try.func71, Try.ntmps71
    go_wp2
    go_ret
    exact ⟨ret_int HE.out.symm, rfl⟩

set_option maxHeartbeats 400000 in
theorem cmp57 (a b : Int) (w : World) : Calls Try.prog 57 #[.int .i64 a, .int .i64 b] w fun e w' => e = .returned (.int .i64 (ordI a b)) ∧ w' = w := by
  have H := Lib.hid (ccmp71 a b w)
  generalize ordI a b = r at *
  go_enter Try.func57, Try.ntmps57
  go_wp2_with fail
  refine H.out.mono ?_; rintro e w' ⟨rfl, rfl⟩
  go_wp2_with fail
  go_ret
  exact ⟨rfl, rfl⟩

set_option maxHeartbeats 400000 in
theorem cmp58 (a b : Int) (w : World) : Calls Try.prog 58 #[.int .i64 a, .int .i64 b] w fun e w' => e = .returned (.int .i64 (ordI a b)) ∧ w' = w := by
  rcases ord_cases a b with ⟨h, e⟩ | ⟨h, h2, e⟩ | ⟨rfl, e⟩
  all_goals
    have HE := Lib.hid e
    clear e
    go_enter Try.func58, Try.ntmps58
    go_wp2
    go_ret
    exact ⟨ret_int HE.out.symm, rfl⟩

def iputE (x n : Int) : Int := if errV x = 1 then 1 else if n < ileastV x ∨ imostV x < n then 8 else 0
def iputL (x n : Int) : List Int := if iputE x n = 0 then beL x.toNat (n - ileastV x) else []

set_option maxHeartbeats 400000 in
theorem put45_no (x n : Int) (w : World) (HM : Hid (Calls Try.prog 47 #[.int .i64 x] w fun e w' => e = .returned (.tuple #[.int .i64 0, .int .i64 1]) ∧ Below w.heap.size w w')) :
    Calls Try.prog 45 #[.int .i64 x, .int .i64 n] w fun e w' => ∃ v, e = .returned (.tuple #[v, .int .i64 1]) ∧ OldB w w' v [] := by
  go_enter Try.func45, Try.ntmps45
  go_wp2_with fail
  refine HM.out.mono ?_; rintro e w1 ⟨rfl, hbel⟩
  have HL := Lib.hid hbel
  clear hbel
  go_wp2_with fail
  go_ret2
  exact ⟨_, rfl, none, 0, rfl, ⟨rfl, Nat.le_refl _, by decide, by simp, Lib.BytesIn.nil _ _ _⟩, HL.out⟩

set_option maxHeartbeats 400000 in
theorem put45_big (x n M L : Int) (w : World) (hx : bits .xor .i64 (-1) M = L) (h : n < L ∨ M < n) (HM : Hid (Calls Try.prog 47 #[.int .i64 x] w fun e w' => e = .returned (.tuple #[.int .i64 M, .int .i64 0]) ∧ Below w.heap.size w w')) :
    Calls Try.prog 45 #[.int .i64 x, .int .i64 n] w fun e w' => ∃ v, e = .returned (.tuple #[v, .int .i64 8]) ∧ OldB w w' v [] := by
  have hs : IntKind.i64.signed = true := rfl
  by_cases h1 : M < n
  · have d1 : decide (M < n) = true := by simp [h1]
    clear h h1
    go_enter Try.func45, Try.ntmps45
    go_wp2_with fail
    refine HM.out.mono ?_; rintro e w1 ⟨rfl, hbel⟩
    have HL := Lib.hid hbel
    clear hbel
    go_wp2_with fail
    go_ret2
    exact ⟨_, rfl, none, 0, rfl, ⟨rfl, Nat.le_refl _, by decide, by simp, Lib.BytesIn.nil _ _ _⟩, HL.out⟩
  · have d1 : decide (M < n) = false := by simp; omega
    have d2 : decide (n < L) = true := by simp; omega
    clear h h1
    go_enter Try.func45, Try.ntmps45
    go_wp2_with fail
    refine HM.out.mono ?_; rintro e w1 ⟨rfl, hbel⟩
    have HL := Lib.hid hbel
    clear hbel
    go_wp2_with fail
    go_ret2
    exact ⟨_, rfl, none, 0, rfl, ⟨rfl, Nat.le_refl _, by decide, by simp, Lib.BytesIn.nil _ _ _⟩, HL.out⟩

theorem OldB.step {w w1 w2 : World} {v : Value} {l : List Int} (h : Below w.heap.size w w1) (k : OldB w1 w2 v l) : OldB w w2 v l := let ⟨p, c, h1, h2, h3⟩ := k; ⟨p, c, h1, h2, Below.step h h3⟩

set_option maxHeartbeats 400000 in
theorem put45_yes (x n M L r u : Int) (l : List Int) (w : World) (hx : bits .xor .i64 (-1) M = L) (h1 : L ≤ n) (h2 : n ≤ M) (q1 : IntKind.i64.wrap (n - L) = r) (q2 : IntKind.u64.wrap r = u)
    (HM : Hid (Calls Try.prog 47 #[.int .i64 x] w fun e w' => e = .returned (.tuple #[.int .i64 M, .int .i64 0]) ∧ Below w.heap.size w w'))
    (H29 : Hid (∀ w, Calls Try.prog 29 #[.int .i64 x, .int .u64 u] w fun e w' => ∃ v, e = .returned (.tuple #[v, .int .i64 0]) ∧ NewB w w' v l)) :
    Calls Try.prog 45 #[.int .i64 x, .int .i64 n] w fun e w' => ∃ v, e = .returned (.tuple #[v, .int .i64 0]) ∧ OldB w w' v l := by
  have hs : IntKind.i64.signed = true := rfl
  have d1 : decide (M < n) = false := by simp; omega
  have d2 : decide (n < L) = false := by simp; omega
  clear h1 h2
  go_enter Try.func45, Try.ntmps45
  go_wp2_with fail
  refine HM.out.mono ?_; rintro e w1 ⟨rfl, hbel⟩
  have HL := Lib.hid hbel
  clear hbel
  go_wp2_with fail
  refine (H29.out _).mono ?_; rintro e w2 ⟨v, rfl, hv⟩
  have HV := Lib.hid (OldB.step HL.out hv.old)
  clear hv
  go_wp2_with fail
  go_ret2
  exact ⟨_, rfl, HV.out⟩

set_option maxHeartbeats 400000 in
theorem put46_no (x n : Int) (w : World) (HM : Hid (Calls Try.prog 50 #[.int .i64 x] w fun e w' => e = .returned (.tuple #[.int .i64 0, .int .i64 1]) ∧ w' = w)) :
    Calls Try.prog 46 #[.int .i64 x, .int .i64 n] w fun e w' => ∃ v, e = .returned (.tuple #[v, .int .i64 1]) ∧ OldB w w' v [] := by
  go_enter Try.func46, Try.ntmps46
  go_wp2_with fail
  refine HM.out.mono ?_; rintro e w1 ⟨rfl, rfl⟩
  go_wp2_with fail
  go_ret2
  exact ⟨_, rfl, OldB.none⟩

set_option maxHeartbeats 400000 in
theorem put46_big (x n M L : Int) (w : World) (h : n < L ∨ M < n) (HM : Hid (Calls Try.prog 50 #[.int .i64 x] w fun e w' => e = .returned (.tuple #[.int .i64 L, .int .i64 0]) ∧ w' = w))
    (HN : Hid (Calls Try.prog 48 #[.int .i64 x] w fun e w' => e = .returned (.tuple #[.int .i64 M, .int .i64 0]) ∧ w' = w)) :
    Calls Try.prog 46 #[.int .i64 x, .int .i64 n] w fun e w' => ∃ v, e = .returned (.tuple #[v, .int .i64 8]) ∧ OldB w w' v [] := by
  by_cases h1 : n < L
  · have d1 : decide (n < L) = true := by simp [h1]
    clear h h1
    go_enter Try.func46, Try.ntmps46
    go_wp2_with fail
    refine HM.out.mono ?_; rintro e w1 ⟨rfl, rfl⟩
    go_wp2_with fail
    refine HN.out.mono ?_; rintro e w1 ⟨rfl, rfl⟩
    go_wp2_with fail
    go_ret2
    exact ⟨_, rfl, OldB.none⟩
  · have d1 : decide (n < L) = false := by simp; omega
    have d2 : decide (M < n) = true := by simp; omega
    clear h h1
    go_enter Try.func46, Try.ntmps46
    go_wp2_with fail
    refine HM.out.mono ?_; rintro e w1 ⟨rfl, rfl⟩
    go_wp2_with fail
    refine HN.out.mono ?_; rintro e w1 ⟨rfl, rfl⟩
    go_wp2_with fail
    go_ret2
    exact ⟨_, rfl, OldB.none⟩

set_option maxHeartbeats 400000 in
theorem put46_yes (x n M L u : Int) (l : List Int) (w : World) (h1 : L ≤ n) (h2 : n ≤ M) (hL : L = -M - 1) (hM : 0 ≤ M ∧ M ≤ 9223372036854775807) (hu : u = n - L)
    (HM : Hid (Calls Try.prog 50 #[.int .i64 x] w fun e w' => e = .returned (.tuple #[.int .i64 L, .int .i64 0]) ∧ w' = w))
    (HN : Hid (Calls Try.prog 48 #[.int .i64 x] w fun e w' => e = .returned (.tuple #[.int .i64 M, .int .i64 0]) ∧ w' = w))
    (H30 : Hid (∀ w, Calls Try.prog 30 #[.int .i64 x, .int .u64 u] w fun e w' => ∃ v, e = .returned (.tuple #[v, .int .i64 0]) ∧ NewB w w' v l)) :
    Calls Try.prog 46 #[.int .i64 x, .int .i64 n] w fun e w' => ∃ v, e = .returned (.tuple #[v, .int .i64 0]) ∧ OldB w w' v l := by
  have d1 : decide (n < L) = false := by simp; omega
  have d2 : decide (M < n) = false := by simp; omega
  by_cases h0 : 0 ≤ n
  · have d3 : decide (0 ≤ n) = true := by simp [h0]
    have q1 : IntKind.u64.wrap n = n := IntWalk.u64_in _ (by omega)
    have q2 : IntKind.u64.wrap M = M := IntWalk.u64_in _ (by omega)
    have q3 : IntKind.u64.wrap (n + M) = n + M := IntWalk.u64_in _ (by omega)
    have q4 : IntKind.u64.wrap (n + M + 1) = u := by rw [IntWalk.u64_in _ (by omega)]; omega
    clear h1 h2 hL hM hu h0
    go_enter Try.func46, Try.ntmps46
    go_wp2_with fail
    refine HM.out.mono ?_; rintro e w1 ⟨rfl, rfl⟩
    go_wp2_with fail
    refine HN.out.mono ?_; rintro e w1 ⟨rfl, rfl⟩
    go_wp2_with fail
    refine (H30.out _).mono ?_; rintro e w2 ⟨v, rfl, hv⟩
    have HV := Lib.hid hv.old
    clear hv
    go_wp2_with fail
    go_ret2
    exact ⟨_, rfl, HV.out⟩
  · have d3 : decide (0 ≤ n) = false := by simp; omega
    have q1 : IntKind.i64.wrap (n - L) = u := by rw [IntWalk.i64_in _ (by omega)]; omega
    have q2 : IntKind.u64.wrap u = u := IntWalk.u64_in _ (by omega)
    clear h1 h2 hL hM hu h0
    go_enter Try.func46, Try.ntmps46
    go_wp2_with fail
    refine HM.out.mono ?_; rintro e w1 ⟨rfl, rfl⟩
    go_wp2_with fail
    refine HN.out.mono ?_; rintro e w1 ⟨rfl, rfl⟩
    go_wp2_with fail
    refine (H30.out _).mono ?_; rintro e w2 ⟨v, rfl, hv⟩
    have HV := Lib.hid hv.old
    clear hv
    go_wp2_with fail
    go_ret2
    exact ⟨_, rfl, HV.out⟩

theorem width_nat (x : Int) (he : errV x = 0) : ∃ wd : Nat, x = wd ∧ 1 ≤ wd ∧ wd ≤ 8 ∧ imostV x = 128 * 256 ^ (wd - 1) - 1 ∧ ileastV x = - imostV x - 1 ∧ mostV x = 2 * imostV x + 1 ∧ 0 ≤ imostV x ∧ imostV x ≤ 9223372036854775807 ∧ bits .xor .i64 (-1) (imostV x) = ileastV x := by
  rcases iwidth_cases x with ⟨rfl, _⟩ | ⟨rfl, _⟩ | ⟨rfl, _⟩ | ⟨rfl, _⟩ | ⟨_, _, _, _, h, _⟩
  · exact ⟨1, by decide +kernel⟩
  · exact ⟨2, by decide +kernel⟩
  · exact ⟨4, by decide +kernel⟩
  · exact ⟨8, by decide +kernel⟩
  · omega

theorem err_or (x : Int) : errV x = 0 ∨ errV x = 1 := by unfold errV; split <;> simp

theorem put45 (x n : Int) (w : World) : Calls Try.prog 45 #[.int .i64 x, .int .i64 n] w fun e w' => ∃ v, e = .returned (.tuple #[v, .int .i64 (iputE x n)]) ∧ OldB w w' v (iputL x n) := by
  have HM := Lib.hid (most47 x w)
  rcases err_or x with he | he
  · obtain ⟨wd, rfl, h1, h8, hp, hl, hm, h0, h9, hb⟩ := width_nat x he
    rw [he] at HM
    by_cases hr : n < ileastV wd ∨ imostV wd < n
    · have e1 : iputE wd n = 8 := by unfold iputE; rw [if_neg (by omega), if_pos hr]
      have e2 : iputL wd n = [] := by unfold iputL; rw [if_neg (by omega)]
      rw [e1, e2]
      exact put45_big wd n _ _ w hb hr HM
    · have e1 : iputE wd n = 0 := by unfold iputE; rw [if_neg (by omega), if_neg hr]
      have e2 : iputL wd n = beL wd (n - ileastV wd) := by unfold iputL; rw [if_pos e1]; rfl
      rw [e1, e2]
      have k := fun w => put29 wd (n - ileastV wd) w (by omega) (by omega)
      have p0 := putE_0 he (n := n - ileastV wd) (by omega)
      have p1 : putL wd (n - ileastV wd) = beL wd (n - ileastV wd) := by unfold putL; rw [if_pos p0]; rfl
      rw [p0, p1] at k
      by_cases hh : n - ileastV wd ≤ 9223372036854775807
      · exact put45_yes wd n _ _ (n - ileastV wd) _ _ w hb (by omega) (by omega) (IntWalk.i64_in _ (by omega)) (IntWalk.u64_in _ (by omega)) HM k
      · exact put45_yes wd n _ _ (n - ileastV wd - 18446744073709551616) _ _ w hb (by omega) (by omega) (by rw [IntKind.wrap_i64]; omega) (by rw [IntKind.wrap_u64]; omega) HM k
  · have e1 : iputE x n = 1 := by unfold iputE; rw [if_pos he]
    have e2 : iputL x n = [] := by unfold iputL; rw [if_neg (by omega)]
    have e3 : imostV x = 0 := by
      rcases iwidth_cases x with ⟨_, h, _⟩ | ⟨_, h, _⟩ | ⟨_, h, _⟩ | ⟨_, h, _⟩ | ⟨_, _, _, _, _, h, _⟩
      · omega
      · omega
      · omega
      · omega
      · exact h
    rw [e1, e2]
    rw [he, e3] at HM
    exact put45_no x n w HM

theorem put46 (x n : Int) (w : World) : Calls Try.prog 46 #[.int .i64 x, .int .i64 n] w fun e w' => ∃ v, e = .returned (.tuple #[v, .int .i64 (iputE x n)]) ∧ OldB w w' v (iputL x n) := by
  have HM := Lib.hid (least50 x w)
  have HN := Lib.hid (most48 x w)
  rcases err_or x with he | he
  · obtain ⟨wd, rfl, h1, h8, hp, hl, hm, h0, h9, hb⟩ := width_nat x he
    rw [he] at HM HN
    by_cases hr : n < ileastV wd ∨ imostV wd < n
    · have e1 : iputE wd n = 8 := by unfold iputE; rw [if_neg (by omega), if_pos hr]
      have e2 : iputL wd n = [] := by unfold iputL; rw [if_neg (by omega)]
      rw [e1, e2]
      exact put46_big wd n _ _ w hr HM HN
    · have e1 : iputE wd n = 0 := by unfold iputE; rw [if_neg (by omega), if_neg hr]
      have e2 : iputL wd n = beL wd (n - ileastV wd) := by unfold iputL; rw [if_pos e1]; rfl
      rw [e1, e2]
      have k := fun w => put30 wd (n - ileastV wd) w (by omega) (by omega)
      have p0 := putE_0 he (n := n - ileastV wd) (by omega)
      have p1 : putL wd (n - ileastV wd) = beL wd (n - ileastV wd) := by unfold putL; rw [if_pos p0]; rfl
      rw [p0, p1] at k
      exact put46_yes wd n _ _ (n - ileastV wd) _ w (by omega) (by omega) hl ⟨h0, h9⟩ rfl HM HN k
  · have e1 : iputE x n = 1 := by unfold iputE; rw [if_pos he]
    have e2 : iputL x n = [] := by unfold iputL; rw [if_neg (by omega)]
    have e3 : ileastV x = 0 := by
      rcases iwidth_cases x with ⟨_, h, _⟩ | ⟨_, h, _⟩ | ⟨_, h, _⟩ | ⟨_, h, _⟩ | ⟨_, _, _, _, _, _, h⟩
      · omega
      · omega
      · omega
      · omega
      · exact h
    rw [e1, e2]
    rw [he, e3] at HM
    exact put46_no x n w HM

end Go.Proofs.Ytbldahimdkifiaa
