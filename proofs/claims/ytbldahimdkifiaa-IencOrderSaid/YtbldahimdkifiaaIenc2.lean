/-
  Contracts of the seat's functions that take numbers with a sign, and yes or no, off bytes.
-/
import Derived.Test.YtbldahimdkifiaaIenc
namespace Go.Proofs.Ytbldahimdkifiaa
open Go.RowKit
set_option linter.unusedVariables false

def itakeN (x : Int) (xs : List Int) : Int := if takeE x xs.length = 0 then takeN x xs + ileastV x else 0

set_option maxHeartbeats 400000 in
theorem take52_no (x N E : Int) (tl : List Int) (p : Option Addr) (n c : Nat) (w : World) (he : (E != 0) = true)
    (H34 : Hid (Calls Try.prog 34 #[.int .i64 x, .slice p n c] w fun e w' => ∃ v, e = .returned (.tuple #[.int .u64 N, v, .int .i64 E]) ∧ NewB w w' v tl)) :
    Calls Try.prog 52 #[.int .i64 x, .slice p n c] w fun e w' => ∃ v, e = .returned (.tuple #[.int .i64 0, v, .int .i64 E]) ∧ OldB w w' v [] := by
  go_enter Try.func52, Try.ntmps52
  go_wp2_with fail
  refine H34.out.mono ?_; rintro e w1 ⟨v, rfl, p1, c1, rfl, _, _, hbel⟩
  have HL := Lib.hid hbel
  clear hbel
  go_wp2_with fail
  go_ret3
  exact ⟨_, rfl, none, 0, rfl, ⟨rfl, Nat.le_refl _, by decide, by simp, Lib.BytesIn.nil _ _ _⟩, HL.out⟩

set_option maxHeartbeats 400000 in
theorem take52_yes (x N M L r u : Int) (tl : List Int) (p : Option Addr) (n c : Nat) (w : World) (hx : bits .xor .i64 (-1) M = L) (q1 : IntKind.i64.wrap N = r) (q2 : IntKind.i64.wrap (r + L) = u)
    (HM : Hid (∀ w, Calls Try.prog 47 #[.int .i64 x] w fun e w' => e = .returned (.tuple #[.int .i64 M, .int .i64 0]) ∧ Below w.heap.size w w'))
    (H34 : Hid (Calls Try.prog 34 #[.int .i64 x, .slice p n c] w fun e w' => ∃ v, e = .returned (.tuple #[.int .u64 N, v, .int .i64 0]) ∧ NewB w w' v tl)) :
    Calls Try.prog 52 #[.int .i64 x, .slice p n c] w fun e w' => ∃ v, e = .returned (.tuple #[.int .i64 u, v, .int .i64 0]) ∧ OldB w w' v tl := by
  have hs : IntKind.i64.signed = true := rfl
  go_enter Try.func52, Try.ntmps52
  go_wp2_with fail
  refine H34.out.mono ?_; rintro e w1 ⟨v, rfl, p1, c1, rfl, hb, _, hbel⟩
  have HL := Lib.hid hbel
  have HB := Lib.hid hb
  clear hbel hb
  go_wp2_with fail
  refine (HM.out _).mono ?_; rintro e w2 ⟨rfl, hbel⟩
  have HL2 := Lib.hid (Below.step HL.out hbel)
  have HB2 := Lib.hid (HB.out.below hbel)
  clear hbel
  go_wp2_with fail
  go_ret3
  exact ⟨_, rfl, _, _, rfl, HB2.out, HL2.out⟩

set_option maxHeartbeats 400000 in
theorem take53_no (x N E : Int) (tl : List Int) (p : Option Addr) (n c : Nat) (w : World) (he : (E != 0) = true)
    (H35 : Hid (Calls Try.prog 35 #[.int .i64 x, .slice p n c] w fun e w' => ∃ v, e = .returned (.tuple #[.int .u64 N, v, .int .i64 E]) ∧ OldB w w' v tl)) :
    Calls Try.prog 53 #[.int .i64 x, .slice p n c] w fun e w' => ∃ v, e = .returned (.tuple #[.int .i64 0, v, .int .i64 E]) ∧ OldB w w' v [] := by
  go_enter Try.func53, Try.ntmps53
  go_wp2_with fail
  refine H35.out.mono ?_; rintro e w1 ⟨v, rfl, p1, c1, rfl, _, hbel⟩
  have HL := Lib.hid hbel
  clear hbel
  go_wp2_with fail
  go_ret3
  exact ⟨_, rfl, none, 0, rfl, ⟨rfl, Nat.le_refl _, by decide, by simp, Lib.BytesIn.nil _ _ _⟩, HL.out⟩

set_option maxHeartbeats 400000 in
theorem take53_yes (x N M u : Int) (tl : List Int) (p : Option Addr) (n c : Nat) (w : World) (hM : 0 ≤ M ∧ M ≤ 9223372036854775807) (hN : 0 ≤ N ∧ N ≤ 2 * M + 1) (hu : u = N - M - 1)
    (HM : Hid (∀ w, Calls Try.prog 48 #[.int .i64 x] w fun e w' => e = .returned (.tuple #[.int .i64 M, .int .i64 0]) ∧ w' = w))
    (H35 : Hid (Calls Try.prog 35 #[.int .i64 x, .slice p n c] w fun e w' => ∃ v, e = .returned (.tuple #[.int .u64 N, v, .int .i64 0]) ∧ OldB w w' v tl)) :
    Calls Try.prog 53 #[.int .i64 x, .slice p n c] w fun e w' => ∃ v, e = .returned (.tuple #[.int .i64 u, v, .int .i64 0]) ∧ OldB w w' v tl := by
  have q0 : IntKind.u64.wrap M = M := IntWalk.u64_in _ (by omega)
  by_cases h : M < N
  · have d1 : decide (M < N) = true := by simp [h]
    have q1 : IntKind.u64.wrap (N - M) = N - M := IntWalk.u64_in _ (by omega)
    have q2 : IntKind.u64.wrap (N - M - 1) = u := by rw [IntWalk.u64_in _ (by omega)]; omega
    have q3 : IntKind.i64.wrap u = u := IntWalk.i64_in _ (by omega)
    clear h hM hN hu
    go_enter Try.func53, Try.ntmps53
    go_wp2_with fail
    refine H35.out.mono ?_; rintro e w1 ⟨v, rfl, p1, c1, rfl, hb, hbel⟩
    have HV : Hid (OldB w w1 (.slice p1 tl.length c1) tl) := ⟨p1, c1, rfl, hb, hbel⟩
    clear hbel hb
    go_wp2_with fail
    refine (HM.out _).mono ?_; rintro e w2 ⟨rfl, rfl⟩
    go_wp2_with fail
    go_ret3
    exact ⟨_, rfl, HV.out⟩
  · have d1 : decide (M < N) = false := by simp; omega
    have q1 : IntKind.i64.wrap N = N := IntWalk.i64_in _ (by omega)
    have q2 : IntKind.i64.wrap (N - M) = N - M := IntWalk.i64_in _ (by omega)
    have q3 : IntKind.i64.wrap (N - M - 1) = u := by rw [IntWalk.i64_in _ (by omega)]; omega
    clear h hM hN hu
    go_enter Try.func53, Try.ntmps53
    go_wp2_with fail
    refine H35.out.mono ?_; rintro e w1 ⟨v, rfl, p1, c1, rfl, hb, hbel⟩
    have HV : Hid (OldB w w1 (.slice p1 tl.length c1) tl) := ⟨p1, c1, rfl, hb, hbel⟩
    clear hbel hb
    go_wp2_with fail
    refine (HM.out _).mono ?_; rintro e w2 ⟨rfl, rfl⟩
    go_wp2_with fail
    go_ret3
    exact ⟨_, rfl, HV.out⟩

theorem takeN_range (wd : Nat) (xs : List Int) (hb : ∀ x ∈ xs, 0 ≤ x ∧ x < 256) (he : errV (wd : Int) = 0) : 0 ≤ takeN wd xs ∧ takeN wd xs ≤ mostV wd := by
  unfold takeN
  split
  · rename_i h
    have hl : wd ≤ xs.length := by
      unfold takeE at h
      rw [if_neg (by omega)] at h
      split at h
      · omega
      · omega
    rw [Int.toNat_natCast]
    have := valL_bd wd xs hb hl
    rcases width_cases (wd : Int) with ⟨h1, _, hm⟩ | ⟨h1, _, hm⟩ | ⟨h1, _, hm⟩ | ⟨h1, _, hm⟩ | ⟨_, _, _, _, h1, hm⟩
    · obtain rfl : wd = 1 := by omega
      have e : (256 : Int) ^ 1 = 256 := by decide
      rw [e] at this; omega
    · obtain rfl : wd = 2 := by omega
      have e : (256 : Int) ^ 2 = 65536 := by decide
      rw [e] at this; omega
    · obtain rfl : wd = 4 := by omega
      have e : (256 : Int) ^ 4 = 4294967296 := by decide
      rw [e] at this; omega
    · obtain rfl : wd = 8 := by omega
      have e : (256 : Int) ^ 8 = 18446744073709551616 := by decide
      rw [e] at this; omega
    · omega
  · rcases width_cases (wd : Int) with ⟨h1, _, hm⟩ | ⟨h1, _, hm⟩ | ⟨h1, _, hm⟩ | ⟨h1, _, hm⟩ | ⟨_, _, _, _, h1, hm⟩ <;> omega

theorem take52 (x : Int) (p : Option Addr) (n c : Nat) (xs : List Int) (w : World) (hB : Bs w p n c xs) :
    Calls Try.prog 52 #[.int .i64 x, .slice p n c] w fun e w' => ∃ v, e = .returned (.tuple #[.int .i64 (itakeN x xs), v, .int .i64 (takeE x xs.length)]) ∧ OldB w w' v (takeL x xs) := by
  have H34 := Lib.hid (take34 x p n c xs w hB)
  by_cases h : takeE x xs.length = 0
  · have he : errV x = 0 := by
      rcases err_or x with he | he
      · exact he
      · unfold takeE at h; rw [if_pos he] at h; omega
    obtain ⟨wd, rfl, h1, h8, hp, hl, hm, h0, h9, hb⟩ := width_nat x he
    have HM := Lib.hid (most47 (wd : Int))
    have hr := takeN_range wd xs hB.byte he
    unfold itakeN
    rw [if_pos h]
    rw [h] at H34 ⊢
    rw [he] at HM
    by_cases hh : takeN wd xs ≤ 9223372036854775807
    · exact take52_yes wd _ _ _ _ _ _ p n c w hb (IntWalk.i64_in _ (by omega)) (IntWalk.i64_in _ (by omega)) HM H34
    · exact take52_yes wd _ _ _ (takeN wd xs - 18446744073709551616) _ _ p n c w hb (by rw [IntKind.wrap_i64]; omega) (by rw [IntKind.wrap_i64]; omega) HM H34
  · have e2 : takeL x xs = [] := by unfold takeL; rw [if_neg h]
    unfold itakeN
    rw [if_neg h, e2]
    exact take52_no x _ _ _ p n c w (by simpa using h) H34

theorem take53 (x : Int) (p : Option Addr) (n c : Nat) (xs : List Int) (w : World) (hB : Bs w p n c xs) :
    Calls Try.prog 53 #[.int .i64 x, .slice p n c] w fun e w' => ∃ v, e = .returned (.tuple #[.int .i64 (itakeN x xs), v, .int .i64 (takeE x xs.length)]) ∧ OldB w w' v (takeL x xs) := by
  have H35 := Lib.hid (take35 x p n c xs w hB)
  by_cases h : takeE x xs.length = 0
  · have he : errV x = 0 := by
      rcases err_or x with he | he
      · exact he
      · unfold takeE at h; rw [if_pos he] at h; omega
    obtain ⟨wd, rfl, h1, h8, hp, hl, hm, h0, h9, hb⟩ := width_nat x he
    have HM := Lib.hid (most48 (wd : Int))
    have hr := takeN_range wd xs hB.byte he
    unfold itakeN
    rw [if_pos h]
    rw [h] at H35 ⊢
    rw [he] at HM
    exact take53_yes wd _ (imostV wd) _ _ p n c w ⟨h0, h9⟩ (by omega) (by omega) HM H35
  · have e2 : takeL x xs = [] := by unfold takeL; rw [if_neg h]
    unfold itakeN
    rw [if_neg h, e2]
    exact take53_no x _ _ _ p n c w (by simpa using h) H35

theorem OldB.below {w w' : World} {v : Value} {l : List Int} (h : OldB w w' v l) : Below w.heap.size w w' := let ⟨_, _, _, _, k⟩ := h; k

def boolE (xs : List Int) : Int := if xs.length = 0 then 4 else if 1 < xs.getD 0 0 then 3 else 0
def boolL (xs : List Int) : List Int := if boolE xs = 0 then xs.drop 1 else []
def boolB (xs : List Int) : Bool := if boolE xs = 0 then xs.getD 0 0 == 1 else false

set_option maxHeartbeats 400000 in
theorem pbool56 (b : Bool) (w : World) : Calls Try.prog 56 #[.bool b] w fun e w' => ∃ v, e = .returned v ∧ OldB w w' v [if b then 1 else 0] := by
  have HL := Lib.hid (fun l hl hb => Bs.lit w l 1 hl (by omega) hb)
  have HB := Lib.hid (fun o => (Below.refl w.heap.size w).alloc (Nat.le_refl _) o)
  cases b
  all_goals
    go_enter Try.func56, Try.ntmps56
    go_wp2_with fail
    go_ret
    exact ⟨_, rfl, _, _, rfl, HL.out [_] rfl (by decide), HB.out _⟩

set_option maxHeartbeats 400000 in
theorem tbool54_0 (p : Option Addr) (c : Nat) (w : World) :
    Calls Try.prog 54 #[.slice p 0 c] w fun e w' => ∃ v, e = .returned (.tuple #[.bool false, v, .int .i64 4]) ∧ OldB w w' v [] := by
  go_enter Try.func54, Try.ntmps54
  go_wp2_with fail
  go_ret3
  exact ⟨_, rfl, OldB.none⟩

set_option maxHeartbeats 400000 in
theorem tbool55_0 (p : Option Addr) (c : Nat) (w : World) :
    Calls Try.prog 55 #[.slice p 0 c] w fun e w' => ∃ v, e = .returned (.tuple #[.bool false, v, .int .i64 4]) ∧ OldB w w' v [] := by
  go_enter Try.func55, Try.ntmps55
  go_wp2_with fail
  go_ret3
  exact ⟨_, rfl, OldB.none⟩

set_option maxHeartbeats 400000 in
theorem tbool54_1 (p : Option Addr) (n c : Nat) (xs : List Int) (w : World) (x : Int) (hB : Bs w p n c xs) (hn : 0 < n) (hx : xs.getD 0 0 = x) (h : 1 < x) :
    Calls Try.prog 54 #[.slice p n c] w fun e w' => ∃ v, e = .returned (.tuple #[.bool false, v, .int .i64 3]) ∧ OldB w w' v [] := by
  obtain ⟨b, o, rfl, hc⟩ := hB.cells.at hn
  have g : w.cell? ⟨b, o, none⟩ = some (.int .u8 x) := by have := hc 0 hn; rw [hx] at this; exact this
  have d0 : ((n : Int) == 0) = false := by simp; omega
  have d1 : decide (1 < x) = true := by simp [h]
  clear hc hB hx h
  go_enter Try.func54, Try.ntmps54
  go_wp2_with fail
  go_ret3
  exact ⟨_, rfl, OldB.none⟩

set_option maxHeartbeats 400000 in
theorem tbool55_1 (p : Option Addr) (n c : Nat) (xs : List Int) (w : World) (x : Int) (hB : Bs w p n c xs) (hn : 0 < n) (hx : xs.getD 0 0 = x) (h : 1 < x) :
    Calls Try.prog 55 #[.slice p n c] w fun e w' => ∃ v, e = .returned (.tuple #[.bool false, v, .int .i64 3]) ∧ OldB w w' v [] := by
  obtain ⟨b, o, rfl, hc⟩ := hB.cells.at hn
  have g : w.cell? ⟨b, o, none⟩ = some (.int .u8 x) := by have := hc 0 hn; rw [hx] at this; exact this
  have d0 : ((n : Int) == 0) = false := by simp; omega
  have d1 : decide (1 < x) = true := by simp [h]
  clear hc hB hx h
  go_enter Try.func55, Try.ntmps55
  go_wp2_with fail
  go_ret3
  exact ⟨_, rfl, OldB.none⟩

set_option maxHeartbeats 400000 in
theorem tbool55_2 (p : Option Addr) (n c : Nat) (xs : List Int) (w : World) (x : Int) (hB : Bs w p n c xs) (hn : 0 < n) (hx : xs.getD 0 0 = x) (h : ¬ 1 < x) :
    Calls Try.prog 55 #[.slice p n c] w fun e w' => ∃ v, e = .returned (.tuple #[.bool (x == 1), v, .int .i64 0]) ∧ OldB w w' v (xs.drop 1) := by
  have hcap := hB.cap
  have hbig := hB.big
  have HB := Lib.hid hB
  obtain ⟨b, o, rfl, hc⟩ := hB.cells.at hn
  have g : w.cell? ⟨b, o, none⟩ = some (.int .u8 x) := by have := hc 0 hn; rw [hx] at this; exact this
  have d0 : ((n : Int) == 0) = false := by simp; omega
  have d1 : decide (1 < x) = false := by simp; omega
  have n1 : (1 : Int) ≤ (n : Int) := by omega
  clear hc hB hx h
  go_enter Try.func55, Try.ntmps55
  go_wp2_with fail
  by_cases hck : c = 1
  · go_quiet (fail)
    go_wp2_with fail
    go_ret3
    exact ⟨_, rfl, ((HB.out.drop0 hn (by omega)).drewN _).old (below_drewN (Below.refl _ _) _)⟩
  · go_quiet (fail)
    go_wp2_with fail
    go_ret3
    exact ⟨_, rfl, ((HB.out.drop 1 hn).drewN _).old (below_drewN (Below.refl _ _) _)⟩

set_option maxHeartbeats 400000 in
theorem tbool54_2 (p : Option Addr) (n c : Nat) (xs : List Int) (w : World) (x : Int) (hB : Bs w p n c xs) (hn : 0 < n) (hx : xs.getD 0 0 = x) (h : ¬ 1 < x) :
    Calls Try.prog 54 #[.slice p n c] w fun e w' => ∃ v, e = .returned (.tuple #[.bool (x == 1), v, .int .i64 0]) ∧ OldB w w' v (xs.drop 1) := by
  have hcap := hB.cap
  have hbig := hB.big
  have HB := Lib.hid hB
  obtain ⟨b, o, rfl, hc⟩ := hB.cells.at hn
  have g : w.cell? ⟨b, o, none⟩ = some (.int .u8 x) := by have := hc 0 hn; rw [hx] at this; exact this
  have d0 : ((n : Int) == 0) = false := by simp; omega
  have d1 : decide (1 < x) = false := by simp; omega
  have n1 : (1 : Int) ≤ (n : Int) := by omega
  have hlt := Lib.hid (block_lt_of_cell g)
  clear hc hB hx h
  go_enter Try.func54, Try.ntmps54
  go_wp2_with fail
  by_cases hck : c = 1
  · have H62 : Hid (∀ j, Calls Try.prog 62 #[.slice (some ⟨b, o, none⟩) (n - 1) 0] (w.drewN j) fun e w' => ∃ v, e = .returned v ∧ NewB (w.drewN j) w' v (xs.drop 1)) := fun j =>
      clone62 _ _ _ _ _ ((HB.out.drop0 hn (by omega)).drewN j)
    go_region_held3 (fun w' => w'.cell? ⟨b, o, none⟩ = some (.int .u8 x)) (first | go_keep | (rw [hv.old.below.cell hlt.out]; exact g)) ((go_at_call 62; refine (H62.out _).mono ?_; rintro e w' ⟨v, rfl, hv⟩))
    have HV := Lib.hid (OldB.step (below_drewN (Below.refl _ w) _) hv.old)
    clear hv
    go_wp2_with fail
    go_ret3
    exact ⟨_, rfl, HV.out⟩
  · have H62 : Hid (∀ j, Calls Try.prog 62 #[.slice (some ⟨b, o + 1, none⟩) (n - 1) (c - 1)] (w.drewN j) fun e w' => ∃ v, e = .returned v ∧ NewB (w.drewN j) w' v (xs.drop 1)) := fun j =>
      clone62 _ _ _ _ _ ((HB.out.drop 1 hn).drewN j)
    go_region_held3 (fun w' => w'.cell? ⟨b, o, none⟩ = some (.int .u8 x)) (first | go_keep | (rw [hv.old.below.cell hlt.out]; exact g)) ((go_at_call 62; refine (H62.out _).mono ?_; rintro e w' ⟨v, rfl, hv⟩))
    have HV := Lib.hid (OldB.step (below_drewN (Below.refl _ w) _) hv.old)
    clear hv
    go_wp2_with fail
    go_ret3
    exact ⟨_, rfl, HV.out⟩

theorem getD_0 {xs : List Int} (h : xs.length ≠ 0) : boolE xs = if 1 < xs.getD 0 0 then 3 else 0 := by unfold boolE; rw [if_neg h]

theorem tbool54 (p : Option Addr) (n c : Nat) (xs : List Int) (w : World) (hB : Bs w p n c xs) :
    Calls Try.prog 54 #[.slice p n c] w fun e w' => ∃ v, e = .returned (.tuple #[.bool (boolB xs), v, .int .i64 (boolE xs)]) ∧ OldB w w' v (boolL xs) := by
  by_cases h0 : n = 0
  · subst h0
    obtain rfl := List.length_eq_zero_iff.1 hB.len
    exact tbool54_0 p c w
  · have hl : xs.length ≠ 0 := by rw [hB.len]; exact h0
    by_cases h1 : 1 < xs.getD 0 0
    · have e := getD_0 hl
      rw [if_pos h1] at e
      unfold boolB boolL
      rw [if_neg (by omega), if_neg (by omega), e]
      exact tbool54_1 p n c xs w _ hB (by omega) rfl h1
    · have e := getD_0 hl
      rw [if_neg h1] at e
      unfold boolB boolL
      rw [if_pos e, if_pos e, e]
      exact tbool54_2 p n c xs w _ hB (by omega) rfl h1

theorem tbool55 (p : Option Addr) (n c : Nat) (xs : List Int) (w : World) (hB : Bs w p n c xs) :
    Calls Try.prog 55 #[.slice p n c] w fun e w' => ∃ v, e = .returned (.tuple #[.bool (boolB xs), v, .int .i64 (boolE xs)]) ∧ OldB w w' v (boolL xs) := by
  by_cases h0 : n = 0
  · subst h0
    obtain rfl := List.length_eq_zero_iff.1 hB.len
    exact tbool55_0 p c w
  · have hl : xs.length ≠ 0 := by rw [hB.len]; exact h0
    by_cases h1 : 1 < xs.getD 0 0
    · have e := getD_0 hl
      rw [if_pos h1] at e
      unfold boolB boolL
      rw [if_neg (by omega), if_neg (by omega), e]
      exact tbool55_1 p n c xs w _ hB (by omega) rfl h1
    · have e := getD_0 hl
      rw [if_neg h1] at e
      unfold boolB boolL
      rw [if_pos e, if_pos e, e]
      exact tbool55_2 p n c xs w _ hB (by omega) rfl h1

set_option maxRecDepth 100000 in
set_option maxHeartbeats 800000 in
theorem alive51 (w : World) : Calls Try.prog 51 #[] w fun e w' => e = .returned (.bool true) ∧ Below w.heap.size w w' := by
  go_enter Try.func51, Try.ntmps51
  go_wp2_with fail
  refine (put45 1 (-1) _).mono ?_
  rw [show iputE 1 (-1) = 0 by decide +kernel, show iputL 1 (-1) = [127] by decide +kernel]
  rintro e w1 ⟨v, rfl, p1, c1, rfl, hb1, hbel1⟩
  have HB1 := Lib.hid hb1
  have HL1 := Lib.hid hbel1
  clear hb1 hbel1
  go_wp2_with fail
  refine (take52 1 _ 2 2 [127, 9] _ (Bs.lit w1 [127, 9] 2 rfl (by omega) (by decide))).mono ?_
  rw [show takeE 1 ([127, 9] : List Int).length = 0 by decide +kernel, show itakeN 1 [127, 9] = -1 by decide +kernel, show takeL 1 [127, 9] = [9] by decide +kernel]
  rintro e w2 ⟨v, rfl, p2, c2, rfl, _, hbel2⟩
  have hbel12 : Below w1.heap.size w1 w2 := Below.step ((Below.refl _ _).alloc (Nat.le_refl _) _) hbel2
  have HL2 := Lib.hid (Below.step HL1.out hbel12)
  have HB2 := Lib.hid (HB1.out.below hbel12)
  clear hbel2 hbel12 HB1 HL1
  go_wp2_with fail
  refine (pbool56 true _).mono ?_
  rintro e w3 ⟨v, rfl, p3, c3, rfl, hb3, hbel3⟩
  have HL3 := Lib.hid (Below.step HL2.out hbel3)
  have HB3 := Lib.hid (HB2.out.below hbel3)
  have hb3' : Bs w3 p3 1 c3 [1] := hb3
  have HC3 := Lib.hid hb3'
  clear hb3 hb3' hbel3 HB2 HL2
  go_wp2_with fail
  refine (tbool54 p3 1 c3 [1] _ HC3.out).mono ?_
  rw [show boolB [1] = true by decide +kernel, show boolE [1] = 0 by decide +kernel, show boolL [1] = [] by decide +kernel]
  rintro e w4 ⟨v, rfl, p4, c4, rfl, _, hbel4⟩
  have HL4 := Lib.hid (Below.step HL3.out hbel4)
  have HB4 := Lib.hid (HB3.out.below hbel4)
  clear hbel4 HB3 HL3 HC3
  go_wp2_with fail
  refine (least49 2 _).mono ?_
  rw [show ileastV 2 = -32768 by decide +kernel, show errV 2 = 0 by decide +kernel]
  rintro e w5 ⟨rfl, hbel5⟩
  have HL5 := Lib.hid (Below.step HL4.out hbel5)
  have hb5 := HB4.out.below hbel5
  obtain ⟨b, o, rfl, hc⟩ := hb5.cells.at (by decide)
  have g0 : w5.cell? ⟨b, o, none⟩ = some (.int .u8 127) := hc 0 (by decide)
  clear hb5 hbel5 hc HB4 HL4
  go_wp2_with fail
  refine (cmp57 (-1) 0 _).mono ?_
  rw [show ordI (-1) 0 = -1 by decide +kernel]
  rintro e w' ⟨rfl, rfl⟩
  go_wp2_with fail
  go_ret
  exact ⟨rfl, HL5.out⟩

end Go.Proofs.Ytbldahimdkifiaa
