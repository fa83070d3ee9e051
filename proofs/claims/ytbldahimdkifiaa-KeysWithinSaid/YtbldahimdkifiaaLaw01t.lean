/-
  The walk of the statement KeysTexts.
-/
import Derived.Test.YtbldahimdkifiaaLaw01
namespace Go.Proofs.Ytbldahimdkifiaa
open Go.RowKit
set_option linter.unusedVariables false

set_option maxRecDepth 100000 in
set_option maxHeartbeats 800000 in
theorem texts_out (p : Option Addr) (n c : Nat) (s : ByteArray) (w : World) (hn : n ≤ 9223372036854775807) (hs : s.size ≤ 9223372036854775807)
    (hf : 70000 < n ∨ (300 < s.size ∧ s.size < 131072) ∨ 140000 < s.size) :
    Calls Try.prog 9 #[.slice p n c, .string s] w fun e w' => e = .returned (.bool true) ∧ Below w.heap.size w w' := by
  by_cases h1 : 70000 < n
  · have d1 : decide (70000 < (n : Int)) = true := by simp; omega
    clear hf
    go_enter Try.func9, Try.ntmps9
    go_wp2_with fail
    refine (alive14 _).mono ?_; rintro e w2 ⟨rfl, hbel⟩
    have HL2 := Lib.hid hbel
    clear hbel
    go_wp2_with fail
    go_ret
    exact ⟨rfl, HL2.out⟩
  · have d1 : decide (70000 < (n : Int)) = false := by simp; omega
    have hn2 : (n : Int) ≤ 70000 := by omega
    by_cases h2 : 300 < s.size ∧ s.size < 131072
    · have d2 : decide (300 < (s.size : Int)) = true := by simp; omega
      have d3 : decide ((s.size : Int) < 131072) = true := by simp; omega
      clear hf h2
      go_enter Try.func9, Try.ntmps9
      go_wp2_with fail
      refine (alive14 _).mono ?_; rintro e w2 ⟨rfl, hbel⟩
      have HL2 := Lib.hid hbel
      clear hbel
      go_wp2_with fail
      go_ret
      exact ⟨rfl, HL2.out⟩
    · have d2 : decide (300 < (s.size : Int)) = true := by simp; omega
      have d3 : decide ((s.size : Int) < 131072) = false := by simp; omega
      have d4 : decide (140000 < (s.size : Int)) = true := by simp; omega
      clear hf h2
      go_enter Try.func9, Try.ntmps9
      go_wp2_with fail
      refine (alive14 _).mono ?_; rintro e w2 ⟨rfl, hbel⟩
      have HL2 := Lib.hid hbel
      clear hbel
      go_wp2_with fail
      go_ret
      exact ⟨rfl, HL2.out⟩

theorem below_eq_drewN {B z : Nat} {w0 w1 w2 : World} (h : Below B w0 w1) (e : w2 = w1.drewN z) : Below B w0 w2 := by rw [e]; exact below_drewN h z
theorem below_eq_alloc {B : Nat} {o : Obj} {w0 w1 w2 : World} (h : Below B w0 w1) (hB : B ≤ w1.heap.size) (e : w2 = w1.alloc o) : Below B w0 w2 := by rw [e]; exact h.alloc hB o

theorem far_one (p : Option Addr) (n c : Nat) (hn : n ≤ 140737488351232) (W W1 : World) (h : W1 = W.alloc (.cells #[.slice p n c] 22)) :
    Calls Try.prog 13 #[.slice (some ⟨W.heap.size, 0, none⟩) 1 1] W1 fun e w' => e = .returned (.bool (farB [(p, n, c)])) ∧ w' = W1 := by
  subst h
  exact far13 W.heap.size 1 1 [(p, n, c)] _ rfl (by omega) (lit_hd W [(p, n, c)]) (by intro h hh; rcases List.mem_cons.1 hh with rfl | hh; (show n ≤ _; omega); cases hh)

set_option maxRecDepth 100000 in
set_option maxHeartbeats 1600000 in
theorem texts_far (p : Option Addr) (n c : Nat) (xs : List Int) (s : ByteArray) (l : List UInt8) (w : World) (hB : Bs w p n c xs) (hl : s.data.toList = l) (hz : l.length ≤ 140000) (hn : n ≤ 70000) (ha : decide (70000 < (n : Int)) = false)
    (hb : decide (300 < (s.size : Int)) = false ∨ (decide (300 < (s.size : Int)) = true ∧ decide ((s.size : Int) < 131072) = false)) (hc : decide (140000 < (s.size : Int)) = false) (h300 : 300 < n) :
    Calls Try.prog 9 #[.slice p n c, .string s] w fun e w' => e = .returned (.bool true) ∧ Below w.heap.size w w' := by
  have HM := Lib.hid (fun w => may40 p n c w (by omega))
  have HP1 := Lib.hid (fun w => parse41 s l w hl (by omega))
  have HP2 := Lib.hid (fun w => parse42 s l w hl (by omega))
  have hsz : s.size ≤ 140000 := by rw [Lib.size_eq, hl]; exact hz
  have hmay : (mayE n = 0 ∧ decide ((n : Int) ≤ 65535) = true ∧ decide (65535 < (n : Int)) = false) ∨ (mayE n = 8 ∧ decide ((n : Int) ≤ 65535) = false ∧ decide (65535 < (n : Int)) = true) := by
    unfold mayE
    by_cases h : 65535 < n
    · right; rw [if_pos h]; refine ⟨rfl, ?_, ?_⟩ <;> simp <;> omega
    · left; rw [if_neg h]; refine ⟨rfl, ?_, ?_⟩ <;> simp <;> omega
  have HB := Lib.hid hB
  have hz0 : (cmpL (lstP l) (lstP l) == 0) = true := by rw [beq_iff_eq, cmpL_zero]
  have q1 : (errP l == errP l) = true := by simp
  have q2 : (errP l != errP l) = false := by simp
  generalize lstP l = pl at *
  generalize errP l = pe at *
  have HZ := Lib.hid hz0
  have hfb : farB [(p, n, c)] = true := by simp [farB, h300]
  have HF := Lib.hid (far_one p n c (by omega))
  rw [hfb] at HF
  clear hB hl hz0 hfb
  rcases hmay with ⟨m0, m1, m2⟩ | ⟨m0, m1, m2⟩ <;> rcases hb with hb | ⟨hb, hb2⟩
  all_goals
    rw [m0] at HM
    clear m0
    go_enter Try.func9, Try.ntmps9
    go_wp2_with fail
    refine (HM.out _).mono ?_; rintro e w' ⟨rfl, rfl⟩
    go_wp2_with (go_at_call 40; refine (HM.out _).mono ?_; rintro e w' ⟨rfl, rfl⟩)
    refine (HP1.out _).mono ?_; rintro e w2 ⟨v, rfl, p2, c2, rfl, hq2, _, hbel2⟩
    have HL2 := Lib.hid hbel2
    have HB2 := Lib.hid hq2
    clear hq2 hbel2
    go_wp2_with fail
    refine (HP2.out _).mono ?_; rintro e w3 ⟨v, rfl, p3, c3, rfl, hq3, _, hbel3⟩
    have HL3 := Lib.hid (Below.step HL2.out hbel3)
    have HB3 := Lib.hid (HB2.out.below hbel3)
    have HC3 := Lib.hid hq3
    clear hq3 hbel3
    go_wp2_with fail
    refine (same18 _ _ _ _ _ _ _ _ _ HB3.out HC3.out).mono ?_
    rw [HZ.out]
    rintro e w4 ⟨rfl, z, hw4⟩
    have HL4 := Lib.hid (below_eq_drewN HL3.out hw4)
    clear hw4
    go_wp2_with fail
    refine (HF.out _ _ rfl).mono ?_
    rintro e w5 ⟨rfl, hw5⟩
    have HL5 := Lib.hid (below_eq_alloc HL4.out HL4.out.size hw5)
    clear hw5
    go_wp2_with fail
    refine (alive14 _).mono ?_; rintro e w6 ⟨rfl, hbel⟩
    have HL6 := Lib.hid (Below.step HL5.out hbel)
    clear hbel
    go_wp2_with fail
    go_ret
    exact ⟨rfl, HL6.out⟩

set_option maxRecDepth 100000 in
set_option maxHeartbeats 1600000 in
theorem texts_near (p : Option Addr) (n c : Nat) (xs : List Int) (s : ByteArray) (l : List UInt8) (w : World) (hB : Bs w p n c xs) (hl : s.data.toList = l) (hz : l.length ≤ 140000)
    (hb : decide (300 < (s.size : Int)) = false ∨ (decide (300 < (s.size : Int)) = true ∧ decide ((s.size : Int) < 131072) = false)) (hc : decide (140000 < (s.size : Int)) = false) (h300 : n ≤ 300) :
    Calls Try.prog 9 #[.slice p n c, .string s] w fun e w' => e = .returned (.bool true) ∧ Below w.heap.size w w' := by
  have HM := Lib.hid (fun w => may40 p n c w (by omega))
  have HP1 := Lib.hid (fun w => parse41 s l w hl (by omega))
  have HP2 := Lib.hid (fun w => parse42 s l w hl (by omega))
  have hsz : s.size ≤ 140000 := by rw [Lib.size_eq, hl]; exact hz
  have ha : decide (70000 < (n : Int)) = false := by simp; omega
  have m0 : mayE n = 0 := by unfold mayE; rw [if_neg (by omega)]
  have m1 : decide ((n : Int) ≤ 65535) = true := by simp; omega
  have m2 : decide (65535 < (n : Int)) = false := by simp; omega
  have HB := Lib.hid hB
  have hz0 : (cmpL (lstP l) (lstP l) == 0) = true := by rw [beq_iff_eq, cmpL_zero]
  have q1 : (errP l == errP l) = true := by simp
  have q2 : (errP l != errP l) = false := by simp
  generalize lstP l = pl at *
  generalize errP l = pe at *
  have HZ := Lib.hid hz0
  have hfb : farB [(p, n, c)] = false := by simp [farB]; omega
  have HF := Lib.hid (far_one p n c (by omega))
  rw [hfb] at HF
  obtain ⟨t0, t1⟩ := errP_text xs hB.byte (by rw [hB.len]; exact h300)
  have HP3 := Lib.hid (fun w => parse41 (textS xs) (textL xs) w rfl (by rw [length_textL, hB.len]; omega))
  rw [t0, t1] at HP3
  have HT1 := Lib.hid (fun w (hb : Bs w p n c xs) => text43 p n c xs w hb h300)
  have HT2 := Lib.hid (fun w (hb : Bs w p n c xs) => text44 p n c xs w hb h300)
  have HZ2 : Hid ((cmpL xs xs == 0) = true) := by show (cmpL xs xs == 0) = true; rw [beq_iff_eq, cmpL_zero]
  have q3 : ((textS xs).toList == (textS xs).toList) = true := by simp
  have HLEN := Lib.hid hB.len
  generalize textS xs = T at *
  clear hB hl hz0 hfb t0 t1
  rw [m0] at HM
  clear m0
  rcases hb with hb | ⟨hb, hb2⟩
  all_goals
    go_enter Try.func9, Try.ntmps9
    go_wp2_with fail
    refine (HM.out _).mono ?_; rintro e w' ⟨rfl, rfl⟩
    go_wp2_with fail
    refine (HP1.out _).mono ?_; rintro e w2 ⟨v, rfl, p2, c2, rfl, hq2, _, hbel2⟩
    have HL2 := Lib.hid hbel2
    have HB2 := Lib.hid hq2
    have HK2 := Lib.hid (HB.out.below hbel2)
    clear hq2 hbel2
    go_wp2_with fail
    refine (HP2.out _).mono ?_; rintro e w3 ⟨v, rfl, p3, c3, rfl, hq3, _, hbel3⟩
    have HL3 := Lib.hid (Below.step HL2.out hbel3)
    have HB3 := Lib.hid (HB2.out.below hbel3)
    have HK3 := Lib.hid (HK2.out.below hbel3)
    have HC3 := Lib.hid hq3
    clear hq3 hbel3
    go_wp2_with fail
    refine (same18 _ _ _ _ _ _ _ _ _ HB3.out HC3.out).mono ?_
    rw [HZ.out]
    rintro e w4 ⟨rfl, z, hw4⟩
    have HL4 := Lib.hid (below_eq_drewN HL3.out hw4)
    have HK4 : Hid (Bs w4 p n c xs) := by rw [hw4]; exact HK3.out.drewN _
    clear hw4
    go_wp2_with fail
    refine (HF.out _ _ rfl).mono ?_
    rintro e w5 ⟨rfl, hw5⟩
    have HL5 := Lib.hid (below_eq_alloc HL4.out HL4.out.size hw5)
    have HK5 : Hid (Bs w5 p n c xs) := by rw [hw5]; exact HK4.out.below ((Below.refl _ _).alloc (Nat.le_refl _) _)
    clear hw5
    go_wp2_with fail
    refine (HT1.out _ HK5.out).mono ?_; rintro e w6 ⟨rfl, hbel6⟩
    have HL6 := Lib.hid (Below.step HL5.out hbel6)
    have HK6 := Lib.hid (HK5.out.below hbel6)
    clear hbel6
    go_wp2_with fail
    refine (HP3.out _).mono ?_; rintro e w7 ⟨v, rfl, p7, c7, rfl, hq7, _, hbel7⟩
    have HL7 := Lib.hid (Below.step HL6.out hbel7)
    have HK7 := Lib.hid (HK6.out.below hbel7)
    rw [HLEN.out] at hq7
    rw [HLEN.out]
    have HC7 := Lib.hid hq7
    clear hq7 hbel7
    go_wp2_with fail
    refine (HT1.out _ HK7.out).mono ?_; rintro e w8 ⟨rfl, hbel8⟩
    have HL8 := Lib.hid (Below.step HL7.out hbel8)
    have HK8 := Lib.hid (HK7.out.below hbel8)
    have HC8 := Lib.hid (HC7.out.below hbel8)
    clear hbel8
    go_wp2_with fail
    refine (HT2.out _ HK8.out).mono ?_; rintro e w9 ⟨rfl, z9, hw9⟩
    have HL9 := Lib.hid (below_eq_drewN HL8.out hw9)
    have HK9 : Hid (Bs w9 p n c xs) := by rw [hw9]; exact HK8.out.drewN _
    have HC9 : Hid (Bs w9 p7 n c7 xs) := by rw [hw9]; exact HC8.out.drewN _
    clear hw9
    go_wp2_with fail
    refine (same18 _ _ _ _ _ _ _ _ _ HC9.out HK9.out).mono ?_
    rw [HZ2.out]
    rintro e w10 ⟨rfl, z10, hw10⟩
    have HL10 := Lib.hid (below_eq_drewN HL9.out hw10)
    clear hw10
    go_wp2_with fail
    refine (alive14 _).mono ?_; rintro e w11 ⟨rfl, hbel⟩
    have HL11 := Lib.hid (Below.step HL10.out hbel)
    clear hbel
    go_wp2_with fail
    go_ret
    exact ⟨rfl, HL11.out⟩

theorem walkKeysTexts (p : Option Addr) (n c : Nat) (s : ByteArray) (w : World) (w0 : RawB w p n c) (w1 : s.size ≤ maxLen) :
    Calls Try.prog 9 #[.slice p n c, .string s] w fun e w' => e = .returned (.bool true) ∧ Below w.heap.size w w' := by
  obtain ⟨hn, xs, hx⟩ := w0
  unfold maxLen at hn w1
  by_cases h : 70000 < n ∨ (300 < s.size ∧ s.size < 131072) ∨ 140000 < s.size
  · exact texts_out p n c s w hn w1 h
  · have hz : s.data.toList.length ≤ 140000 := by rw [← Lib.size_eq]; omega
    have hb : decide (300 < (s.size : Int)) = false ∨ (decide (300 < (s.size : Int)) = true ∧ decide ((s.size : Int) < 131072) = false) := by
      by_cases h3 : 300 < s.size
      · right; refine ⟨?_, ?_⟩ <;> simp <;> omega
      · left; simp; omega
    have hc : decide (140000 < (s.size : Int)) = false := by simp; omega
    by_cases h3 : 300 < n
    · exact texts_far p n c xs s _ w (hx (by omega)) rfl hz (by omega) (by simp; omega) hb hc h3
    · exact texts_near p n c xs s _ w (hx (by omega)) rfl hz hb hc (by omega)

end Go.Proofs.Ytbldahimdkifiaa
