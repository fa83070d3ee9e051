/-
  For the statement TopOwners: stats: count.
-/
import Derived.Test.YtbihlmkjoplkoaaGreatDoorM28
import Derived.Deep.LoopGhost
namespace Go.Proofs.YtbihlmkjoplkoaaGreatDoor
open Go.RowKit
set_option linter.unusedVariables false

theorem next_step {kid : Nat → T} {s b a : Nat} (h : NextK (fun c => (kid c).ptr) (s : Int) (b, some a)) : b < 256 ∧ s ≤ b ∧ (kid b).ptr = some a ∧ ∀ c, s ≤ c → c < b → kid c = .nil := by
  rcases h with ⟨b', a', h1, h2, h3, h4, e⟩ | ⟨_, e⟩
  · cases e
    exact ⟨h1, by omega, h3, fun c hc hcb => ptr_nil (h4 c hcb (by omega))⟩
  · cases e
theorem next_end {kid : Nat → T} {s b : Nat} (h : NextK (fun c => (kid c).ptr) (s : Int) (b, none)) : ∀ c, s ≤ c → c < 256 → kid c = .nil := by
  rcases h with ⟨b', a', h1, h2, h3, h4, e⟩ | ⟨h1, e⟩
  · cases e
  · exact fun c hc hcb => ptr_nil (h1 c hcb (by omega))

section
variable {B : Nat} {S : Store} {g : Nat}

theorem Cn.drewN {w : World} {s : Int} (h : Cn w g s) (z : Nat) : Cn (w.drewN z) g s := h.step (below_drewN (Below.refl _ _) z)
/-- what count does -/
def CountH (B : Nat) (S : Store) (g : Nat) (t : T) : Prop := ∀ (w : World) (s0 d1 d2 : Int) (id : Nat), t.ptr = some id → Sto B w S → Rep S t → Cn w g s0 → B ≤ g →
  Calls Tryz.prog 42 #[.pointer (some ⟨g, 0, none⟩), .pointer (some ⟨id, 0, none⟩), .int .i64 d1, .int .i64 d2] w fun e w' => e = .returned (.tuple #[]) ∧ Cn w' g (wrap64 (s0 + t.cnt (fun _ => true))) ∧ Exc [g] w w'

set_option maxHeartbeats 3200000 in
set_option maxRecDepth 100000 in
theorem count_node {w : World} {s0 d1 d2 : Int} (hs : Sto B w S) {id : Nat} {own : Int} {part : List Int} {val : Int} {has leaf : Bool} {kid : Nat → T} (hr : Rep S (.node id own part val has leaf kid)) (hc : Cn w g s0) (hB : B ≤ g) (ih : ∀ b, CountH B S g (kid b)) :
    Calls Tryz.prog 42 #[.pointer (some ⟨g, 0, none⟩), .pointer (some ⟨id, 0, none⟩), .int .i64 d1, .int .i64 d2] w fun e w' => e = .returned (.tuple #[]) ∧ Cn w' g (wrap64 (s0 + (T.node id own part val has leaf kid).cnt (fun _ => true))) ∧ Exc [g] w w' := by
  have HR := Lib.hid hr
  have HB := Lib.hid hB
  obtain ⟨f, hf⟩ : ∃ f : Nat → Nat, (fun b => (kid b).cnt (fun _ => true)) = f := ⟨_, rfl⟩
  have HC : Hid ((T.node id own part val has leaf kid).cnt (fun _ => true) = 1 + sumTo f 256) := by show _ = _; rw [← hf]; simp only [T.cnt, if_pos]
  have HF := Lib.hid hf
  have HI := Lib.hid ih
  have HFIT := Lib.hid (hs.fit _ _ hr.1)
  have HP := Lib.hid (part58 hs hr.1)
  have HS := Lib.hid hs
  have HN := Lib.hid hc
  obtain ⟨kn, hkn⟩ : ∃ kn, kindN ⟨own, part, val, has, leaf, fun b => (kid b).ptr⟩ = kn := ⟨_, rfl⟩
  have HKN : Hid (leaf = false → kn ≠ 1) := fun hl => by
    subst hl
    rw [← hkn]
    unfold kindN kindOf
    simp only [Bool.false_eq_true, if_false]
    repeat' split
    all_goals omega
  have HKL : Hid (leaf = true → kn = 1 ∧ ∀ b, kid b = .nil) := fun hl => by
    subst hl
    exact ⟨by rw [← hkn]; rfl, fun b => ptr_nil ((HFIT.out.1 rfl) b)⟩
  clear hs hr hB ih hf hc
  generalize hm : (T.node id own part val has leaf kid).cnt (fun _ => true) = m at *
  clear hm
  go_enter Tryz.func42, Tryz.ntmps42
  go_wp2_with fail
  refine HP.out.mono ?_; rintro e w1 ⟨pp, pc, rfl, hpk, hbel⟩
  obtain ⟨pl, hpl⟩ : ∃ pl, part.length = pl := ⟨_, rfl⟩
  have HS1 := Lib.hid (HS.out.step hbel)
  have N1 := Lib.hid (HN.out.step hbel)
  have X1 := Lib.hid (Exc.ofBelow hbel [g])
  obtain ⟨vv, hvv⟩ : ∃ vv, valOf ⟨own, part, val, has, leaf, fun b => (kid b).ptr⟩ = vv := ⟨_, rfl⟩
  have KV : Hid (∀ w', Exc [g] w1 w' → Calls Tryz.prog 63 #[.pointer (some ⟨id, 0, none⟩)] w' fun e w'' => e = .returned (.tuple #[.int .u64 vv, .bool has]) ∧ w'' = w') := fun w' x => by
    have := val63 (N1.out.sto HS1.out HB.out x) HR.out.1
    rw [hvv] at this
    exact this
  have KK : Hid (∀ w', Cn w' g s0 → Exc [g] w1 w' → Calls Tryz.prog 64 #[.pointer (some ⟨id, 0, none⟩)] w' fun e w'' => e = .returned (.int .i64 kn) ∧ Cn w'' g s0 ∧ Exc [g] w1 w'') := fun w' c x => by
    have := kind64 (N1.out.sto HS1.out HB.out x) HR.out.1
    rw [hkn] at this
    exact this.mono fun e w'' ⟨h1, h2⟩ => by subst h2; exact ⟨h1, c, x⟩
  have KQ : Hid (∀ w', Exc [g] w1 w' → Calls Tryz.prog 64 #[.pointer (some ⟨id, 0, none⟩)] w' fun e w'' => e = .returned (.int .i64 kn) ∧ w'' = w') := fun w' x => by
    have := kind64 (N1.out.sto HS1.out HB.out x) HR.out.1
    rw [hkn] at this
    exact this
  have KN : Hid (∀ w' y (s : Nat), Cn w' g y → Exc [g] w1 w' → Calls Tryz.prog 61 #[.pointer (some ⟨id, 0, none⟩), .int .i64 s] w' fun e w'' => ∃ r, NextK (fun b => (kid b).ptr) s r ∧ e = .returned (.tuple #[.int .u8 r.1, .pointer (pt r.2)]) ∧ Cn w'' g y ∧ Exc [g] w1 w'') := fun w' y s c x =>
    (next61 (N1.out.sto HS1.out HB.out x) HR.out.1 s).mono fun e w'' ⟨r, h1, h2, z, h3⟩ => by
      subst h3
      exact ⟨r, h1, h2, c.step (below_drewN (Below.refl _ _) z), x.drewN z⟩
  have KI : Hid (∀ (b a : Nat) w' y e1 e2, (kid b).ptr = some a → Cn w' g y → Exc [g] w1 w' → Calls Tryz.prog 42 #[.pointer (some ⟨g, 0, none⟩), .pointer (some ⟨a, 0, none⟩), .int .i64 e1, .int .i64 e2] w' fun e w'' => e = .returned (.tuple #[]) ∧ Cn w'' g (wrap64 (y + f b)) ∧ Exc [g] w1 w'') := fun b a w' y e1 e2 hk c x =>
    (HI.out b w' y e1 e2 a hk (N1.out.sto HS1.out HB.out x) (HR.out.2 b) c HB.out).mono fun e w'' ⟨h1, h2, h3⟩ => by
      refine ⟨h1, ?_, x.trans h3⟩
      rw [← congrFun HF.out b]; exact h2
  clear hpk hbel hvv hkn
  obtain ⟨y0, c0⟩ := N1.out.get 0 (by omega)
  obtain ⟨y1, c1⟩ := N1.out.get 1 (by omega)
  obtain ⟨y6, c6⟩ := N1.out.get 6 (by omega)
  obtain ⟨y7, c7⟩ := N1.out.get 7 (by omega)
  obtain ⟨y8, c8⟩ := N1.out.get 8 (by omega)
  obtain ⟨y9, c9⟩ := N1.out.get 9 (by omega)
  have z0 := N1.out.free 0
  have z1 := N1.out.free 1
  have z6 := N1.out.free 6
  have z7 := N1.out.free 7
  have z8 := N1.out.free 8
  have z9 := N1.out.free 9
  simp only [hpl]
  clear hpl
  cases has with
  | true =>
    cases leaf with
    | true =>
      obtain ⟨hk1, hkn⟩ := HKL.out rfl
      subst hk1
      go_wp2_with fail
      refine (KV.out _ (by repeat (first | exact Exc.refl _ _ | refine Exc.set ?_ (by simp) _ | refine Exc.drewN ?_ _))).mono ?_; rintro e w2 ⟨rfl, rfl⟩
      go_wp2_with fail
      refine (KK.out _ (by repeat (first | exact N1.out | refine Cn.set ?_ _ (by omega) _)) (by repeat (first | exact Exc.refl _ _ | refine Exc.set ?_ (by simp) _ | refine Exc.drewN ?_ _))).mono ?_; rintro e w2 ⟨rfl, n2, x2⟩
      have N2 := Lib.hid n2
      have X2 := Lib.hid x2
      obtain ⟨v1, k1⟩ := n2.get 1 (by omega)
      have zz1 := n2.free 1
      have M2 := Lib.hid (n2.bump 1 (by omega) k1)
      clear n2 x2 c0 c1 c6 c7 c8 c9 z0 z1 z6 z7 z8 z9
      go_wp2_with fail
      try simp only [Exit.inBlock, Exit.then]
      refine bodyPost_ret (results_none rfl _ _ _) rfl ?_
      refine ⟨rfl, ?_, X1.out.trans (X2.out.set (p := ⟨g, 1, none⟩) (by simp) _)⟩
      have hm : m = 1 := by
        rw [HC.out, sumTo_zero 256 (fun b _ => by rw [← congrFun HF.out b, hkn b]; rfl)]
      rw [hm]; exact M2.out
    | false =>
      have d1 : ((kn : Int) == 1) = false := by have := HKN.out rfl; simp; omega
      have PL := Lib.hid (placeOf_lt kn)
      obtain ⟨p, hp⟩ : ∃ p, placeOf kn = p := ⟨_, rfl⟩
      have P65 : Hid (∀ w, Calls Tryz.prog 65 #[.int .i64 kn] w fun e w' => e = .returned (.int .i64 p) ∧ w' = w) := fun w => by
        have := place65 w kn
        rw [hp] at this
        exact this
      have hp4 := PL.out
      rw [hp] at hp4
      have HP4 := Lib.hid hp4
      clear hp hp4
      go_wp2_with fail
      refine (KV.out _ (by repeat (first | exact Exc.refl _ _ | refine Exc.set ?_ (by simp) _ | refine Exc.drewN ?_ _))).mono ?_; rintro e w2 ⟨rfl, rfl⟩
      go_wp2_with fail
      refine (KK.out _ (by repeat (first | exact N1.out | refine Cn.set ?_ _ (by omega) _)) (by repeat (first | exact Exc.refl _ _ | refine Exc.set ?_ (by simp) _ | refine Exc.drewN ?_ _))).mono ?_; rintro e w2 ⟨rfl, n2, x2⟩
      have N2 := Lib.hid n2
      have X2 := Lib.hid x2
      have hp4 := HP4.out
      obtain ⟨v6, k6⟩ := n2.get 6 (by omega)
      obtain ⟨vp, kp⟩ := n2.get (2 + p) (by omega)
      have zz6 := n2.free 6
      have zzp := n2.free (2 + p)
      have np : ¬ (2 + p = 6) := by omega
      have p0 : (0 : Int) ≤ (p : Int) := by omega
      have p4 : (p : Int) < 4 := by omega
      clear hp4 n2 x2 c0 c1 c6 c7 c8 c9 z0 z1 z6 z7 z8 z9
      go_wp2_with fail
      refine wp_region_quiet_tail (C := fun w' => ∃ n, w' = World.drewN _ n) 12 (by kernel_rfl) (by kernel_rfl) (by kernel_rfl) ⟨1, rfl⟩ ?_
      simp only [List.take_succ_cons, List.take_zero, List.drop_succ_cons, List.drop_zero]
      repeat (quiet_step (first
        | (go_at_call 64; exact Calls.quiet_of_same (KQ.out _ (by repeat (first | exact X2.out | refine Exc.set ?_ (by simp) _ | refine Exc.drewN ?_ _))))
        | (go_at_call 65; exact Calls.quiet_of_same (P65.out _))))
      refine wpQuiet_nil ?_
      intro _ hw'
      obtain ⟨nq, hw''⟩ := hw'
      subst hw''
      go_wp2_with fail
      refine (KN.out _ (wrap64 (s0 + 1)) 0 (Cn.bump (Cn.drewN (N2.out.set 6 (by omega) _) nq) (2 + p) (by have := HP4.out; omega) (set_off kp np)) (by repeat (first | exact X2.out | refine Exc.set ?_ (by simp) _ | refine Exc.drewN ?_ _))).mono ?_; rintro e w3 ⟨r, hnk, rfl, n3, x3⟩
      have NK := Lib.hid hnk
      have N3 := Lib.hid n3
      have X3 := Lib.hid x3
      clear hnk n3 x3 k6 kp zz6 zzp np p0 p4 d1
      obtain ⟨pr, hpr⟩ : ∃ pr, pt r.2 = pr := ⟨_, rfl⟩
      obtain ⟨rb, hrb⟩ : ∃ rb : Int, ((r.1 : Nat) : Int) = rb := ⟨_, rfl⟩
      rw [hpr, hrb]
      have HPR := Lib.hid (And.intro hpr hrb)
      clear hpr hrb
      go_wp2_with fail
      go_loopg [11, 12] 257 (fun gk c q wr => ∃ (s : Nat) (r : Nat × Option Nat), gk = 257 - s ∧ s ≤ 256 ∧ c = .int .u8 r.1 ∧ q = .pointer (pt r.2) ∧ Hid (NextK (fun b => (kid b).ptr) s r) ∧ Hid (Cn wr g (wrap64 (s0 + ((1 + sumTo f s : Nat) : Int)))) ∧ Hid (Exc [g] w1 wr))
      case atStart => exact ⟨0, r, by omega, by omega, by rw [HPR.out.2], by rw [HPR.out.1], NK.out, by show Cn _ _ _; simpa [sumTo] using N3.out, X3.out⟩
      case round =>
        obtain ⟨s, ⟨b, a⟩, hgk, hs, rfl, rfl, hnk, hcn, hex⟩ := hrel
        have HG := Lib.hid hgk
        have HS2 := Lib.hid hs
        clear hgk hs
        simp only
        cases a with
        | none =>
          have he := next_end hnk.out
          simp only [pt]
          go_wp2_with fail
          refine bodyPost_end (results_none rfl _ _ _) rfl ?_
          refine ⟨rfl, ?_, X1.out.trans hex.out⟩
          rw [HC.out, sumTo_skip s 256 HS2.out (fun c h1 h2 => by rw [← congrFun HF.out c, he c h1 h2]; rfl)]
          exact hcn.out
        | some a =>
          obtain ⟨hb, hsb, hka, hz⟩ := next_step hnk.out
          have hn := run_neq_pointer_nil (P := Tryz.prog) wr 48 (some ⟨a, 0, none⟩) (by kernel_rfl)
          have HB1 := Lib.hid (show b < 256 ∧ s ≤ b from ⟨hb, hsb⟩)
          have HSUM : Hid (sumTo f (b + 1) = sumTo f s + f b) := by
            show _ = _
            simp only [sumTo]
            rw [sumTo_skip s b hsb (fun c h1 h2 => by rw [← congrFun HF.out c, hz c h1 h2]; rfl)]
          have HKA := Lib.hid hka
          have q1 : wrap64 ((b : Int) + 1) = (b : Int) + 1 := IntWalk.wrap64_in _ (by omega)
          have q2 : IntKind.i64.wrap (b : Int) = (b : Int) := IntWalk.i64_in _ (by omega)
          have q3 : wrap64 (b : Int) = (b : Int) := IntWalk.wrap64_in _ (by omega)
          clear hb hsb hz hka
          simp only [pt]
          go_wp2_with fail
          refine (KI.out b a _ _ _ _ HKA.out hcn.out hex.out).mono ?_; rintro e w4 ⟨rfl, n4, x4⟩
          have N4 := Lib.hid n4
          have X4 := Lib.hid x4
          clear n4 x4
          go_wp2_with fail
          refine (KN.out _ _ (b + 1) N4.out X4.out).mono ?_; rintro e w5 ⟨r5, nk5, rfl, n5, x5⟩
          have NK5 := Lib.hid nk5
          have N5 := Lib.hid n5
          have X5 := Lib.hid x5
          clear nk5 n5 x5
          go_wp2_with fail
          go_roundg (257 - (b + 1))
          case measure => rw [HG.out]; have := HB1.out; omega
          case rel => exact ⟨b + 1, r5, rfl, by have := HB1.out; omega, rfl, rfl, NK5.out, by show Cn _ _ _; have h5 := N5.out; rw [wrap_addL] at h5; rw [HSUM.out]; rw [show s0 + ((1 + (sumTo f s + f b) : Nat) : Int) = s0 + ((1 + sumTo f s : Nat) : Int) + (f b : Int) by push_cast; omega]; exact h5, X5.out⟩
  | false =>
    cases leaf with
    | true =>
      obtain ⟨hk1, hkn⟩ := HKL.out rfl
      subst hk1
      go_wp2_with fail
      refine (KV.out _ (by repeat (first | exact Exc.refl _ _ | refine Exc.set ?_ (by simp) _ | refine Exc.drewN ?_ _))).mono ?_; rintro e w2 ⟨rfl, rfl⟩
      go_wp2_with fail
      refine (KK.out _ (by repeat (first | exact N1.out | refine Cn.set ?_ _ (by omega) _)) (by repeat (first | exact Exc.refl _ _ | refine Exc.set ?_ (by simp) _ | refine Exc.drewN ?_ _))).mono ?_; rintro e w2 ⟨rfl, n2, x2⟩
      have N2 := Lib.hid n2
      have X2 := Lib.hid x2
      obtain ⟨v1, k1⟩ := n2.get 1 (by omega)
      have zz1 := n2.free 1
      have M2 := Lib.hid (n2.bump 1 (by omega) k1)
      clear n2 x2 c0 c1 c6 c7 c8 c9 z0 z1 z6 z7 z8 z9
      go_wp2_with fail
      try simp only [Exit.inBlock, Exit.then]
      refine bodyPost_ret (results_none rfl _ _ _) rfl ?_
      refine ⟨rfl, ?_, X1.out.trans (X2.out.set (p := ⟨g, 1, none⟩) (by simp) _)⟩
      have hm : m = 1 := by
        rw [HC.out, sumTo_zero 256 (fun b _ => by rw [← congrFun HF.out b, hkn b]; rfl)]
      rw [hm]; exact M2.out
    | false =>
      have d1 : ((kn : Int) == 1) = false := by have := HKN.out rfl; simp; omega
      have PL := Lib.hid (placeOf_lt kn)
      obtain ⟨p, hp⟩ : ∃ p, placeOf kn = p := ⟨_, rfl⟩
      have P65 : Hid (∀ w, Calls Tryz.prog 65 #[.int .i64 kn] w fun e w' => e = .returned (.int .i64 p) ∧ w' = w) := fun w => by
        have := place65 w kn
        rw [hp] at this
        exact this
      have hp4 := PL.out
      rw [hp] at hp4
      have HP4 := Lib.hid hp4
      clear hp hp4
      go_wp2_with fail
      refine (KV.out _ (by repeat (first | exact Exc.refl _ _ | refine Exc.set ?_ (by simp) _ | refine Exc.drewN ?_ _))).mono ?_; rintro e w2 ⟨rfl, rfl⟩
      go_wp2_with fail
      refine (KK.out _ (by repeat (first | exact N1.out | refine Cn.set ?_ _ (by omega) _)) (by repeat (first | exact Exc.refl _ _ | refine Exc.set ?_ (by simp) _ | refine Exc.drewN ?_ _))).mono ?_; rintro e w2 ⟨rfl, n2, x2⟩
      have N2 := Lib.hid n2
      have X2 := Lib.hid x2
      have hp4 := HP4.out
      obtain ⟨v6, k6⟩ := n2.get 6 (by omega)
      obtain ⟨vp, kp⟩ := n2.get (2 + p) (by omega)
      have zz6 := n2.free 6
      have zzp := n2.free (2 + p)
      have np : ¬ (2 + p = 6) := by omega
      have p0 : (0 : Int) ≤ (p : Int) := by omega
      have p4 : (p : Int) < 4 := by omega
      clear hp4 n2 x2 c0 c1 c6 c7 c8 c9 z0 z1 z6 z7 z8 z9
      go_wp2_with fail
      refine wp_region_quiet_tail (C := fun w' => ∃ n, w' = World.drewN _ n) 12 (by kernel_rfl) (by kernel_rfl) (by kernel_rfl) ⟨1, rfl⟩ ?_
      simp only [List.take_succ_cons, List.take_zero, List.drop_succ_cons, List.drop_zero]
      repeat (quiet_step (first
        | (go_at_call 64; exact Calls.quiet_of_same (KQ.out _ (by repeat (first | exact X2.out | refine Exc.set ?_ (by simp) _ | refine Exc.drewN ?_ _))))
        | (go_at_call 65; exact Calls.quiet_of_same (P65.out _))))
      refine wpQuiet_nil ?_
      intro _ hw'
      obtain ⟨nq, hw''⟩ := hw'
      subst hw''
      go_wp2_with fail
      refine (KN.out _ (wrap64 (s0 + 1)) 0 (Cn.bump (N2.out.drewN nq) (2 + p) (by have := HP4.out; omega) kp) (by repeat (first | exact X2.out | refine Exc.set ?_ (by simp) _ | refine Exc.drewN ?_ _))).mono ?_; rintro e w3 ⟨r, hnk, rfl, n3, x3⟩
      have NK := Lib.hid hnk
      have N3 := Lib.hid n3
      have X3 := Lib.hid x3
      clear hnk n3 x3 k6 kp zz6 zzp np p0 p4 d1
      obtain ⟨pr, hpr⟩ : ∃ pr, pt r.2 = pr := ⟨_, rfl⟩
      obtain ⟨rb, hrb⟩ : ∃ rb : Int, ((r.1 : Nat) : Int) = rb := ⟨_, rfl⟩
      rw [hpr, hrb]
      have HPR := Lib.hid (And.intro hpr hrb)
      clear hpr hrb
      go_wp2_with fail
      go_loopg [11, 12] 257 (fun gk c q wr => ∃ (s : Nat) (r : Nat × Option Nat), gk = 257 - s ∧ s ≤ 256 ∧ c = .int .u8 r.1 ∧ q = .pointer (pt r.2) ∧ Hid (NextK (fun b => (kid b).ptr) s r) ∧ Hid (Cn wr g (wrap64 (s0 + ((1 + sumTo f s : Nat) : Int)))) ∧ Hid (Exc [g] w1 wr))
      case atStart => exact ⟨0, r, by omega, by omega, by rw [HPR.out.2], by rw [HPR.out.1], NK.out, by show Cn _ _ _; simpa [sumTo] using N3.out, X3.out⟩
      case round =>
        obtain ⟨s, ⟨b, a⟩, hgk, hs, rfl, rfl, hnk, hcn, hex⟩ := hrel
        have HG := Lib.hid hgk
        have HS2 := Lib.hid hs
        clear hgk hs
        simp only
        cases a with
        | none =>
          have he := next_end hnk.out
          simp only [pt]
          go_wp2_with fail
          refine bodyPost_end (results_none rfl _ _ _) rfl ?_
          refine ⟨rfl, ?_, X1.out.trans hex.out⟩
          rw [HC.out, sumTo_skip s 256 HS2.out (fun c h1 h2 => by rw [← congrFun HF.out c, he c h1 h2]; rfl)]
          exact hcn.out
        | some a =>
          obtain ⟨hb, hsb, hka, hz⟩ := next_step hnk.out
          have hn := run_neq_pointer_nil (P := Tryz.prog) wr 48 (some ⟨a, 0, none⟩) (by kernel_rfl)
          have HB1 := Lib.hid (show b < 256 ∧ s ≤ b from ⟨hb, hsb⟩)
          have HSUM : Hid (sumTo f (b + 1) = sumTo f s + f b) := by
            show _ = _
            simp only [sumTo]
            rw [sumTo_skip s b hsb (fun c h1 h2 => by rw [← congrFun HF.out c, hz c h1 h2]; rfl)]
          have HKA := Lib.hid hka
          have q1 : wrap64 ((b : Int) + 1) = (b : Int) + 1 := IntWalk.wrap64_in _ (by omega)
          have q2 : IntKind.i64.wrap (b : Int) = (b : Int) := IntWalk.i64_in _ (by omega)
          have q3 : wrap64 (b : Int) = (b : Int) := IntWalk.wrap64_in _ (by omega)
          clear hb hsb hz hka
          simp only [pt]
          go_wp2_with fail
          refine (KI.out b a _ _ _ _ HKA.out hcn.out hex.out).mono ?_; rintro e w4 ⟨rfl, n4, x4⟩
          have N4 := Lib.hid n4
          have X4 := Lib.hid x4
          clear n4 x4
          go_wp2_with fail
          refine (KN.out _ _ (b + 1) N4.out X4.out).mono ?_; rintro e w5 ⟨r5, nk5, rfl, n5, x5⟩
          have NK5 := Lib.hid nk5
          have N5 := Lib.hid n5
          have X5 := Lib.hid x5
          clear nk5 n5 x5
          go_wp2_with fail
          go_roundg (257 - (b + 1))
          case measure => rw [HG.out]; have := HB1.out; omega
          case rel => exact ⟨b + 1, r5, rfl, by have := HB1.out; omega, rfl, rfl, NK5.out, by show Cn _ _ _; have h5 := N5.out; rw [wrap_addL] at h5; rw [HSUM.out]; rw [show s0 + ((1 + (sumTo f s + f b) : Nat) : Int) = s0 + ((1 + sumTo f s : Nat) : Int) + (f b : Int) by push_cast; omega]; exact h5, X5.out⟩

theorem count42 : ∀ t : T, CountH B S g t := by
  intro t
  induction t with
  | nil => intro w s0 d1 d2 id h; cases h
  | node id own part val has leaf kid ih =>
    intro w s0 d1 d2 id' h hs hr hc hB
    cases h
    exact count_node hs hr hc hB ih
end
end Go.Proofs.YtbihlmkjoplkoaaGreatDoor
