/-
  For the statement TopOwners: put: split, where the part is parted.
-/
import Derived.Test.YtbihlmkjoplkoaaGreatDoorM20
namespace Go.Proofs.YtbihlmkjoplkoaaGreatDoor
open Go.RowKit
set_option linter.unusedVariables false

/-- the store but for a node -/
def cutS (S : Store) (x : Nat) : Store := fun a => if a = x then none else S a
theorem cutS_same (S : Store) (x : Nat) : cutS S x x = none := by simp [cutS]
theorem cutS_other (S : Store) (x a : Nat) (h : a ≠ x) : cutS S x a = S a := by simp [cutS, h]

/-- the node below a new one -/
theorem up_rep {q : Int} {S S' : Store} {id a' a0 : Nat} {own : Int} {part part' : List Int} {val : Int} {has leaf : Bool} {kid : Nat → T} (hr : Rep S (.node id own part val has leaf kid)) (hs : (T.node id own part val has leaf kid).Sep)
    (ho : OwnR q (newIn S) id own a') (h0 : S a0 = none) (hne : a0 ≠ a') (h1 : S' a' = some ⟨q, part', val, has, leaf, fun b => (kid b).ptr⟩) (h2 : ∀ a, a ≠ a0 → a ≠ a' → S' a = S a) :
    Rep S' (.node a' q part' val has leaf kid) ∧ (S' a0 ≠ none → Ext q S S' (.node id own part val has leaf kid)) := by
  obtain ⟨r1, r2⟩ := own_rep (S' := cutS S' a0) hr hs ho (by rw [cutS_other _ _ _ (fun e => hne e.symm)]; exact h1) (fun a ha => by
    by_cases e : a = a0
    · rw [e, cutS_same]; exact h0.symm
    · rw [cutS_other _ _ _ e]; exact h2 a e ha)
  refine ⟨r1.same (fun a ha => ?_), fun hn => ⟨fun a d hd hh => ?_, fun a ha => ?_⟩⟩
  · have := r1.in ha
    by_cases e : a = a0
    · rw [e, cutS_same] at this; exact absurd rfl this
    · rw [cutS_other _ _ _ e]
  · have h3 := r2.1 a d hd hh
    by_cases e : a = a0
    · rw [e, cutS_same] at h3; cases h3
    · rw [cutS_other _ _ _ e] at h3; exact h3
  · by_cases e : a = a0
    · rw [e]; exact hn
    · have h3 := r2.2 a ha
      rw [cutS_other _ _ _ e] at h3; exact h3

section
variable {B wb : Nat} {o : Int} {w : World} {S : Store}

set_option maxHeartbeats 3200000 in
theorem split_up (h : Env B wb o w S) (q v : Int) (h0 : q ≠ 0) (hv : 0 ≤ v ∧ v < 18446744073709551616) {id : Nat} {own : Int} {pre part : List Int} {b : Nat} {val : Int} {has leaf : Bool} {kid : Nat → T}
    (hr : Rep S (.node id own (pre ++ (b : Int) :: part) val has leaf kid)) (hs : (T.node id own (pre ++ (b : Int) :: part) val has leaf kid).Sep) {pp : Option Addr} {s m pc : Nat} (hps : pre.length = s) (hp : Kb B w pp m pc (pre ++ (b : Int) :: part)) (kp : Option Addr) (n kc : Nat) (hn : n = s) :
    Calls Tryz.prog 82 #[putter v q wb, .pointer (some ⟨id, 0, none⟩), .slice pp m pc, .slice kp n kc, .int .i64 s] w fun e w' => PutS B wb o w w' S q v pre (.node id own (pre ++ (b : Int) :: part) val has leaf kid) e := by
  have hb : b < 256 := by have := hp.bs.byte (b : Int) (by simp); omega
  have HR := Lib.hid hr
  have HS := Lib.hid hs
  have HV := Lib.hid hv
  have hpm := hp.bs.len
  have hpbig := hp.bs.big
  have hsm : s < m := by rw [← hpm, ← hps]; simp
  have ST := Lib.hid (Start.mk' h v q)
  have P1 := Lib.hid (hp.step ST.out.bel)
  obtain ⟨pb, po, rfl⟩ := hp.some_of (by omega)
  have hpcell := P1.out.mid
  rw [hps] at hpcell
  obtain ⟨q1, d1, hsl1, hk1⟩ := slice_to hp s s rfl (by omega)
  have hk1' : Kb B w q1 s d1 pre := by rw [← hps, take_mid, hps] at hk1; exact hk1
  obtain ⟨q2, d2, hsl2, hk2⟩ := slice_from hp ((s : Int) + 1) (s + 1) (by push_cast; rfl) (by omega)
  have hk2' : Kb B w q2 (m - (s + 1)) d2 part := by rw [← hps, drop_mid, hps] at hk2; exact hk2
  have Q1 := Lib.hid (hk1'.step ST.out.bel)
  have Q2 := Lib.hid (hk2'.step ST.out.bel)
  have PS := Lib.hid hps
  have e1 : ((s : Int) == (m : Int)) = false := by simp; omega
  have w1q : IntKind.i64.wrap ((s : Int) + 1) = (s : Int) + 1 := IntWalk.i64_in _ (by omega)
  have t0 : (0 : Int) ≤ (s : Int) + 1 := by omega
  have t1 : (s : Int) < (m : Int) := by omega
  have t2 : (0 : Int) ≤ (s : Int) := by omega
  subst hn
  have e2 : ((n : Int) == (n : Int)) = true := by simp
  have hx0 := ST.out.bx.all
  clear h hr hs hv hp hk1 hk1' hk2 hk2' hps hpm
  have BX := Lib.hid ST.out.bx
  have SL1 := Lib.hid hsl1
  have SL2 := Lib.hid hsl2
  clear hsl1 hsl2
  obtain ⟨b0, b1, b2⟩ := hx0
  have hsl := SL1.out
  unfold putter
  go_enter Tryz.func82, Tryz.ntmps82
  go_wp2_with fail
  go_region_held3 (fun W' : World => W'.cell? ⟨w.heap.size, 1, none⟩ = some (.int .u64 q) ∧ W'.cell? ⟨w.heap.size, 2, none⟩ = some (.pointer (some ⟨wb, 0, none⟩)))
    (first
      | exact ⟨b1, b2⟩
      | exact X)
    (first
      | (go_at_call 70
         refine (inner70 (ST.out.env.drewN 1) q (Q1.out.step (below_drewN (Below.refl _ _) 1))).mono ?_
         rintro e w2 ⟨a0, rfl, hn0, hE2, hO2⟩
         have X := (BX.out.oth ((Oth.d _).trans hO2)).all.2))
  have E2 := Lib.hid hE2
  have O2 := Lib.hid ((Oth.d _).trans hO2)
  have N0 := Lib.hid hn0
  have B2 := Lib.hid (BX.out.oth O2.out)
  have hid2 : Hid (stS S a0 ⟨q, pre, 0, false, false, fun _ => none⟩ id = some ⟨own, pre ++ (b : Int) :: part, val, has, leaf, fun b => (kid b).ptr⟩) := by
    show _ = _
    rw [stS_other _ _ _ _ (fun e => by subst e; have := HR.out.1; rw [hn0] at this; cases this)]
    exact HR.out.1
  clear hE2 hO2 hn0 X b0 b1 b2 hsl hpcell
  obtain ⟨b0, b1, b2⟩ := B2.out.all
  go_wp2_with fail
  refine (own85 E2.out hid2.out q h0).mono ?_; rintro e w3 hown
  obtain ⟨a', S2, rfl, ho, hE, hO, hS1, hS2⟩ := own_as E2.out hid2.out hown
  have OW1 := Lib.hid ho
  have E3 := Lib.hid hE
  have O3 := Lib.hid (O2.out.trans hO)
  have A1 := Lib.hid hS1
  have A2 := Lib.hid hS2
  have B3 := Lib.hid (BX.out.oth O3.out)
  have N1 : Hid (a0 ≠ a') := fun e => by
    rcases ho with ⟨_, e2⟩ | ⟨_, e2⟩
    · have h1 := HR.out.1; rw [← e2, ← e, N0.out] at h1; cases h1
    · rw [newIn, ← e, stS_same] at e2; cases e2
  have OW : Hid (OwnR q (newIn S) id own a') := OwnR.mono ho (fun a ha => by
    by_cases e : a = a0
    · rw [e, stS_same]; simp
    · rw [stS_other _ _ _ _ e]; exact ha)
  have Q3b := Lib.hid (ST.out.env.kb O3.out Q2.out)
  clear ho hE hO hS1 hS2 hown b0 b1 b2
  obtain ⟨b0, b1, b2⟩ := B3.out.all
  have hsl := SL2.out
  go_wp2_with fail
  go_region_held3 (fun W' : World => W'.cell? ⟨w.heap.size, 1, none⟩ = some (.int .u64 q))
    (first
      | exact b1
      | exact X)
    (first
      | (go_at_call 111
         refine (setPart111 (E3.out.drewN 1) A1.out q h0 rfl (Q3b.out.step (below_drewN (Below.refl _ _) 1))).mono ?_
         rintro e w4 ⟨m4, rfl, hE4, hO4⟩
         have X := (B3.out.oth ((Oth.d _).trans hO4)).c1))
  have E4 := Lib.hid hE4
  have O4 := Lib.hid (O3.out.trans ((Oth.d _).trans hO4))
  have B4 := Lib.hid (BX.out.oth O4.out)
  have P4 := Lib.hid (ST.out.env.kb O4.out P1.out)
  clear hE4 hO4 X b0 b1 b2 hsl
  obtain ⟨b0, b1, b2⟩ := B4.out.all
  have hpc : w4.cell? ⟨pb, po + n, none⟩ = some (.int .u8 b) := by rw [← PS.out]; exact P4.out.mid
  have A0 : Hid (stS S2 a' ⟨q, part, val, has, leaf, fun b => (kid b).ptr⟩ a0 = some ⟨q, pre, 0, false, false, fun _ => none⟩) := by
    show _ = _
    rw [stS_other _ _ _ _ N1.out, A2.out a0 N1.out, stS_same]
  have PC : Hid (∀ w', Oth B wb w4 w' → w'.cell? ⟨w.heap.size, 1, none⟩ = some (.int .u64 q) ∧ w'.cell? ⟨pb, po + n, none⟩ = some (.int .u8 b)) := fun w' hO' =>
    ⟨(B4.out.oth hO').c1, by rw [← PS.out]; exact (E4.out.kb hO' P4.out).mid⟩
  go_wp2_with fail
  go_region_held3 (fun W' : World => W'.cell? ⟨w.heap.size, 1, none⟩ = some (.int .u64 q) ∧ W'.cell? ⟨pb, po + n, none⟩ = some (.int .u8 b))
    (first
      | exact ⟨b1, hpc⟩
      | exact X)
    (first
      | (go_at_call 72
         refine (setKid72 (E4.out.drewN 1) A0.out q h0 rfl rfl b hb a').mono ?_
         rintro e w5 ⟨m5, rfl, hE5, hO5⟩
         have X := PC.out _ ((Oth.d _).trans hO5)))
  have E5 := Lib.hid hE5
  have O5 := Lib.hid (O4.out.trans ((Oth.d _).trans hO5))
  have B5 := Lib.hid (BX.out.oth O5.out)
  obtain ⟨S4, hS4⟩ : ∃ S4, S4 = stS (stS S2 a' ⟨q, part, val, has, leaf, fun b => (kid b).ptr⟩) a0 ⟨q, pre, 0, false, false, updK (fun _ => none) b (some a')⟩ := ⟨_, rfl⟩
  have F0 : Hid (S4 a0 = some ⟨q, pre, 0, false, false, updK (fun _ => none) b (some a')⟩) := by show _ = _; rw [hS4, stS_same]
  have F1 : Hid (S4 a' = some ⟨q, part, val, has, leaf, fun b => (kid b).ptr⟩) := by show _ = _; rw [hS4, stS_other _ _ _ _ (fun e => N1.out e.symm), stS_same]
  have F2 : Hid (∀ a, a ≠ a0 → a ≠ a' → S4 a = S a) := fun a h1 h2 => by rw [hS4, stS_other _ _ _ _ h1, stS_other _ _ _ _ h2, A2.out a h2, stS_other _ _ _ _ h1]
  have E6 : Hid (Env B wb o w5 S4) := by show Env _ _ _ _ _; rw [hS4]; exact hE5
  clear hE5 hO5 X b0 b1 b2 hpc hS4 E5
  obtain ⟨b0, b1, b2⟩ := B5.out.all
  go_wp2_with fail
  refine (setVal71 E6.out F0.out q v h0 rfl HV.out).mono ?_; rintro e w6 ⟨m6, rfl, hE7, hO7⟩
  have E7 := Lib.hid hE7
  have O7 := Lib.hid (O5.out.trans hO7)
  clear hE7 hO7 b0 b1 b2
  go_wp2_with fail
  go_ret
  have g1 : stS S4 a0 ⟨q, pre, v, true, false, updK (fun _ => none) b (some a')⟩ a0 = some ⟨q, pre, v, true, false, updK (fun _ => none) b (some a')⟩ := stS_same _ _ _
  have g2 : ∀ a, a ≠ a0 → stS S4 a0 ⟨q, pre, v, true, false, updK (fun _ => none) b (some a')⟩ a = S4 a := fun a ha => stS_other _ _ _ _ ha
  generalize stS S4 a0 ⟨q, pre, v, true, false, updK (fun _ => none) b (some a')⟩ = S7 at *
  obtain ⟨r1, r2⟩ := up_rep HR.out HS.out OW.out N0.out N1.out ((g2 a' (fun e => N1.out e.symm)).trans F1.out) (fun a h1 h2 => (g2 a h1).trans (F2.out a h1 h2))
  have r3 := r2 (fun h => by rw [g1] at h; cases h)
  exact ⟨.node a0 q pre v true false (one b (.node a' q part val has leaf kid)), S7, rfl, E7.out, ST.out.oth.trans O7.out, ⟨by rw [g1, ptr_one]; rfl, rep_one r1⟩, r3, PutR.up _ _ _ _ _ _ _ _ _ _ _ _ _ N0.out OW.out N1.out rfl⟩

set_option maxHeartbeats 3200000 in
theorem split_fork (h : Env B wb o w S) (q v : Int) (h0 : q ≠ 0) (hv : 0 ≤ v ∧ v < 18446744073709551616) {id : Nat} {own : Int} {pre part : List Int} {b : Nat} {val : Int} {has leaf : Bool} {kid : Nat → T}
    (hr : Rep S (.node id own (pre ++ (b : Int) :: part) val has leaf kid)) (hs : (T.node id own (pre ++ (b : Int) :: part) val has leaf kid).Sep) {pp : Option Addr} {s m pc : Nat} (hps : pre.length = s) (hp : Kb B w pp m pc (pre ++ (b : Int) :: part)) {kp : Option Addr} {n kc : Nat} {c : Nat} {k : List Int} (hk : Kb B w kp n kc (pre ++ (c : Int) :: k)) (hbc : b ≠ c) :
    Calls Tryz.prog 82 #[putter v q wb, .pointer (some ⟨id, 0, none⟩), .slice pp m pc, .slice kp n kc, .int .i64 s] w fun e w' => PutS B wb o w w' S q v (pre ++ (c : Int) :: k) (.node id own (pre ++ (b : Int) :: part) val has leaf kid) e := by
  have hb : b < 256 := by have := hp.bs.byte (b : Int) (by simp); omega
  have hc : c < 256 := by have := hk.bs.byte (c : Int) (by simp); omega
  have HR := Lib.hid hr
  have HS := Lib.hid hs
  have HV := Lib.hid hv
  have hpm := hp.bs.len
  have hpbig := hp.bs.big
  have hsm : s < m := by rw [← hpm, ← hps]; simp
  have hkn := hk.bs.len
  have hkbig := hk.bs.big
  have hsn : s < n := by rw [← hkn, ← hps]; simp
  have ST := Lib.hid (Start.mk' h v q)
  have P1 := Lib.hid (hp.step ST.out.bel)
  obtain ⟨pb, po, rfl⟩ := hp.some_of (by omega)
  have hpcell := P1.out.mid
  rw [hps] at hpcell
  obtain ⟨q1, d1, hsl1, hk1⟩ := slice_to hp s s rfl (by omega)
  have hk1' : Kb B w q1 s d1 pre := by rw [← hps, take_mid, hps] at hk1; exact hk1
  obtain ⟨q2, d2, hsl2, hk2⟩ := slice_from hp ((s : Int) + 1) (s + 1) (by push_cast; rfl) (by omega)
  have hk2' : Kb B w q2 (m - (s + 1)) d2 part := by rw [← hps, drop_mid, hps] at hk2; exact hk2
  have Q1 := Lib.hid (hk1'.step ST.out.bel)
  have Q2 := Lib.hid (hk2'.step ST.out.bel)
  have K1 := Lib.hid (hk.step ST.out.bel)
  obtain ⟨kb, ko, rfl⟩ := hk.some_of (by omega)
  obtain ⟨q3, d3, hsl3, hk3⟩ := slice_from hk ((s : Int) + 1) (s + 1) (by push_cast; rfl) (by omega)
  have hk3' : Kb B w q3 (n - (s + 1)) d3 k := by rw [← hps, drop_mid, hps] at hk3; exact hk3
  have Q3 := Lib.hid (hk3'.step ST.out.bel)
  have SL3 := Lib.hid hsl3
  have PS := Lib.hid hps
  have e1 : ((s : Int) == (m : Int)) = false := by simp; omega
  have w1q : IntKind.i64.wrap ((s : Int) + 1) = (s : Int) + 1 := IntWalk.i64_in _ (by omega)
  have t0 : (0 : Int) ≤ (s : Int) + 1 := by omega
  have t1 : (s : Int) < (m : Int) := by omega
  have t2 : (0 : Int) ≤ (s : Int) := by omega
  have e2 : ((s : Int) == (n : Int)) = false := by simp; omega
  have t3 : (s : Int) < (n : Int) := by omega
  have hx0 := ST.out.bx.all
  clear h hr hs hv hp hk1 hk1' hk2 hk2' hps hpm hk hk3 hk3' hkn hsl3
  have BX := Lib.hid ST.out.bx
  have SL1 := Lib.hid hsl1
  have SL2 := Lib.hid hsl2
  clear hsl1 hsl2
  obtain ⟨b0, b1, b2⟩ := hx0
  have hsl := SL1.out
  unfold putter
  go_enter Tryz.func82, Tryz.ntmps82
  go_wp2_with fail
  go_region_held3 (fun W' : World => W'.cell? ⟨w.heap.size, 1, none⟩ = some (.int .u64 q) ∧ W'.cell? ⟨w.heap.size, 2, none⟩ = some (.pointer (some ⟨wb, 0, none⟩)))
    (first
      | exact ⟨b1, b2⟩
      | exact X)
    (first
      | (go_at_call 70
         refine (inner70 (ST.out.env.drewN 1) q (Q1.out.step (below_drewN (Below.refl _ _) 1))).mono ?_
         rintro e w2 ⟨a0, rfl, hn0, hE2, hO2⟩
         have X := (BX.out.oth ((Oth.d _).trans hO2)).all.2))
  have E2 := Lib.hid hE2
  have O2 := Lib.hid ((Oth.d _).trans hO2)
  have N0 := Lib.hid hn0
  have B2 := Lib.hid (BX.out.oth O2.out)
  have hid2 : Hid (stS S a0 ⟨q, pre, 0, false, false, fun _ => none⟩ id = some ⟨own, pre ++ (b : Int) :: part, val, has, leaf, fun b => (kid b).ptr⟩) := by
    show _ = _
    rw [stS_other _ _ _ _ (fun e => by subst e; have := HR.out.1; rw [hn0] at this; cases this)]
    exact HR.out.1
  clear hE2 hO2 hn0 X b0 b1 b2 hsl hpcell
  obtain ⟨b0, b1, b2⟩ := B2.out.all
  go_wp2_with fail
  refine (own85 E2.out hid2.out q h0).mono ?_; rintro e w3 hown
  obtain ⟨a', S2, rfl, ho, hE, hO, hS1, hS2⟩ := own_as E2.out hid2.out hown
  have OW1 := Lib.hid ho
  have E3 := Lib.hid hE
  have O3 := Lib.hid (O2.out.trans hO)
  have A1 := Lib.hid hS1
  have A2 := Lib.hid hS2
  have B3 := Lib.hid (BX.out.oth O3.out)
  have N1 : Hid (a0 ≠ a') := fun e => by
    rcases ho with ⟨_, e2⟩ | ⟨_, e2⟩
    · have h1 := HR.out.1; rw [← e2, ← e, N0.out] at h1; cases h1
    · rw [newIn, ← e, stS_same] at e2; cases e2
  have OW : Hid (OwnR q (newIn S) id own a') := OwnR.mono ho (fun a ha => by
    by_cases e : a = a0
    · rw [e, stS_same]; simp
    · rw [stS_other _ _ _ _ e]; exact ha)
  have Q3b := Lib.hid (ST.out.env.kb O3.out Q2.out)
  clear ho hE hO hS1 hS2 hown b0 b1 b2
  obtain ⟨b0, b1, b2⟩ := B3.out.all
  have hsl := SL2.out
  go_wp2_with fail
  go_region_held3 (fun W' : World => W'.cell? ⟨w.heap.size, 1, none⟩ = some (.int .u64 q))
    (first
      | exact b1
      | exact X)
    (first
      | (go_at_call 111
         refine (setPart111 (E3.out.drewN 1) A1.out q h0 rfl (Q3b.out.step (below_drewN (Below.refl _ _) 1))).mono ?_
         rintro e w4 ⟨m4, rfl, hE4, hO4⟩
         have X := (B3.out.oth ((Oth.d _).trans hO4)).c1))
  have E4 := Lib.hid hE4
  have O4 := Lib.hid (O3.out.trans ((Oth.d _).trans hO4))
  have B4 := Lib.hid (BX.out.oth O4.out)
  have P4 := Lib.hid (ST.out.env.kb O4.out P1.out)
  clear hE4 hO4 X b0 b1 b2 hsl
  obtain ⟨b0, b1, b2⟩ := B4.out.all
  have hpc : w4.cell? ⟨pb, po + s, none⟩ = some (.int .u8 b) := by rw [← PS.out]; exact P4.out.mid
  have A0 : Hid (stS S2 a' ⟨q, part, val, has, leaf, fun b => (kid b).ptr⟩ a0 = some ⟨q, pre, 0, false, false, fun _ => none⟩) := by
    show _ = _
    rw [stS_other _ _ _ _ N1.out, A2.out a0 N1.out, stS_same]
  have PC : Hid (∀ w', Oth B wb w4 w' → w'.cell? ⟨w.heap.size, 1, none⟩ = some (.int .u64 q) ∧ w'.cell? ⟨pb, po + s, none⟩ = some (.int .u8 b)) := fun w' hO' =>
    ⟨(B4.out.oth hO').c1, by rw [← PS.out]; exact (E4.out.kb hO' P4.out).mid⟩
  go_wp2_with fail
  go_region_held3 (fun W' : World => W'.cell? ⟨w.heap.size, 1, none⟩ = some (.int .u64 q) ∧ W'.cell? ⟨pb, po + s, none⟩ = some (.int .u8 b))
    (first
      | exact ⟨b1, hpc⟩
      | exact X)
    (first
      | (go_at_call 72
         refine (setKid72 (E4.out.drewN 1) A0.out q h0 rfl rfl b hb a').mono ?_
         rintro e w5 ⟨m5, rfl, hE5, hO5⟩
         have X := PC.out _ ((Oth.d _).trans hO5)))
  have E5 := Lib.hid hE5
  have O5 := Lib.hid (O4.out.trans ((Oth.d _).trans hO5))
  have B5 := Lib.hid (BX.out.oth O5.out)
  obtain ⟨S4, hS4⟩ : ∃ S4, S4 = stS (stS S2 a' ⟨q, part, val, has, leaf, fun b => (kid b).ptr⟩) a0 ⟨q, pre, 0, false, false, updK (fun _ => none) b (some a')⟩ := ⟨_, rfl⟩
  have F0 : Hid (S4 a0 = some ⟨q, pre, 0, false, false, updK (fun _ => none) b (some a')⟩) := by show _ = _; rw [hS4, stS_same]
  have F1 : Hid (S4 a' = some ⟨q, part, val, has, leaf, fun b => (kid b).ptr⟩) := by show _ = _; rw [hS4, stS_other _ _ _ _ (fun e => N1.out e.symm), stS_same]
  have F2 : Hid (∀ a, a ≠ a0 → a ≠ a' → S4 a = S a) := fun a h1 h2 => by rw [hS4, stS_other _ _ _ _ h1, stS_other _ _ _ _ h2, A2.out a h2, stS_other _ _ _ _ h1]
  have E6 : Hid (Env B wb o w5 S4) := by show Env _ _ _ _ _; rw [hS4]; exact hE5
  clear hE5 hO5 X b0 b1 b2 hpc hS4 E5
  obtain ⟨b0, b1, b2⟩ := B5.out.all
  have K5 := Lib.hid (ST.out.env.kb O5.out K1.out)
  have L5 := Lib.hid (ST.out.env.kb O5.out Q3.out)
  have b3 : w5.cell? ⟨kb, ko + s, none⟩ = some (.int .u8 c) := by rw [← PS.out]; exact K5.out.mid
  have KC : Hid (∀ w', Oth B wb w5 w' → (w'.cell? ⟨w.heap.size, 0, none⟩ = some (.int .u64 v) ∧ w'.cell? ⟨w.heap.size, 1, none⟩ = some (.int .u64 q) ∧ w'.cell? ⟨w.heap.size, 2, none⟩ = some (.pointer (some ⟨wb, 0, none⟩))) ∧ w'.cell? ⟨kb, ko + s, none⟩ = some (.int .u8 c)) := fun w' hO' =>
    ⟨(B5.out.oth hO').all, by rw [← PS.out]; exact (E6.out.kb hO' K5.out).mid⟩
  have hsl := SL3.out
  go_wp2_with fail
  go_region_held3 (fun W' : World => W'.cell? ⟨w.heap.size, 0, none⟩ = some (.int .u64 v) ∧ W'.cell? ⟨w.heap.size, 1, none⟩ = some (.int .u64 q) ∧ W'.cell? ⟨w.heap.size, 2, none⟩ = some (.pointer (some ⟨wb, 0, none⟩)) ∧ W'.cell? ⟨kb, ko + s, none⟩ = some (.int .u8 c))
    (first
      | exact ⟨b0, b1, b2, b3⟩
      | exact ⟨X.1.1, X.1.2.1, X.1.2.2, X.2⟩)
    (first
      | (go_at_call 69
         refine (leaf69 (E6.out.drewN 1) q v (L5.out.step (below_drewN (Below.refl _ _) 1)) HV.out).mono ?_
         rintro e w6 ⟨a2, rfl, hn2, hE7, hO7⟩
         have X := KC.out _ ((Oth.d _).trans hO7))
      | (go_at_call 72
         refine (setKid72 hE7 (d := ⟨q, pre, 0, false, false, updK (fun _ => none) b (some a')⟩) (a := a0) (by rw [stS_other _ _ _ _ (fun e => by rw [← e, F0.out] at hn2; cases hn2)]; exact F0.out) q h0 rfl rfl c hc a2).mono ?_
         rintro e w7 ⟨m7, rfl, hE8, hO8⟩
         have X := KC.out _ (((Oth.d _).trans hO7).trans hO8)))
  have E8 := Lib.hid hE8
  have O8 := Lib.hid ((O5.out.trans ((Oth.d _).trans hO7)).trans hO8)
  have N2 : Hid (a2 ≠ a0) := fun e => by rw [e, F0.out] at hn2; cases hn2
  have N3 : Hid (a2 ≠ a') := fun e => by rw [e, F1.out] at hn2; cases hn2
  have N4 : Hid (S a2 = none) := (F2.out a2 N2.out N3.out).symm.trans hn2
  clear hE7 hE8 hO7 hO8 hn2 X b0 b1 b2 b3 hsl
  go_wp2_with fail
  go_ret
  have g1 : stS (stS S4 a2 ⟨q, k, v, true, true, fun _ => none⟩) a0 ⟨q, pre, 0, false, false, updK (updK (fun _ => none) b (some a')) c (some a2)⟩ a0 = some ⟨q, pre, 0, false, false, updK (updK (fun _ => none) b (some a')) c (some a2)⟩ := stS_same _ _ _
  have g2 : ∀ a, a ≠ a0 → a ≠ a2 → stS (stS S4 a2 ⟨q, k, v, true, true, fun _ => none⟩) a0 ⟨q, pre, 0, false, false, updK (updK (fun _ => none) b (some a')) c (some a2)⟩ a = S4 a := fun a h1 h2 => by rw [stS_other _ _ _ _ h1, stS_other _ _ _ _ h2]
  have g3 : stS (stS S4 a2 ⟨q, k, v, true, true, fun _ => none⟩) a0 ⟨q, pre, 0, false, false, updK (updK (fun _ => none) b (some a')) c (some a2)⟩ a2 = some ⟨q, k, v, true, true, fun _ => none⟩ := by rw [stS_other _ _ _ _ N2.out, stS_same]
  generalize stS (stS S4 a2 ⟨q, k, v, true, true, fun _ => none⟩) a0 ⟨q, pre, 0, false, false, updK (updK (fun _ => none) b (some a')) c (some a2)⟩ = S8 at *
  obtain ⟨r1, r2⟩ := up_rep (S' := cutS S8 a2) HR.out HS.out OW.out N0.out N1.out (by rw [cutS_other _ _ _ (fun e => N3.out e.symm)]; exact (g2 a' (fun e => N1.out e.symm) (fun e => N3.out e.symm)).trans F1.out) (fun a h1 h2 => by
    by_cases e : a = a2
    · rw [e, cutS_same]; exact N4.out.symm
    · rw [cutS_other _ _ _ e]; exact (g2 a h1 e).trans (F2.out a h1 h2))
  have r1' : Rep S8 (.node a' q part val has leaf kid) := r1.same (fun a ha => by
    have := r1.in ha
    by_cases e : a = a2
    · rw [e, cutS_same] at this; exact absurd rfl this
    · rw [cutS_other _ _ _ e])
  have r3 := r2 (fun h => by rw [cutS_other _ _ _ (fun e => N2.out e.symm), g1] at h; cases h)
  have r4 : Ext q S S8 (.node id own (pre ++ (b : Int) :: part) val has leaf kid) := ⟨fun a d hd hh => by
    have h1 := r3.1 a d hd hh
    by_cases e : a = a2
    · rw [e, cutS_same] at h1; cases h1
    · rw [cutS_other _ _ _ e] at h1; exact h1, fun a ha => by
    have h1 := r3.2 a ha
    by_cases e : a = a2
    · rw [e, cutS_same] at h1; exact absurd rfl h1
    · rw [cutS_other _ _ _ e] at h1; exact h1⟩
  refine ⟨.node a0 q pre 0 false false (updT (one b (.node a' q part val has leaf kid)) c (.node a2 q k v true true none')), S8, rfl, E8.out, ST.out.oth.trans O8.out, ⟨by rw [g1, ptr_upd, ptr_one]; rfl, fun e => ?_⟩, r4, PutR.fork _ _ _ _ _ _ _ _ _ _ _ _ _ _ _ _ N0.out OW.out N4.out N1.out (fun e => N2.out e.symm) (fun e => N3.out e.symm) hbc⟩
  by_cases he : e = c
  · subst he; rw [updT_same]; exact rep_leaf g3
  · rw [updT_other _ _ _ _ he]; exact rep_one r1' e

end

end Go.Proofs.YtbihlmkjoplkoaaGreatDoor
