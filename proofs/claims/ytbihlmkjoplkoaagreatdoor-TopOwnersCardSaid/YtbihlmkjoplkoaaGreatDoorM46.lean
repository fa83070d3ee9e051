/-
  For the statement TopOwners: tree: From; trans: Edit; tree: a version's Put; tree: a version's Del; The statement's last check: a transient that is frozen.
-/
import Derived.Test.YtbihlmkjoplkoaaGreatDoorM45
/-
  tree: From; trans: Edit.
-/
namespace Go.Proofs.YtbihlmkjoplkoaaGreatDoor
open Go.RowKit
set_option linter.unusedVariables false

section
variable {B wb : Nat} {o : Int} {w w' : World} {S : Store}

theorem gw_oth {W : World} (h : Gw W w) (k : Oth B wb w w') (hB : W.heap.size ≤ B) : Gw W w' :=
  ⟨k.os.trans h.os, k.tape.trans h.tape, k.output.trans h.output, Nat.le_trans h.size k.size, fun j hj => (k.low j (Nat.lt_of_lt_of_le hj hB)).trans (h.block j hj)⟩
theorem Env.owned (h : Env B wb o w S) (k : Exc [wb] w w') {o' : Int} (hw : Wld w' wb o') : Env B wb o' w' S ∧ Oth B wb w w' := ⟨h.soft k hw, h.softO k⟩

/-- what From leaves -/
def FromS (B wb : Nat) (o : Int) (w w' : World) (S : Store) (n : Nat) (e : Ending) : Prop :=
  ∃ t S' v, e = .returned (.tuple #[.pointer (some ⟨v, 0, none⟩), .int .i64 0]) ∧ Env B wb (o + 1) w' S' ∧ Oth B wb w w' ∧ Tr (o + 1) n 0 [] S S' t ∧ VerNew w' v wb (pt t.ptr) ∧ B ≤ v

set_option maxHeartbeats 1600000 in
theorem From7 (h : Env B wb o w S) (h0 : 0 ≤ o) (h1 : o + 1 < 18446744073709551616) {p : Option Addr} {n c : Nat} {l : List KV} (hp : Pr B w p n c l) (hr : Rise l) :
    Calls Tryz.prog 7 #[.pointer (some ⟨wb, 0, none⟩), .slice p n c] w fun e w' => FromS B wb o w w' S n e := by
  have HN := run_eql_pointer_nil (P := Tryz.prog) w 26 (some ⟨wb, 0, none⟩) (by kernel_rfl)
  have HM := Lib.hid (meter25 wb w)
  have HO := Lib.hid (owner26 h.wld h0 h1)
  have HE := Lib.hid h
  have HP := Lib.hid hp
  have HR := Lib.hid hr
  have H0 : Hid (o + 1 ≠ 0) := by show _ ≠ _; omega
  clear h hp hr
  go_enter Tryz.func7, Tryz.ntmps7
  go_wp2_with fail
  refine HM.out.mono ?_; rintro e w1 ⟨rfl, hw1⟩
  rw [hw1]; clear hw1 w1
  go_wp2_with fail
  refine HO.out.mono ?_; rintro e w1 ⟨rfl, hw, hx⟩
  obtain ⟨e1, o1⟩ := HE.out.owned hx hw
  have E1 := Lib.hid e1
  have O1 := Lib.hid o1
  clear hw hx e1 o1 HN
  go_wp2_with fail
  refine (Build24 E1.out (o + 1) H0.out (HP.out.oth O1.out HE.out.wld) HR.out).mono ?_
  rintro e w2 ⟨t, S', rfl, e2, o2, tr⟩
  have E2 := Lib.hid e2
  have O2 := Lib.hid (O1.out.trans o2)
  have TR := Lib.hid tr
  clear e2 o2 tr
  obtain ⟨tp, htp⟩ : ∃ tp, pt t.ptr = tp := ⟨_, rfl⟩
  rw [htp]
  have HTP := Lib.hid htp
  clear htp
  go_wp2_with fail
  refine (version27 wb tp w2).mono ?_; rintro e w3 ⟨rfl, hv, hb⟩
  have HV := Lib.hid (And.intro hv hb)
  clear hv hb
  go_wp2_with fail
  go_ret2
  exact ⟨t, S', w2.heap.size, rfl, E2.out.below HV.out.2, O2.out.trans (E2.out.oth HV.out.2), TR.out, by rw [HTP.out]; exact HV.out.1, E2.out.size⟩

/-- what Edit leaves -/
def EditS (B wb : Nat) (o : Int) (v : Nat) (w w' : World) (S : Store) (t : T) (e : Ending) : Prop :=
  ∃ tb m, e = .returned (.tuple #[.pointer (some ⟨tb, 0, none⟩), .int .i64 0]) ∧ Env B wb (o + 1) w' S ∧ Ott B wb v w w' ∧ TrB w' tb v (o + 1) (pt t.ptr) m false ∧ Ver w' v wb (pt t.ptr) ∧ B ≤ tb

theorem Env.ver {v b : Nat} {r : Option Addr} {d s m n : Int} {k : Bool} (h : Env B wb o w S) (hv : VC w v b r d s m n k) (hB : B ≤ v) (x : Exc [v] w w') : Env B wb o w' S :=
  ⟨h.sto.excOne hv (by simp [stT]) (by decide) hB x, h.wld.same (x.block wb h.wld.lt (by simpa using (hv.ver.neWld h.wld).symm)), h.base⟩

set_option maxHeartbeats 1600000 in
theorem Edit10 (h : Env B wb o w S) (h0 : 0 ≤ o) (h1 : o + 1 < 18446744073709551616) {v : Nat} {t : T} (hv : VerNew w v wb (pt t.ptr)) (hB : B ≤ v) (hr : Rep S t) {hd : List Int} (ha : t.All Short hd) (hn : 65560 * t.cnt (fun _ => true) ≤ 140737488351000) :
    Calls Tryz.prog 10 #[.pointer (some ⟨v, 0, none⟩)] w fun e w' => EditS B wb o v w w' S t e := by
  have HN := run_eql_pointer_nil (P := Tryz.prog) w 26 (some ⟨wb, 0, none⟩) (by kernel_rfl)
  have HW := Lib.hid (world30 hv.ver)
  have HO := Lib.hid (owner26 h.wld h0 h1)
  have HE := Lib.hid h
  have HV : Hid (VC w v wb (pt t.ptr) 0 0 0 0 false) := hv
  have HD := Lib.hid (show Rep S t ∧ t.All Short hd ∧ 65560 * t.cnt (fun _ => true) ≤ 140737488351000 ∧ B ≤ v from ⟨hr, ha, hn, hB⟩)
  clear h hv hB hr ha hn
  go_enter Tryz.func10, Tryz.ntmps10
  go_wp2_with fail
  refine HW.out.mono ?_; rintro e w1 ⟨rfl, hw1⟩
  rw [hw1]; clear hw1 w1
  go_wp2_with fail
  refine HW.out.mono ?_; rintro e w1 ⟨rfl, hw1⟩
  rw [hw1]; clear hw1 w1
  go_wp2_with fail
  refine HO.out.mono ?_; rintro e w1 ⟨rfl, hw, hx⟩
  obtain ⟨e1, o1⟩ := HE.out.owned hx hw
  have E1 := Lib.hid e1
  have O1 := Lib.hid o1
  have V1 : Hid (VC w1 v wb (pt t.ptr) 0 0 0 0 false) := by
    show VC _ _ _ _ _ _ _ _ _
    exact (hx.block v HV.out.lt (by simpa using HV.out.ver.neWld HE.out.wld)).trans HV.out
  have R1 := Lib.hid (root16 V1.out.ver)
  have L1 := Lib.hid (Len31 V1.out HD.out.2.2.2 E1.out.sto E1.out.size HD.out.1 HD.out.2.1 HD.out.2.2.1)
  clear hw hx e1 o1 HN HW HO
  obtain ⟨tp, htp⟩ : ∃ tp, pt t.ptr = tp := ⟨_, rfl⟩
  rw [htp] at R1 L1 V1
  have HTP := Lib.hid htp
  clear htp
  go_wp2_with fail
  refine R1.out.mono ?_; rintro e w2 ⟨rfl, hw2⟩
  rw [hw2]; clear hw2 w2
  go_wp2_with fail
  refine L1.out.mono ?_; rintro e w2 ⟨⟨N, rfl⟩, ⟨N2, hvc⟩, hx⟩
  have V2 := Lib.hid hvc
  have X2 := Lib.hid hx
  clear hvc hx
  have HNB := Lib.hid (heap_alloc_new w2 (.cells #[.pointer (some ⟨v, 0, none⟩), .int .u64 (o + 1), .pointer tp, .int .i64 N, .bool false] 86))
  have HGG : Hid (Gw w2 (w2.alloc (.cells #[.pointer (some ⟨v, 0, none⟩), .int .u64 (o + 1), .pointer tp, .int .i64 N, .bool false] 86))) := (Gw.refl _).alloc _
  go_wp2_with fail
  go_ret2
  have E2 := E1.out.ver V1.out HD.out.2.2.2 X2.out
  refine ⟨w2.heap.size, N, rfl, E2.below HGG.out, ?_, ?_, ?_, E2.size⟩
  · refine ((Ott.oth O1.out).trans (Ott.exc HD.out.2.2.2 X2.out E1.out.size)).trans (Ott.oth (E2.oth HGG.out))
  · rw [HTP.out]; exact HNB.out
  · rw [HTP.out]; exact V2.out.ver.step HGG.out
end
end Go.Proofs.YtbihlmkjoplkoaaGreatDoor
/-
  tree: a version's Put.
-/
namespace Go.Proofs.YtbihlmkjoplkoaaGreatDoor
open Go.RowKit
set_option linter.unusedVariables false

section
variable {B wb : Nat} {o : Int} {w w' : World} {S : Store}

/-- which version it is now -/
def NowS (w w' : World) (v b : Nat) (r n : Option Nat) (e : Ending) : Prop :=
  ∃ y, e = .returned (.tuple #[.pointer (some ⟨y, 0, none⟩), .int .i64 0]) ∧ Ver w' y b (pt n) ∧ Gw w w' ∧ ((n = r ∧ y = v) ∨ (n ≠ r ∧ w.heap.size ≤ y))
theorem now45 {v b : Nat} {r n : Option Nat} (h : Ver w v b (pt r)) (hn : ∀ a, n = some a → Cellsy w a) (hr : ∀ a, r = some a → Cellsy w a) :
    Calls Tryz.prog 45 #[.pointer (some ⟨v, 0, none⟩), .pointer (pt n), .int .i64 0] w fun e w' => NowS w w' v b r n e := by
  by_cases e : n = r
  · subst e
    refine (now45_same h).mono ?_
    rintro e w' ⟨rfl, rfl⟩
    exact ⟨v, rfl, h, Gw.refl _, Or.inl ⟨rfl, rfl⟩⟩
  · refine (now45_new h e hn hr).mono ?_
    rintro e' w' ⟨rfl, h1, h2⟩
    exact ⟨w.heap.size, rfl, h1.ver, h2, Or.inr ⟨e, Nat.le_refl _⟩⟩

/-- what a version's put leaves -/
def VPutS (B wb : Nat) (o : Int) (v : Nat) (w w' : World) (S : Store) (k : List Int) (u : Int) (t : T) (e : Ending) : Prop :=
  ∃ t' S' y, e = .returned (.tuple #[.pointer (some ⟨y, 0, none⟩), .int .i64 0]) ∧ Env B wb (o + 1) w' S' ∧ Oth B wb w w' ∧ Ver w' y wb (pt t'.ptr) ∧ Ver w' v wb (pt t.ptr) ∧ Rep S' t' ∧ Ext (o + 1) S S' t ∧
    ((t' = t ∧ Path t k) ∨ PutR (o + 1) u (newIn S) k t t') ∧ ((t'.ptr = t.ptr ∧ y = v) ∨ (t'.ptr ≠ t.ptr ∧ w.heap.size ≤ y))

set_option maxHeartbeats 1600000 in
set_option maxRecDepth 100000 in
theorem Put21 (h : Env B wb o w S) (h0 : 0 ≤ o) (h1 : o + 1 < 18446744073709551616) {v : Nat} {t : T} (hv : Ver w v wb (pt t.ptr)) (hr : Rep S t) (hs : t.Sep) {p : Option Addr} {n c : Nat} {k : List Int} (hk : Kb B w p n c k) (hn : n ≤ 65535) (u : Int) (hu : 0 ≤ u ∧ u < 18446744073709551616) :
    Calls Tryz.prog 21 #[.pointer (some ⟨v, 0, none⟩), .slice p n c, .int .u64 u] w fun e w' => VPutS B wb o v w w' S k u t e := by
  have HOK := Lib.hid (ok44 hv)
  have HE := Lib.hid h
  have HV := Lib.hid hv
  have HK := Lib.hid hk
  have HRR := Lib.hid hr
  have HNO := Lib.hid (And.intro h0 h1)
  have HP : Hid (∀ W, Env B wb (o + 1) W S → Kb B W p n c k → Calls Tryz.prog 35 #[.pointer (pt t.ptr), .slice p n c, .int .u64 u, .int .u64 (o + 1), .pointer (some ⟨wb, 0, none⟩)] W fun e w' => ∃ t' S', e = .returned (.tuple #[.pointer (pt t'.ptr), .int .i64 0]) ∧ Put5S B wb (o + 1) W w' S (o + 1) u k t t' S') := fun W hE hK => Put35 hE (o + 1) u (by omega) hu hr hs hK hn
  clear h hv hr hs hk hn hu h0 h1
  obtain ⟨tp, htp⟩ : ∃ tp, t.ptr = tp := ⟨_, rfl⟩
  rw [htp] at HV HP
  have HTP := Lib.hid htp
  clear htp
  have c0 := HV.out.world
  have c1 := HV.out.root
  go_enter Tryz.func21, Tryz.ntmps21
  go_wp2_with fail
  refine HOK.out.mono ?_; rintro e w1 ⟨rfl, hw1⟩
  rw [hw1]; clear hw1 w1
  go_wp2_with fail
  go_region_held3 (fun W' : World => W'.cell? ⟨v, 0, none⟩ = some (.pointer (some ⟨wb, 0, none⟩)) ∧ W'.cell? ⟨v, 1, none⟩ = some (.pointer (pt tp)))
    (first
      | exact ⟨c0, c1⟩
      | exact Z
      | exact Y
      | exact X)
    (first
      | (go_at_call 26
         refine (owner26 (HE.out.drewN 1).wld HNO.out.1 HNO.out.2).mono ?_
         rintro e w2 ⟨rfl, hw2, hx2⟩
         obtain ⟨e2, o2⟩ := (HE.out.drewN 1).owned hx2 hw2
         have v2 : Ver w2 v wb (pt tp) := (HV.out.step ((Gw.refl w).drewN 1)).oth o2 (HE.out.drewN 1).wld
         have k2 : Kb B w2 p n c k := (HK.out.step ((Gw.refl w).drewN 1)).oth o2 (HE.out.drewN 1).wld
         have X := And.intro v2.world v2.root)
      | (go_at_call 25
         refine (meter25 wb _).mono ?_
         rintro e w4 ⟨rfl, rfl⟩)
      | (go_at_call 35
         refine (HP.out _ e2 k2).mono ?_
         rintro e w5 ⟨t', S', rfl, hp1, hp2, hp3, hp4, hp5⟩
         have v5 := v2.oth hp2 e2.wld
         have r5 : Rep S' t' := hp3
         have Y := And.intro v5.world v5.root)
      | (go_at_call 45
         refine (now45 v5 (r5.cellsy hp1.sto) (fun a ha => hp1.sto.cellsy (hp4.2 a (by
            have := HRR.out
            cases ht : t with
            | nil => have h9 := HTP.out; rw [ht, ha] at h9; cases h9
            | node id own part val has leaf kid => have h9 := HTP.out; rw [ht, ha] at h9; cases h9; rw [ht] at this; rw [this.1]; simp)))).mono ?_
         rintro e w6 ⟨y, rfl, hy, hg6, hyy⟩
         have v6 := v5.step hg6
         have Z := And.intro v6.world v6.root))
  have F : Hid (Env B wb (o + 1) w6 S' ∧ Oth B wb w w6 ∧ Ver w6 y wb (pt t'.ptr) ∧ Ver w6 v wb (pt tp) ∧ Rep S' t' ∧ Ext (o + 1) S S' t ∧
    ((t' = t ∧ Path t k) ∨ PutR (o + 1) u (newIn S) k t t') ∧ ((t'.ptr = tp ∧ y = v) ∨ (t'.ptr ≠ tp ∧ w.heap.size ≤ y))) :=
    ⟨hp1.below hg6, ((((Oth.d w).trans o2).trans hp2).trans (hp1.oth hg6)), hy, v6, hp3, hp4, hp5, hyy.imp id (fun ⟨g1, g2⟩ => ⟨g1, Nat.le_trans (Nat.le_trans o2.size hp2.size) g2⟩)⟩
  clear hp1 hp2 hp3 hp4 hp5 e2 o2 v2 k2 v5 r5 v6 X Y Z hy hg6 hyy hw2 hx2 c0 c1
  go_wp2_with fail
  go_ret2
  rw [← HTP.out] at F
  exact ⟨t', S', y, rfl, F.out⟩
end
end Go.Proofs.YtbihlmkjoplkoaaGreatDoor
/-
  tree: a version's Del.
-/
namespace Go.Proofs.YtbihlmkjoplkoaaGreatDoor
open Go.RowKit
set_option linter.unusedVariables false

section
variable {B wb : Nat} {o : Int} {w w' : World} {S : Store}

/-- what a version's deletion leaves -/
def VDelS (B wb : Nat) (o : Int) (v : Nat) (w w' : World) (S : Store) (t : T) (e : Ending) : Prop :=
  ∃ t' S' y b, e = .returned (.tuple #[.pointer (some ⟨y, 0, none⟩), .bool b, .int .i64 0]) ∧ Env B wb (o + 1) w' S' ∧ Oth B wb w w' ∧ Ver w' y wb (pt t'.ptr) ∧ Ver w' v wb (pt t.ptr) ∧ Rep S' t' ∧ Ext (o + 1) S S' t ∧
    (t' = t ∨ DelR (o + 1) (newIn S) t t')

set_option maxHeartbeats 1600000 in
set_option maxRecDepth 100000 in
theorem Del22 (h : Env B wb o w S) (h0 : 0 ≤ o) (h1 : o + 1 < 18446744073709551616) {v : Nat} {t : T} (hv : Ver w v wb (pt t.ptr)) (hr : Rep S t) (hs : t.Sep) (hf : t.Full) {hd : List Int} (ha : t.All Short hd) {p : Option Addr} {n c : Nat} {k : List Int} (hk : Kb B w p n c k) (hn : n ≤ 65535) :
    Calls Tryz.prog 22 #[.pointer (some ⟨v, 0, none⟩), .slice p n c] w fun e w' => VDelS B wb o v w w' S t e := by
  have HOK := Lib.hid (ok44 hv)
  have HE := Lib.hid h
  have HV := Lib.hid hv
  have HK := Lib.hid hk
  have HRR := Lib.hid hr
  have HNO := Lib.hid (And.intro h0 h1)
  have HP : Hid (∀ W, Env B wb (o + 1) W S → Kb B W p n c k → Calls Tryz.prog 37 #[.pointer (pt t.ptr), .slice p n c, .int .u64 (o + 1), .pointer (some ⟨wb, 0, none⟩)] W fun e w' => ∃ t' S' b, e = .returned (.tuple #[.pointer (pt t'.ptr), .bool b, .int .i64 0]) ∧ Del5S B wb (o + 1) W w' S (o + 1) t t' S') := fun W hE hK => Del37 hE (o + 1) (by omega) hr hs hf ha hK hn
  clear h hv hr hs hf ha hk hn h0 h1
  obtain ⟨tp, htp⟩ : ∃ tp, t.ptr = tp := ⟨_, rfl⟩
  rw [htp] at HV HP
  have HTP := Lib.hid htp
  clear htp
  have c0 := HV.out.world
  have c1 := HV.out.root
  go_enter Tryz.func22, Tryz.ntmps22
  go_wp2_with fail
  refine HOK.out.mono ?_; rintro e w1 ⟨rfl, hw1⟩
  rw [hw1]; clear hw1 w1
  go_wp2_with fail
  go_region_held3 (fun W' : World => W'.cell? ⟨v, 0, none⟩ = some (.pointer (some ⟨wb, 0, none⟩)) ∧ W'.cell? ⟨v, 1, none⟩ = some (.pointer (pt tp)))
    (first
      | exact ⟨c0, c1⟩
      | exact Y
      | exact X)
    (first
      | (go_at_call 26
         refine (owner26 (HE.out.drewN 1).wld HNO.out.1 HNO.out.2).mono ?_
         rintro e w2 ⟨rfl, hw2, hx2⟩
         obtain ⟨e2, o2⟩ := (HE.out.drewN 1).owned hx2 hw2
         have v2 : Ver w2 v wb (pt tp) := (HV.out.step ((Gw.refl w).drewN 1)).oth o2 (HE.out.drewN 1).wld
         have k2 : Kb B w2 p n c k := (HK.out.step ((Gw.refl w).drewN 1)).oth o2 (HE.out.drewN 1).wld
         have X := And.intro v2.world v2.root)
      | (go_at_call 25
         refine (meter25 wb _).mono ?_
         rintro e w4 ⟨rfl, rfl⟩)
      | (go_at_call 37
         refine (HP.out _ e2 k2).mono ?_
         rintro e w5 ⟨t', S', was, rfl, hp1, hp2, hp3, hp4, hp5⟩
         have v5 := v2.oth hp2 e2.wld
         have r5 : Rep S' t' := hp3
         have Y := And.intro v5.world v5.root))
  have E5 := Lib.hid hp1
  have O5 := Lib.hid (((Oth.d w).trans o2).trans hp2)
  have V5 := Lib.hid v5
  have R5 := Lib.hid (And.intro hp3 (And.intro hp4 hp5))
  have HNOW := Lib.hid (now45 v5 (r5.cellsy hp1.sto) (fun a ha => hp1.sto.cellsy (hp4.2 a (by
            have := HRR.out
            cases ht : t with
            | nil => have h9 := HTP.out; rw [ht, ha] at h9; cases h9
            | node id own part val has leaf kid => have h9 := HTP.out; rw [ht, ha] at h9; cases h9; rw [ht] at this; rw [this.1]; simp))))
  clear hp1 hp2 hp3 hp4 hp5 e2 o2 v2 k2 v5 r5 X Y hw2 hx2 c0 c1
  obtain ⟨kp, hkp⟩ : ∃ kp, pt t'.ptr = kp := ⟨_, rfl⟩
  rw [hkp] at HNOW ⊢
  have HKP := Lib.hid hkp
  clear hkp
  go_wp2_with fail
  refine HNOW.out.mono ?_
  rintro e w6 ⟨y, rfl, hy, hg6, _⟩
  have F : Hid (Env B wb (o + 1) w6 S' ∧ Oth B wb w w6 ∧ Ver w6 y wb (pt t'.ptr) ∧ Ver w6 v wb (pt tp)) := ⟨E5.out.below hg6, O5.out.trans (E5.out.oth hg6), hy, V5.out.step hg6⟩
  clear hy hg6
  go_wp2_with fail
  go_ret3
  rw [← HTP.out] at F
  exact ⟨t', S', y, was, rfl, F.out.1, F.out.2.1, F.out.2.2.1, F.out.2.2.2, R5.out⟩
end
end Go.Proofs.YtbihlmkjoplkoaaGreatDoor
/-
  The statement's last check: a transient that is frozen.
-/
namespace Go.Proofs.YtbihlmkjoplkoaaGreatDoor
open Go.RowKit
set_option linter.unusedVariables false

def noStore : Store := fun _ => none
theorem sto_none (B : Nat) (w : World) : Sto B w noStore := ⟨fun _ => [], { node := fun a d h => (by cases h), apart := fun a b h => absurd rfl h }⟩
theorem path_nil {k : List Int} (h : Path .nil k) : False := by cases h

theorem dec5 : Lib.decDigits 5 = [53] := by rw [Lib.decDigits]; rfl
theorem txt_one (a : Nat) (q : Int) : (T.node a q [1] 5 true true none').txt = [76, 48, 49, 61, 53] := by
  simp [T.txt, headTxt, valTxt, textL, dec5]
  decide

theorem put_nil {q u : Int} {new : Nat → Prop} {k : List Int} {t' : T} (h : (t' = .nil ∧ Path .nil k) ∨ PutR q u new k .nil t') : ∃ id, t' = .node id q k u true true none' := by
  rcases h with ⟨_, h⟩ | h
  · exact (path_nil h).elim
  · cases h with
    | leaf k id h => exact ⟨id, rfl⟩

section
variable {w : World}

set_option maxHeartbeats 3200000 in
set_option maxRecDepth 100000 in
theorem alive5 (htab : Tab w) : Calls Tryz.prog 5 #[] w fun e w' => e = .returned (.bool true) ∧ Gw w w' := by
  have HTAB := Lib.hid htab
  have HN := Lib.hid (new6 w)
  obtain ⟨B, hB⟩ : ∃ B, w.heap.size = B := ⟨_, rfl⟩
  have HBB := Lib.hid hB
  rw [hB] at HN
  clear htab hB
  go_enter Tryz.func5, Tryz.ntmps5
  go_wp2_with fail
  refine HN.out.mono ?_; rintro e w1 ⟨rfl, hw1, hg1⟩
  have E1 : Hid (Env B B 0 w1 noStore) := ⟨sto_none _ _, hw1, Nat.le_refl _⟩
  have G1 : Hid (Gw w w1) := by show Below _ _ _; rw [HBB.out]; exact hg1
  clear hw1 hg1
  go_wp2_with fail
  refine (From7 E1.out (by omega) (by omega) (Pr.nil none (c := 0)) (by simp [Rise])).mono ?_
  rintro e w2 ⟨t, S', v, rfl, e2, o2, tr, hv, hbv⟩
  obtain rfl : t = .nil := by
    cases t with
    | nil => rfl
    | node id own part val has leaf kid => have h1 := tr.cnt; have h2 := cnt_pos id own part val has leaf kid; omega
  have E2 := Lib.hid e2
  have G2 := Lib.hid (gw_oth G1.out o2 (Nat.le_of_eq HBB.out))
  have V2 := Lib.hid (And.intro hv hbv)
  clear e2 o2 tr hv hbv
  go_wp2_with fail
  refine (Edit10 (t := .nil) (hd := []) E2.out (by omega) (by omega) V2.out.1 V2.out.2 trivial trivial (by simp [T.cnt])).mono ?_
  rintro e w3 ⟨tb, m, rfl, e3, o3, ht3, hv3, hb3⟩
  have E3 := Lib.hid e3
  have G3 := Lib.hid (o3.gw G2.out (Nat.le_of_eq HBB.out))
  have T3 := Lib.hid (And.intro ht3 hb3)
  have V3 := Lib.hid hv3
  clear e3 o3 ht3 hv3 hb3
  have hn := run_eql_pointer_nil (P := Tryz.prog) w3 35 (some ⟨tb, 0, none⟩) (by kernel_rfl)
  have hgk : Gw w3 (w3.alloc (.cells #[.int .u8 1] 5)) := (Gw.refl _).alloc _
  have hk : Kb B (w3.alloc (.cells #[.int .u8 1] 5)) (some ⟨w3.heap.size, 0, none⟩) 1 1 [((1 : Nat) : Int)] := Kb.byte (heap_alloc_new w3 _) (by omega)
  have HP := Lib.hid (Put12 (E3.out.below hgk) (T3.out.1.gw hgk) T3.out.2 (V3.out.step hgk) (by omega) (t := .nil) trivial trivial hk (by omega) 5 (by omega))
  have G4 := Lib.hid (G3.out.trans hgk)
  have V4 := Lib.hid (V3.out.step hgk)
  have E4 := Lib.hid (E3.out.below hgk)
  have T4 := Lib.hid (T3.out.1.gw hgk)
  clear hgk hk
  go_wp2_with fail
  refine HP.out.mono ?_
  rintro e w5 ⟨t', S5, m5, rfl, e5, o5, ht5, hr5, _, hp5⟩
  obtain ⟨id, rfl⟩ := put_nil hp5
  have E5 := Lib.hid e5
  have G5 := Lib.hid (o5.gw G4.out (Nat.le_of_eq HBB.out))
  have T5 := Lib.hid ht5
  have V5 := Lib.hid (V4.out.ott o5 (V4.out.neWld E4.out.wld) (V4.out.neTr T4.out))
  have R5 := Lib.hid hr5
  clear e5 o5 ht5 hr5 hp5 hn
  go_wp2_with fail
  refine (Freeze14 E5.out T5.out T3.out.2 (tv := .nil) V5.out R5.out trivial).mono ?_
  rintro e w6 ⟨x, rfl, e6, o6, _, hx6, _⟩
  have E6 := Lib.hid e6
  have G6 := Lib.hid (o6.gw G5.out (Nat.le_of_eq HBB.out))
  have X6 := Lib.hid hx6
  clear e6 o6 hx6
  have HA : Hid ((T.node id (0 + 1 + 1) [((1 : Nat) : Int)] 5 true true none').All Short []) := ⟨by show ([((1 : Nat) : Int)] : List Int).length ≤ 65536; simp, fun _ => trivial⟩
  have HCN : Hid ((T.node id (0 + 1 + 1) [((1 : Nat) : Int)] 5 true true none').cnt (fun _ => true) = 1) := by
    show _ = _
    simp only [T.cnt, if_pos]
    rw [sum_none']
  have HSH := Lib.hid (Shape20 (t := .node id (0 + 1 + 1) [((1 : Nat) : Int)] 5 true true none') ⟨E6.out.sto, HTAB.out.gw G6.out, E6.out.size⟩ X6.out R5.out HA.out (by rw [HCN.out]; omega))
  have htx : (T.node id (0 + 1 + 1) [((1 : Nat) : Int)] 5 true true none').txt = [76, 48, 49, 61, 53] := txt_one id _
  rw [htx] at HSH
  clear htx
  go_wp2_with fail
  refine HSH.out.mono ?_; rintro e w7 ⟨rfl, hg7⟩
  have G7 := Lib.hid (G6.out.trans hg7)
  have E7 := Lib.hid (E6.out.below hg7)
  have X7 := Lib.hid (X6.out.step hg7)
  clear hg7
  have HRT := Lib.hid (root16 X7.out)
  have HOF := Lib.hid (Of19 (t := .node id (0 + 1 + 1) [((1 : Nat) : Int)] 5 true true none') E7.out.sto E7.out.size R5.out HA.out (by rw [HCN.out]; omega))
  rw [HCN.out] at HOF
  obtain ⟨xp, hxp⟩ : ∃ xp, pt (T.node id (0 + 1 + 1) [((1 : Nat) : Int)] 5 true true none').ptr = xp := ⟨_, rfl⟩
  rw [hxp] at HRT HOF
  go_wp2_with fail
  refine HRT.out.mono ?_; rintro e w8 ⟨rfl, hw8⟩
  rw [hw8]; clear hw8 w8
  go_wp2_with fail
  refine HOF.out.mono ?_; rintro e w8 ⟨a0, a1, i0, i1, i2, i3, a3, a4, a5, a6, a7, rfl, hsum, hb8⟩
  have G8 := Lib.hid (G7.out.trans hb8)
  have HND := Lib.hid (Nodes18 w8 1 a0 a1 i0 i1 i2 i3 a3 a4 a5 a6 a7 hsum)
  clear hsum hb8
  have q1 : wrap64 ((1 : Nat) : Int) = 1 := IntWalk.wrap64_in _ (by omega)
  rw [q1] at HND
  go_wp2_with fail
  refine HND.out.mono ?_; rintro e w9 ⟨rfl, hb9⟩
  have G9 := Lib.hid (G8.out.trans hb9)
  clear hb9
  go_wp2_with fail
  go_ret
  exact ⟨rfl, G9.out⟩
end
end Go.Proofs.YtbihlmkjoplkoaaGreatDoor
