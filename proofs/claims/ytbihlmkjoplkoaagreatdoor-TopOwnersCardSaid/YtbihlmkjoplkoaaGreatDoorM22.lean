/-
  For the statement TopOwners: put: into, Put.
-/
import Derived.Test.YtbihlmkjoplkoaaGreatDoorM21
namespace Go.Proofs.YtbihlmkjoplkoaaGreatDoor
open Go.RowKit
set_option linter.unusedVariables false

theorem com_self : ∀ xs : List Int, com xs xs = xs.length
  | [] => rfl
  | x :: xs => by simp [com, com_self xs]
theorem com_append : ∀ (xs u v : List Int), com (xs ++ u) (xs ++ v) = xs.length + com u v
  | [], u, v => by simp
  | x :: xs, u, v => by simp [com, com_append xs u v]; omega

/-- how a part and a key may stand to each other -/
inductive PK : List Int → List Int → Nat → Prop
  | same (k : List Int) : PK k k k.length
  | longer (part k : List Int) (c : Nat) : PK part (part ++ (c : Int) :: k) part.length
  | shorter (k part : List Int) (b : Nat) : PK (k ++ (b : Int) :: part) k k.length
  | fork (pre part k : List Int) (b c : Nat) : b ≠ c → PK (pre ++ (b : Int) :: part) (pre ++ (c : Int) :: k) pre.length

theorem PK.of (part k : List Int) (hp : ∀ x ∈ part, 0 ≤ x ∧ x < 256) (hk : ∀ x ∈ k, 0 ≤ x ∧ x < 256) : PK part k (com part k) := by
  have hs := com_split part k
  have h1 := com_le_left part k
  have h2 := com_le_right part k
  by_cases a : com part k < part.length
  · have ea := list_at a
    obtain ⟨b, hb⟩ := Int.eq_ofNat_of_zero_le (hp (part.getD (com part k) 0) (by rw [List.getD_eq_getElem?_getD, List.getElem?_eq_getElem a]; simp)).1
    by_cases c : com part k < k.length
    · have ec := list_at c
      obtain ⟨x, hx⟩ := Int.eq_ofNat_of_zero_le (hk (k.getD (com part k) 0) (by rw [List.getD_eq_getElem?_getD, List.getElem?_eq_getElem c]; simp)).1
      have hne : b ≠ x := fun e => com_diff part k a c (by rw [hb, hx, e])
      have hl : (part.take (com part k)).length = com part k := by simp; omega
      have := PK.fork (part.take (com part k)) (part.drop (com part k + 1)) (k.drop (com part k + 1)) b x hne
      rw [hl] at this
      rw [hb] at ea; rw [hx, ← hs] at ec
      rw [← ea, ← ec] at this
      exact this
    · have e : com part k = k.length := by omega
      have hk' : part.take (com part k) = k := by rw [hs, e, List.take_length]
      rw [hb, hk', e] at ea
      have := PK.shorter k (part.drop (k.length + 1)) b
      rw [← ea] at this
      rw [e]; exact this
  · have e : com part k = part.length := by omega
    have hp' : k.take part.length = part := by rw [← e, ← hs, e, List.take_length]
    by_cases c : com part k < k.length
    · have ec := list_at c
      obtain ⟨x, hx⟩ := Int.eq_ofNat_of_zero_le (hk (k.getD (com part k) 0) (by rw [List.getD_eq_getElem?_getD, List.getElem?_eq_getElem c]; simp)).1
      rw [hx, e, hp'] at ec
      have := PK.longer part (k.drop (part.length + 1)) x
      rw [← ec] at this
      rw [e]; exact this
    · have e2 : part.length = k.length := by omega
      have e3 : k = part := by rw [e2, List.take_length] at hp'; exact hp'
      subst e3
      rw [e]; exact PK.same _

section
variable {B wb : Nat} {o : Int} {w : World} {S : Store}

/-- a node's kind is a leaf's, or not -/
theorem kind_leaf (d : ND) (h : d.leaf = true) : kindN d = 1 := by unfold kindN; rw [h]; rfl
theorem kind_inner (d : ND) (h : d.leaf = false) : 4 ≤ kindN d := by
  unfold kindN; rw [h]
  have := kindOf_ge (kcnt d.kid) (cntF_le _)
  have := okKind_of (kcnt d.kid) (cntF_le _)
  unfold okKind at this
  simp; omega

set_option maxHeartbeats 800000 in
theorem into_nil (h : Env B wb o w S) (q v : Int) (h0 : q ≠ 0) (hv : 0 ≤ v ∧ v < 18446744073709551616) {p : Option Addr} {n c : Nat} {k : List Int} (hk : Kb B w p n c k) :
    Calls Tryz.prog 55 #[putter v q wb, .pointer none, .slice p n c] w fun e w' => PutS B wb o w w' S q v k .nil e := by
  have HV := Lib.hid hv
  have ST := Lib.hid (Start.mk' h v q)
  have K1 := Lib.hid (hk.step ST.out.bel)
  clear h hv hk
  unfold putter
  go_enter Tryz.func55, Tryz.ntmps55
  go_wp2_with fail
  refine (leaf69 ST.out.env q v K1.out HV.out).mono ?_; rintro e w2 ⟨a, rfl, hn, hE, hO⟩
  have E2 := Lib.hid hE
  have O2 := Lib.hid hO
  have NN := Lib.hid hn
  clear hE hO hn
  go_wp2_with fail
  go_ret
  exact ⟨.node a q k v true true none', _, rfl, E2.out, ST.out.oth.trans O2.out, rep_leaf (stS_same _ _ _), Ext.of (fun b hb => stS_other _ _ _ _ (fun e => hb (by rw [e]; exact NN.out))), PutR.leaf _ _ NN.out⟩

set_option maxHeartbeats 1600000 in
theorem into_here (h : Env B wb o w S) (q v : Int) (h0 : q ≠ 0) (hv : 0 ≤ v ∧ v < 18446744073709551616) {id : Nat} {own : Int} {part : List Int} {val : Int} {has leaf : Bool} {kid : Nat → T}
    (hr : Rep S (.node id own part val has leaf kid)) (hs : (T.node id own part val has leaf kid).Sep) {p : Option Addr} {n cc : Nat} (hk : Kb B w p n cc part) :
    Calls Tryz.prog 55 #[putter v q wb, .pointer (some ⟨id, 0, none⟩), .slice p n cc] w fun e w' => PutS B wb o w w' S q v part (.node id own part val has leaf kid) e := by
  have HR := Lib.hid hr
  have HS := Lib.hid hs
  have HV := Lib.hid hv
  have hkn := hk.bs.len
  have ST := Lib.hid (Start.mk' h v q)
  have K1 := Lib.hid (hk.step ST.out.bel)
  have KN : Hid (∀ W, Env B wb o W S → Calls Tryz.prog 64 #[.pointer (some ⟨id, 0, none⟩)] W fun e w' => e = .returned (.int .i64 (kindN ⟨own, part, val, has, leaf, fun b => (kid b).ptr⟩)) ∧ w' = W) := fun W hE => kind64 hE.sto HR.out.1
  have PT : Hid (∀ W, Env B wb o W S → Calls Tryz.prog 58 #[.pointer (some ⟨id, 0, none⟩)] W fun e w' => PartR B W w' part e) := fun W hE => part58 hE.sto HR.out.1
  have hbig := hk.bs.big
  have M : Hid (part.length = n) := hkn
  have CM : Hid (com part part = n) := by show _ = _; rw [com_self, hkn]
  obtain ⟨kd, hkd⟩ : ∃ kd, kd = kindN ⟨own, part, val, has, leaf, fun b => (kid b).ptr⟩ := ⟨_, rfl⟩
  have KD : Hid (kindN ⟨own, part, val, has, leaf, fun b => (kid b).ptr⟩ = kd) := hkd.symm
  have t1 : ((n : Int) == (n : Int)) = true := by simp
  clear hkd hkn
  clear h hr hs hv hk
  unfold putter
  go_enter Tryz.func55, Tryz.ntmps55
  go_wp2_with fail
  refine (PT.out _ ST.out.env).mono ?_; rintro e w1 ⟨p1, c1, rfl, hp1, hb1⟩
  have E1 := Lib.hid (ST.out.env.below hb1)
  have Q1 := Lib.hid hp1
  have K2 := Lib.hid (K1.out.step hb1)
  have O1 := Lib.hid (ST.out.oth.trans (ST.out.env.oth hb1))
  have BX := Lib.hid (ST.out.bx.step hb1)
  clear hp1 hb1
  rw [M.out]
  rw [M.out] at Q1
  go_wp2_with fail
  refine (common19 p1 p _ c1 n cc _ _ w1 Q1.out.bs K2.out.bs).mono ?_; rintro e w2 ⟨rfl, z, hw2⟩
  rw [CM.out]
  have E2 : Hid (Env B wb o w2 S) := by show Env _ _ _ _ _; rw [hw2]; exact E1.out.drewN z
  have Q2 := Lib.hid (Q1.out.step (w' := w2) (by rw [hw2]; exact below_drewN (Below.refl _ _) z))
  have K3 := Lib.hid (K2.out.step (w' := w2) (by rw [hw2]; exact below_drewN (Below.refl _ _) z))
  have O2 : Hid (Oth B wb w w2) := by show Oth _ _ _ _; rw [hw2]; exact O1.out.drewN z
  have B2 := Lib.hid (BX.out.step (w' := w2) (by rw [hw2]; exact below_drewN (Below.refl _ _) z))
  clear hw2
  go_wp2_with fail
  refine (KN.out w2 E2.out).mono ?_; rintro e w3 ⟨rfl, hw3⟩
  rw [hw3]; clear hw3 w3
  rw [KD.out]
  obtain ⟨b0, b1, b2⟩ := B2.out.all
  go_wp2_with fail
  refine (here81 E2.out q v h0 HV.out HR.out HS.out).mono ?_; rintro e w4 ⟨t', S', rfl, f1, f2, f3, f4, f5⟩
  have F : Hid (PutS B wb o w w4 S q v part (.node id own part val has leaf kid) (.returned (.pointer (pt t'.ptr)))) := ⟨t', S', rfl, f1, O2.out.trans f2, f3, f4, f5⟩
  clear f1 f2 f3 f4 f5
  go_wp2_with fail
  go_ret
  exact F.out

set_option maxHeartbeats 1600000 in
theorem into_up (h : Env B wb o w S) (q v : Int) (h0 : q ≠ 0) (hv : 0 ≤ v ∧ v < 18446744073709551616) {id : Nat} {own : Int} {pre part : List Int} {b : Nat} {val : Int} {has leaf : Bool} {kid : Nat → T}
    (hr : Rep S (.node id own (pre ++ (b : Int) :: part) val has leaf kid)) (hs : (T.node id own (pre ++ (b : Int) :: part) val has leaf kid).Sep) {p : Option Addr} {n cc : Nat} (hk : Kb B w p n cc pre) :
    Calls Tryz.prog 55 #[putter v q wb, .pointer (some ⟨id, 0, none⟩), .slice p n cc] w fun e w' => PutS B wb o w w' S q v pre (.node id own (pre ++ (b : Int) :: part) val has leaf kid) e := by
  have HR := Lib.hid hr
  have HS := Lib.hid hs
  have HV := Lib.hid hv
  have hkn := hk.bs.len
  have ST := Lib.hid (Start.mk' h v q)
  have K1 := Lib.hid (hk.step ST.out.bel)
  have KN : Hid (∀ W, Env B wb o W S → Calls Tryz.prog 64 #[.pointer (some ⟨id, 0, none⟩)] W fun e w' => e = .returned (.int .i64 (kindN ⟨own, (pre ++ (b : Int) :: part), val, has, leaf, fun b => (kid b).ptr⟩)) ∧ w' = W) := fun W hE => kind64 hE.sto HR.out.1
  have PT : Hid (∀ W, Env B wb o W S → Calls Tryz.prog 58 #[.pointer (some ⟨id, 0, none⟩)] W fun e w' => PartR B W w' (pre ++ (b : Int) :: part) e) := fun W hE => part58 hE.sto HR.out.1
  have hbig := hk.bs.big
  obtain ⟨m, hm⟩ : ∃ m, (pre ++ (b : Int) :: part).length = m := ⟨_, rfl⟩
  have M := Lib.hid hm
  have CM : Hid (com (pre ++ (b : Int) :: part) pre = n) := by
    show _ = _
    have := com_append pre ((b : Int) :: part) []
    rw [List.append_nil] at this
    rw [this, hkn]; rfl
  obtain ⟨kd, hkd⟩ : ∃ kd, kd = kindN ⟨own, pre ++ (b : Int) :: part, val, has, leaf, fun b => (kid b).ptr⟩ := ⟨_, rfl⟩
  have KD : Hid (kindN ⟨own, pre ++ (b : Int) :: part, val, has, leaf, fun b => (kid b).ptr⟩ = kd) := hkd.symm
  have hlt : n < m := by rw [← hm, ← hkn]; simp
  have t1 : ((n : Int) == (m : Int)) = false := by simp; omega
  have t2 : decide ((n : Int) < (m : Int)) = true := by simp; omega
  have t3 : decide (n < m) = true := by simp; omega
  have PN := Lib.hid hkn
  clear hkd hkn hm
  clear h hr hs hv hk
  unfold putter
  go_enter Tryz.func55, Tryz.ntmps55
  go_wp2_with fail
  refine (PT.out _ ST.out.env).mono ?_; rintro e w1 ⟨p1, c1, rfl, hp1, hb1⟩
  have E1 := Lib.hid (ST.out.env.below hb1)
  have Q1 := Lib.hid hp1
  have K2 := Lib.hid (K1.out.step hb1)
  have O1 := Lib.hid (ST.out.oth.trans (ST.out.env.oth hb1))
  have BX := Lib.hid (ST.out.bx.step hb1)
  clear hp1 hb1
  rw [M.out]
  rw [M.out] at Q1
  go_wp2_with fail
  refine (common19 p1 p _ c1 n cc _ _ w1 Q1.out.bs K2.out.bs).mono ?_; rintro e w2 ⟨rfl, z, hw2⟩
  rw [CM.out]
  have E2 : Hid (Env B wb o w2 S) := by show Env _ _ _ _ _; rw [hw2]; exact E1.out.drewN z
  have Q2 := Lib.hid (Q1.out.step (w' := w2) (by rw [hw2]; exact below_drewN (Below.refl _ _) z))
  have K3 := Lib.hid (K2.out.step (w' := w2) (by rw [hw2]; exact below_drewN (Below.refl _ _) z))
  have O2 : Hid (Oth B wb w w2) := by show Oth _ _ _ _; rw [hw2]; exact O1.out.drewN z
  have B2 := Lib.hid (BX.out.step (w' := w2) (by rw [hw2]; exact below_drewN (Below.refl _ _) z))
  clear hw2
  go_wp2_with fail
  refine (KN.out w2 E2.out).mono ?_; rintro e w3 ⟨rfl, hw3⟩
  rw [hw3]; clear hw3 w3
  rw [KD.out]
  obtain ⟨b0, b1, b2⟩ := B2.out.all
  go_wp2_with fail
  refine (split_up E2.out q v h0 HV.out HR.out HS.out PN.out Q2.out p n cc rfl).mono ?_; rintro e w4 ⟨t', S', rfl, f1, f2, f3, f4, f5⟩
  have F : Hid (PutS B wb o w w4 S q v pre (.node id own (pre ++ (b : Int) :: part) val has leaf kid) (.returned (.pointer (pt t'.ptr)))) := ⟨t', S', rfl, f1, O2.out.trans f2, f3, f4, f5⟩
  clear f1 f2 f3 f4 f5
  go_wp2_with fail
  go_ret
  exact F.out

set_option maxHeartbeats 1600000 in
theorem into_fork (h : Env B wb o w S) (q v : Int) (h0 : q ≠ 0) (hv : 0 ≤ v ∧ v < 18446744073709551616) {id : Nat} {own : Int} {pre part : List Int} {b : Nat} {val : Int} {has leaf : Bool} {kid : Nat → T} {c : Nat} {k : List Int} (hbc : b ≠ c)
    (hr : Rep S (.node id own (pre ++ (b : Int) :: part) val has leaf kid)) (hs : (T.node id own (pre ++ (b : Int) :: part) val has leaf kid).Sep) {p : Option Addr} {n cc : Nat} (hk : Kb B w p n cc (pre ++ (c : Int) :: k)) :
    Calls Tryz.prog 55 #[putter v q wb, .pointer (some ⟨id, 0, none⟩), .slice p n cc] w fun e w' => PutS B wb o w w' S q v (pre ++ (c : Int) :: k) (.node id own (pre ++ (b : Int) :: part) val has leaf kid) e := by
  have HR := Lib.hid hr
  have HS := Lib.hid hs
  have HV := Lib.hid hv
  have hkn := hk.bs.len
  have ST := Lib.hid (Start.mk' h v q)
  have K1 := Lib.hid (hk.step ST.out.bel)
  have KN : Hid (∀ W, Env B wb o W S → Calls Tryz.prog 64 #[.pointer (some ⟨id, 0, none⟩)] W fun e w' => e = .returned (.int .i64 (kindN ⟨own, (pre ++ (b : Int) :: part), val, has, leaf, fun b => (kid b).ptr⟩)) ∧ w' = W) := fun W hE => kind64 hE.sto HR.out.1
  have PT : Hid (∀ W, Env B wb o W S → Calls Tryz.prog 58 #[.pointer (some ⟨id, 0, none⟩)] W fun e w' => PartR B W w' (pre ++ (b : Int) :: part) e) := fun W hE => part58 hE.sto HR.out.1
  have hbig := hk.bs.big
  obtain ⟨m, hm⟩ : ∃ m, (pre ++ (b : Int) :: part).length = m := ⟨_, rfl⟩
  obtain ⟨s, hs'⟩ : ∃ s, pre.length = s := ⟨_, rfl⟩
  have M := Lib.hid hm
  have CM : Hid (com (pre ++ (b : Int) :: part) (pre ++ (c : Int) :: k) = s) := by
    show _ = _
    rw [com_append, hs']
    have : ((b : Int) = (c : Int)) = False := by simp; omega
    simp [com, this]
  obtain ⟨kd, hkd⟩ : ∃ kd, kd = kindN ⟨own, pre ++ (b : Int) :: part, val, has, leaf, fun b => (kid b).ptr⟩ := ⟨_, rfl⟩
  have KD : Hid (kindN ⟨own, pre ++ (b : Int) :: part, val, has, leaf, fun b => (kid b).ptr⟩ = kd) := hkd.symm
  have hlt : s < m := by rw [← hm, ← hs']; simp
  have t1 : ((s : Int) == (m : Int)) = false := by simp; omega
  have t2 : decide ((s : Int) < (m : Int)) = true := by simp; omega
  have t3 : decide (s < m) = true := by simp; omega
  have PN := Lib.hid hs'
  clear hkd hkn hm hs'
  clear h hr hs hv hk
  unfold putter
  go_enter Tryz.func55, Tryz.ntmps55
  go_wp2_with fail
  refine (PT.out _ ST.out.env).mono ?_; rintro e w1 ⟨p1, c1, rfl, hp1, hb1⟩
  have E1 := Lib.hid (ST.out.env.below hb1)
  have Q1 := Lib.hid hp1
  have K2 := Lib.hid (K1.out.step hb1)
  have O1 := Lib.hid (ST.out.oth.trans (ST.out.env.oth hb1))
  have BX := Lib.hid (ST.out.bx.step hb1)
  clear hp1 hb1
  rw [M.out]
  rw [M.out] at Q1
  go_wp2_with fail
  refine (common19 p1 p _ c1 n cc _ _ w1 Q1.out.bs K2.out.bs).mono ?_; rintro e w2 ⟨rfl, z, hw2⟩
  rw [CM.out]
  have E2 : Hid (Env B wb o w2 S) := by show Env _ _ _ _ _; rw [hw2]; exact E1.out.drewN z
  have Q2 := Lib.hid (Q1.out.step (w' := w2) (by rw [hw2]; exact below_drewN (Below.refl _ _) z))
  have K3 := Lib.hid (K2.out.step (w' := w2) (by rw [hw2]; exact below_drewN (Below.refl _ _) z))
  have O2 : Hid (Oth B wb w w2) := by show Oth _ _ _ _; rw [hw2]; exact O1.out.drewN z
  have B2 := Lib.hid (BX.out.step (w' := w2) (by rw [hw2]; exact below_drewN (Below.refl _ _) z))
  clear hw2
  go_wp2_with fail
  refine (KN.out w2 E2.out).mono ?_; rintro e w3 ⟨rfl, hw3⟩
  rw [hw3]; clear hw3 w3
  rw [KD.out]
  obtain ⟨b0, b1, b2⟩ := B2.out.all
  go_wp2_with fail
  refine (split_fork E2.out q v h0 HV.out HR.out HS.out PN.out Q2.out K3.out hbc).mono ?_; rintro e w4 ⟨t', S', rfl, f1, f2, f3, f4, f5⟩
  have F : Hid (PutS B wb o w w4 S q v (pre ++ (c : Int) :: k) (.node id own (pre ++ (b : Int) :: part) val has leaf kid) (.returned (.pointer (pt t'.ptr)))) := ⟨t', S', rfl, f1, O2.out.trans f2, f3, f4, f5⟩
  clear f1 f2 f3 f4 f5
  go_wp2_with fail
  go_ret
  exact F.out

set_option maxHeartbeats 1600000 in
theorem into_tip (h : Env B wb o w S) (q v : Int) (h0 : q ≠ 0) (hv : 0 ≤ v ∧ v < 18446744073709551616) {id : Nat} {own : Int} {part : List Int} {val : Int} {has : Bool} {kid : Nat → T} {c : Nat} {k : List Int}
    (hr : Rep S (.node id own part val has true kid)) (hs : (T.node id own part val has true kid).Sep) {p : Option Addr} {n cc : Nat} (hk : Kb B w p n cc (part ++ (c : Int) :: k)) :
    Calls Tryz.prog 55 #[putter v q wb, .pointer (some ⟨id, 0, none⟩), .slice p n cc] w fun e w' => PutS B wb o w w' S q v (part ++ (c : Int) :: k) (.node id own part val has true kid) e := by
  have HR := Lib.hid hr
  have HS := Lib.hid hs
  have HV := Lib.hid hv
  have hkn := hk.bs.len
  have ST := Lib.hid (Start.mk' h v q)
  have K1 := Lib.hid (hk.step ST.out.bel)
  have KN : Hid (∀ W, Env B wb o W S → Calls Tryz.prog 64 #[.pointer (some ⟨id, 0, none⟩)] W fun e w' => e = .returned (.int .i64 (kindN ⟨own, part, val, has, true, fun b => (kid b).ptr⟩)) ∧ w' = W) := fun W hE => kind64 hE.sto HR.out.1
  have PT : Hid (∀ W, Env B wb o W S → Calls Tryz.prog 58 #[.pointer (some ⟨id, 0, none⟩)] W fun e w' => PartR B W w' part e) := fun W hE => part58 hE.sto HR.out.1
  have hbig := hk.bs.big
  have M0 : ∃ m, part.length = m := ⟨_, rfl⟩
  obtain ⟨m, hm⟩ := M0
  have M := Lib.hid hm
  have CM : Hid (com part (part ++ (c : Int) :: k) = m) := by
    show _ = _
    have := com_append part [] ((c : Int) :: k)
    rw [List.append_nil] at this
    rw [this, hm]; rfl
  have hlt : m < n := by rw [← hm, ← hkn]; simp
  have t1 : ((m : Int) == (m : Int)) = true := by simp
  have t2 : ((m : Int) == (n : Int)) = false := by simp; omega
  have t3 : decide ((m : Int) < (m : Int)) = false := by simp
  have t4 : decide (m < m) = false := by simp
  have KD : Hid (kindN ⟨own, part, val, has, true, fun b => (kid b).ptr⟩ = 1) := kind_leaf _ rfl
  clear hkn hm
  clear h hr hs hv hk
  unfold putter
  go_enter Tryz.func55, Tryz.ntmps55
  go_wp2_with fail
  refine (PT.out _ ST.out.env).mono ?_; rintro e w1 ⟨p1, c1, rfl, hp1, hb1⟩
  have E1 := Lib.hid (ST.out.env.below hb1)
  have Q1 := Lib.hid hp1
  have K2 := Lib.hid (K1.out.step hb1)
  have O1 := Lib.hid (ST.out.oth.trans (ST.out.env.oth hb1))
  have BX := Lib.hid (ST.out.bx.step hb1)
  clear hp1 hb1
  rw [M.out]
  rw [M.out] at Q1
  go_wp2_with fail
  refine (common19 p1 p _ c1 n cc _ _ w1 Q1.out.bs K2.out.bs).mono ?_; rintro e w2 ⟨rfl, z, hw2⟩
  rw [CM.out]
  have E2 : Hid (Env B wb o w2 S) := by show Env _ _ _ _ _; rw [hw2]; exact E1.out.drewN z
  have Q2 := Lib.hid (Q1.out.step (w' := w2) (by rw [hw2]; exact below_drewN (Below.refl _ _) z))
  have K3 := Lib.hid (K2.out.step (w' := w2) (by rw [hw2]; exact below_drewN (Below.refl _ _) z))
  have O2 : Hid (Oth B wb w w2) := by show Oth _ _ _ _; rw [hw2]; exact O1.out.drewN z
  have B2 := Lib.hid (BX.out.step (w' := w2) (by rw [hw2]; exact below_drewN (Below.refl _ _) z))
  clear hw2
  go_wp2_with fail
  refine (KN.out w2 E2.out).mono ?_; rintro e w3 ⟨rfl, hw3⟩
  rw [hw3]; clear hw3 w3
  rw [KD.out]
  obtain ⟨b0, b1, b2⟩ := B2.out.all
  go_wp2_with fail
  refine (split_tip E2.out q v h0 HV.out HR.out HS.out Q2.out K3.out).mono ?_; rintro e w4 ⟨t', S', rfl, f1, f2, f3, f4, f5⟩
  have F : Hid (PutS B wb o w w4 S q v (part ++ (c : Int) :: k) (.node id own part val has true kid) (.returned (.pointer (pt t'.ptr)))) := ⟨t', S', rfl, f1, O2.out.trans f2, f3, f4, f5⟩
  clear f1 f2 f3 f4 f5
  go_wp2_with fail
  go_ret
  exact F.out

set_option maxHeartbeats 1600000 in
theorem into_below (h : Env B wb o w S) (q v : Int) (h0 : q ≠ 0) (hv : 0 ≤ v ∧ v < 18446744073709551616) {id : Nat} {own : Int} {part : List Int} {val : Int} {has : Bool} {kid : Nat → T} {c : Nat} {k : List Int}
    (hr : Rep S (.node id own part val has false kid)) (hs : (T.node id own part val has false kid).Sep) {p : Option Addr} {n cc : Nat} (IH0 : ∀ n', n' < n → IntoH B wb o q v n') (hk : Kb B w p n cc (part ++ (c : Int) :: k)) :
    Calls Tryz.prog 55 #[putter v q wb, .pointer (some ⟨id, 0, none⟩), .slice p n cc] w fun e w' => PutS B wb o w w' S q v (part ++ (c : Int) :: k) (.node id own part val has false kid) e := by
  have HR := Lib.hid hr
  have HS := Lib.hid hs
  have HV := Lib.hid hv
  have hkn := hk.bs.len
  have ST := Lib.hid (Start.mk' h v q)
  have K1 := Lib.hid (hk.step ST.out.bel)
  have KN : Hid (∀ W, Env B wb o W S → Calls Tryz.prog 64 #[.pointer (some ⟨id, 0, none⟩)] W fun e w' => e = .returned (.int .i64 (kindN ⟨own, part, val, has, false, fun b => (kid b).ptr⟩)) ∧ w' = W) := fun W hE => kind64 hE.sto HR.out.1
  have PT : Hid (∀ W, Env B wb o W S → Calls Tryz.prog 58 #[.pointer (some ⟨id, 0, none⟩)] W fun e w' => PartR B W w' part e) := fun W hE => part58 hE.sto HR.out.1
  have hbig := hk.bs.big
  have M0 : ∃ m, part.length = m := ⟨_, rfl⟩
  obtain ⟨m, hm⟩ := M0
  have M := Lib.hid hm
  have CM : Hid (com part (part ++ (c : Int) :: k) = m) := by
    show _ = _
    have := com_append part [] ((c : Int) :: k)
    rw [List.append_nil] at this
    rw [this, hm]; rfl
  have hlt : m < n := by rw [← hm, ← hkn]; simp
  have t1 : ((m : Int) == (m : Int)) = true := by simp
  have t2 : ((m : Int) == (n : Int)) = false := by simp; omega
  have t3 : decide ((m : Int) < (m : Int)) = false := by simp
  have t4 : decide (m < m) = false := by simp
  obtain ⟨kd, hkd⟩ : ∃ kd, kd = kindN ⟨own, part, val, has, false, fun b => (kid b).ptr⟩ := ⟨_, rfl⟩
  have KD : Hid (kindN ⟨own, part, val, has, false, fun b => (kid b).ptr⟩ = kd) := hkd.symm
  have hk4 := kind_inner ⟨own, part, val, has, false, fun b => (kid b).ptr⟩ rfl
  rw [← hkd] at hk4
  have t5 : ((kd : Int) == 1) = false := by simp; omega
  obtain ⟨n', hn'⟩ : ∃ n', n = m + n' + 1 := ⟨n - m - 1, by omega⟩
  obtain ⟨q3, d3, hsl3, hk3⟩ := slice_from hk (m : Int) m rfl (by omega)
  rw [show n - m = n' + 1 by omega] at hsl3 hk3
  have hk3' : Kb B w q3 (n' + 1) d3 ((c : Int) :: k) := by
    have : (part ++ (c : Int) :: k).drop m = (c : Int) :: k := by rw [← hm, List.drop_append, List.drop_of_length_le (Nat.le_refl _), Nat.sub_self]; rfl
    rw [this] at hk3; exact hk3
  have SL := Lib.hid hsl3
  have S1 := Lib.hid (hk3'.step ST.out.bel)
  have IH := IH0 n' (by omega)
  have t6 : (0 : Int) ≤ (m : Int) := by omega
  have t7 : (m : Int) ≤ (n : Int) := by omega
  clear hkn hm hkd hk4 hsl3 hk3 hk3' hn' IH0
  clear h hr hs hv hk
  unfold putter
  go_enter Tryz.func55, Tryz.ntmps55
  go_wp2_with fail
  refine (PT.out _ ST.out.env).mono ?_; rintro e w1 ⟨p1, c1, rfl, hp1, hb1⟩
  have E1 := Lib.hid (ST.out.env.below hb1)
  have Q1 := Lib.hid hp1
  have K2 := Lib.hid (K1.out.step hb1)
  have S2 := Lib.hid (S1.out.step hb1)
  have O1 := Lib.hid (ST.out.oth.trans (ST.out.env.oth hb1))
  have BX := Lib.hid (ST.out.bx.step hb1)
  clear hp1 hb1
  rw [M.out]
  rw [M.out] at Q1
  go_wp2_with fail
  refine (common19 p1 p _ c1 n cc _ _ w1 Q1.out.bs K2.out.bs).mono ?_; rintro e w2 ⟨rfl, z, hw2⟩
  rw [CM.out]
  have E2 : Hid (Env B wb o w2 S) := by show Env _ _ _ _ _; rw [hw2]; exact E1.out.drewN z
  have Q2 := Lib.hid (Q1.out.step (w' := w2) (by rw [hw2]; exact below_drewN (Below.refl _ _) z))
  have K3 := Lib.hid (K2.out.step (w' := w2) (by rw [hw2]; exact below_drewN (Below.refl _ _) z))
  have O2 : Hid (Oth B wb w w2) := by show Oth _ _ _ _; rw [hw2]; exact O1.out.drewN z
  have S3 := Lib.hid (S2.out.step (w' := w2) (by rw [hw2]; exact below_drewN (Below.refl _ _) z))
  have B2 := Lib.hid (BX.out.step (w' := w2) (by rw [hw2]; exact below_drewN (Below.refl _ _) z))
  clear hw2
  go_wp2_with fail
  refine (KN.out w2 E2.out).mono ?_; rintro e w3 ⟨rfl, hw3⟩
  rw [hw3]; clear hw3 w3
  rw [KD.out]
  obtain ⟨b0, b1, b2⟩ := B2.out.all
  have hsl := SL.out
  go_wp2_with fail
  go_region_held3 (fun W' : World => W'.cell? ⟨w.heap.size, 0, none⟩ = some (.int .u64 v) ∧ W'.cell? ⟨w.heap.size, 1, none⟩ = some (.int .u64 q) ∧ W'.cell? ⟨w.heap.size, 2, none⟩ = some (.pointer (some ⟨wb, 0, none⟩)))
    (first
      | exact ⟨b0, b1, b2⟩
      | exact X)
    (first
      | (go_at_call 83
         refine (below83 (E2.out.drewN 1) q v h0 n' IH HR.out HS.out (S3.out.step (below_drewN (Below.refl _ _) 1))).mono ?_
         rintro e w4 ⟨t', S', rfl, f1, f2, f3, f4, f5⟩
         have X := (B2.out.oth ((Oth.d _).trans f2)).all))
  have F : Hid (PutS B wb o w w4 S q v (part ++ (c : Int) :: k) (.node id own part val has false kid) (.returned (.pointer (pt t'.ptr)))) := ⟨t', S', rfl, f1, O2.out.trans ((Oth.d _).trans f2), f3, f4, f5⟩
  clear f1 f2 f3 f4 f5 X b0 b1 b2
  go_wp2_with fail
  go_ret
  exact F.out

theorem into55 (q v : Int) (h0 : q ≠ 0) (hv : 0 ≤ v ∧ v < 18446744073709551616) : ∀ n, IntoH B wb o q v n := by
  intro n
  induction n using Nat.strongRecOn with
  | _ n ih =>
    intro w S t p c k hE hr hs hk
    cases t with
    | nil => exact into_nil hE q v h0 hv hk
    | node id own part val has leaf kid =>
      have hp := (hE.sto.fit _ _ hr.1).2.2
      have hpk := PK.of part k hp hk.bs.byte
      generalize com part k = s at hpk
      cases hpk with
      | same => exact into_here hE q v h0 hv hr hs hk
      | longer _ k c =>
        cases leaf with
        | true => exact into_tip hE q v h0 hv hr hs hk
        | false => exact into_below hE q v h0 hv hr hs ih hk
      | shorter _ part b => exact into_up hE q v h0 hv hr hs hk
      | fork pre part k b c hbc => exact into_fork hE q v h0 hv hbc hr hs hk
end

end Go.Proofs.YtbihlmkjoplkoaaGreatDoor
