/-
  For the statement TopOwners: canon: the tree of no pair, of one; canon: the tree of more pairs: the first key ends where all part.
-/
import Derived.Test.YtbihlmkjoplkoaaGreatDoorM37
import Derived.Deep.LoopGhost
/-
  canon: the tree of no pair, of one.
-/
namespace Go.Proofs.YtbihlmkjoplkoaaGreatDoor
open Go.RowKit
set_option linter.unusedVariables false

/-- what tree does -/
def TreeH (B wb : Nat) (o q : Int) (f : Nat) : Prop := ∀ (w : World) (S : Store) (p : Option Addr) (n c : Nat) (l : List KV) (pre : List Int), Env B wb o w S → Pr B w p n c l → Ks pre l → 301 ≤ pre.length + f →
  Calls Tryz.prog 47 #[.agg #[.pointer (some ⟨wb, 0, none⟩), .int .u64 q], .slice p n c, .int .i64 pre.length] w fun e w' => TreeS B wb o w w' S q n pre.length pre e

section
variable {B wb : Nat} {o : Int} {w : World} {S : Store} {p : Option Addr} {c : Nat} {l : List KV} {pre : List Int}

theorem tree_none (h : Env B wb o w S) (q : Int) (p : Option Addr) (c : Nat) (i : Int) (j : Nat) (pre : List Int) :
    Calls Tryz.prog 47 #[.agg #[.pointer (some ⟨wb, 0, none⟩), .int .u64 q], .slice p 0 c, .int .i64 i] w fun e w' => TreeS B wb o w w' S q 0 j pre e := by
  have ST := Lib.hid (StartM.mk' h q)
  clear h
  go_enter Tryz.func47, Tryz.ntmps47
  go_wp2_with fail
  go_ret
  exact ⟨.nil, S, rfl, ST.out.env, ST.out.oth, ⟨trivial, fun _ _ h => h, fun _ h => h.elim, trivial, trivial, trivial, by simp [T.cnt], fun h => by omega⟩⟩

set_option maxHeartbeats 1600000 in
set_option maxRecDepth 100000 in
theorem tree_leaf (h : Env B wb o w S) (q : Int) (hp : Pr B w p 1 c l) (hk : Ks pre l) :
    Calls Tryz.prog 47 #[.agg #[.pointer (some ⟨wb, 0, none⟩), .int .u64 q], .slice p 1 c, .int .i64 pre.length] w fun e w' => TreeS B wb o w w' S q 1 pre.length pre e := by
  have ST := Lib.hid (StartM.mk' h q)
  obtain ⟨x, hx⟩ : ∃ x, l[0]? = some x := ⟨l[0]'(by rw [hp.len]; omega), List.getElem?_eq_getElem (by rw [hp.len]; omega)⟩
  obtain ⟨r, hr⟩ := hk.pre x (List.mem_of_getElem? hx)
  obtain ⟨hs1, hs2⟩ := hp.small x (List.mem_of_getElem? hx)
  obtain ⟨g, o', q0, m, d, rfl, g0, g1, hb⟩ := (hp.step ST.out.bel).at hx
  have g0 : (w.alloc (.cells #[.pointer (some ⟨wb, 0, none⟩), .int .u64 q] 119)).cell? ⟨g, o', none⟩ = some (.slice q0 m d) := by simpa using g0
  have g1 : (w.alloc (.cells #[.pointer (some ⟨wb, 0, none⟩), .int .u64 q] 119)).cell? ⟨g, o' + 1, none⟩ = some (.int .u64 x.2) := by simpa using g1
  obtain ⟨i, hi⟩ : ∃ i, pre.length = i := ⟨_, rfl⟩
  have hml : m = i + r.length := by rw [← hb.bs.len, hr]; simp [hi]
  obtain ⟨q1, d1, hsl, hk1⟩ := slice_from hb (i : Int) i rfl (by omega)
  rw [hr] at hk1
  have hk2 : Kb B (w.alloc (.cells #[.pointer (some ⟨wb, 0, none⟩), .int .u64 q] 119)) q1 (m - i) d1 r := by rw [← hi] at hk1 ⊢; simpa using hk1
  have HK := Lib.hid hk2
  have HV := Lib.hid hs2
  have HL : Hid (pre.length + r.length ≤ 300) := by
    show _ ≤ _
    rw [hr] at hs1
    simpa using hs1
  have HI := Lib.hid hi
  have b01 := ST.out.bx.both
  obtain ⟨b0, b1⟩ := b01
  obtain ⟨u, hu⟩ : ∃ u, x.2 = u := ⟨_, rfl⟩
  have KC : Hid (∀ w', Oth B wb (w.alloc (.cells #[.pointer (some ⟨wb, 0, none⟩), .int .u64 q] 119)) w' → w'.cell? ⟨w.heap.size, 0, none⟩ = some (.pointer (some ⟨wb, 0, none⟩)) ∧ w'.cell? ⟨w.heap.size, 1, none⟩ = some (.int .u64 q) ∧ w'.cell? ⟨g, o', none⟩ = some (.slice q0 m d) ∧ w'.cell? ⟨g, o' + 1, none⟩ = some (.int .u64 u)) := fun w' hO => by
    have hgg : w'.heap[g]? = (w.alloc (.cells #[.pointer (some ⟨wb, 0, none⟩), .int .u64 q] 119)).heap[g]? := (hp.step ST.out.bel).block (by omega) hO ST.out.env.wld
    refine ⟨(ST.out.bx.oth hO).c0, (ST.out.bx.oth hO).c1, ?_, ?_⟩
    · rw [World.cell?_of_block hgg]; exact g0
    · rw [World.cell?_of_block hgg, ← hu]; exact g1
  rw [hu] at HV g1
  clear h hp hk hx hr hs1 hs2 hb hk1 hk2 hml
  rw [hi]
  clear hi hu
  go_enter Tryz.func47, Tryz.ntmps47
  go_wp2_with fail
  go_region_held3 (fun W' : World => W'.cell? ⟨w.heap.size, 0, none⟩ = some (.pointer (some ⟨wb, 0, none⟩)) ∧ W'.cell? ⟨w.heap.size, 1, none⟩ = some (.int .u64 q) ∧ W'.cell? ⟨g, o', none⟩ = some (.slice q0 m d) ∧ W'.cell? ⟨g, o' + 1, none⟩ = some (.int .u64 u))
    (first
      | exact ⟨b0, b1, g0, g1⟩
      | exact X)
    (first
      | (go_at_call 69
         refine (leaf69 (ST.out.env.drewN 1) q u (HK.out.step (below_drewN (Below.refl _ _) 1)) HV.out).mono ?_
         rintro e w2 ⟨a0, rfl, hn0, hE2, hO2⟩
         have X := KC.out _ ((Oth.d _).trans hO2)))
  have E2 := Lib.hid hE2
  have O2 := Lib.hid ((Oth.d _).trans hO2)
  have N0 := Lib.hid hn0
  clear hE2 hO2 hn0 b0 b1 g0 g1 X
  go_wp2_with fail
  go_ret
  rw [← HI.out]
  exact ⟨.node a0 q r u true true none', _, rfl, E2.out, ST.out.oth.trans O2.out, tr_leaf N0.out HL.out (by have := HL.out; omega)⟩
end
end Go.Proofs.YtbihlmkjoplkoaaGreatDoor
/-
  canon: the tree of more pairs: the first key ends where all part.
-/
namespace Go.Proofs.YtbihlmkjoplkoaaGreatDoor
open Go.RowKit
set_option linter.unusedVariables false

section
variable {B wb : Nat} {o : Int} {w : World} {S : Store} {p : Option Addr} {n c : Nat} {l : List KV} {pre : List Int}

set_option maxHeartbeats 6400000 in
set_option maxRecDepth 100000 in
theorem tree_has (q : Int) (h0 : q ≠ 0) {f : Nat} (IH : TreeH B wb o q f) (h : Env B wb o w S) (hp : Pr B w p n c l) (hk : Ks pre l) (hn : 2 ≤ n) (hf : 301 ≤ pre.length + (f + 1)) {x0 xn : KV} (hx0 : l[0]? = some x0) (hxn : l[n - 1]? = some xn)
    (hway : com x0.1 xn.1 = x0.1.length) :
    Calls Tryz.prog 47 #[.agg #[.pointer (some ⟨wb, 0, none⟩), .int .u64 q], .slice p n c, .int .i64 pre.length] w fun e w' => TreeS B wb o w w' S q n pre.length pre e := by
  have ST := Lib.hid (StartM.mk' h q)
  obtain ⟨w0, hw0⟩ : ∃ w0, w0 = w.alloc (.cells #[.pointer (some ⟨wb, 0, none⟩), .int .u64 q] 119) := ⟨_, rfl⟩
  have HP := Lib.hid (hp.step ST.out.bel)
  rw [← hw0] at HP ST
  have hnn := hp.few
  have hlen := hp.len
  have hends := ks_end hk (n := n - 2) (by omega) hx0 (by rw [show n - 2 + 1 = n - 1 by omega]; exact hxn)
  obtain ⟨en, hen⟩ : ∃ en, com x0.1 xn.1 = en := ⟨_, rfl⟩
  rw [hen] at hends
  obtain ⟨e1, e2, e3, e4, e5, e6⟩ := hends
  obtain ⟨hs1, hs2⟩ := hp.small x0 (List.mem_of_getElem? hx0)
  obtain ⟨g, o', q0, m0, d0, rfl, g0, g1, hb0⟩ := HP.out.at hx0
  obtain ⟨g', o'', qn, mn, dn, e', gn, _, hbn⟩ := HP.out.at hxn
  cases e'
  have g0 : w0.cell? ⟨g, o', none⟩ = some (.slice q0 m0 d0) := by simpa using g0
  have g1 : w0.cell? ⟨g, o' + 1, none⟩ = some (.int .u64 x0.2) := by simpa using g1
  obtain ⟨i, hi⟩ : ∃ i, pre.length = i := ⟨_, rfl⟩
  rw [hi] at e1 hf
  have hm0 := hb0.bs.len
  obtain ⟨q1, d1, hsl, hk1⟩ := slice_mid hb0 (i : Int) (en : Int) i en rfl rfl e1 (by omega)
  obtain ⟨r0, hr0⟩ := hk.pre x0 (List.mem_of_getElem? hx0)
  obtain ⟨part, hpart⟩ : ∃ part, (x0.1.take en).drop i = part := ⟨_, rfl⟩
  rw [hpart] at hk1
  have HKP : Hid (x0.1.take en = pre ++ part) := by
    show _ = _
    have h1 : (x0.1.take en).take i = pre := by
      rw [List.take_take, Nat.min_eq_left e1, hr0, ← hi]; simp
    rw [← hpart]
    have := (List.take_append_drop i (x0.1.take en)).symm
    rwa [h1] at this
  have HPL : Hid ((pre ++ part).length = en) := by
    show _ = _
    rw [← HKP.out, List.length_take]; omega
  have HC := Lib.hid (common19 q0 qn m0 d0 mn dn x0.1 xn.1 w0 hb0.bs hbn.bs)
  rw [hen] at HC
  have HK1 := Lib.hid hk1
  have HV := Lib.hid hs2
  have HI := Lib.hid hi
  have HR := Lib.hid hk.rise
  have HE := Lib.hid (show i ≤ en ∧ en ≤ x0.1.length ∧ en < xn.1.length ∧ (∀ x ∈ l, ∃ r, x.1 = (pre ++ part) ++ r) ∧ (∀ i x, 0 < i → l[i]? = some x → en < x.1.length) ∧ (en < x0.1.length → x0.1.getD en 0 ≠ xn.1.getD en 0) from
    ⟨e1, e2, e3, by rw [← HKP.out]; exact e4, e5, e6⟩)
  have HX := Lib.hid (And.intro hx0 hxn)
  have HS3 : Hid (en ≤ 299) := by
    show _ ≤ _
    have := (HP.out.small xn (List.mem_of_getElem? hxn)).1; omega
  have HF := Lib.hid hf
  have HWAY := Lib.hid hway
  obtain ⟨b0, b1⟩ := ST.out.bx.both
  have hw4 : (0 : Int) ≤ (n : Int) - 1 := by omega
  have hw6 : (n : Int) - 1 < (n : Int) := by omega
  have hw5 : ((n : Int) - 1).toNat = n - 1 := by omega
  have hwr : IntKind.i64.wrap ((n : Int) - 1) = (n : Int) - 1 := IntWalk.i64_in _ (by omega)
  have z0 : ((n : Int) == 0) = false := by simp; omega
  have z1 : ((n : Int) == 1) = false := by simp; omega
  have t00 : (0 : Int) < (n : Int) := by omega
  have t01 : 0 < n := by omega
  have d9 : ((m0 : Int) == (en : Int)) = true := by simp; rw [hen] at hway; omega
  have HLEN := Lib.hid hlen
  have HN2 := Lib.hid hn
  have HNN := Lib.hid hnn
  have HIH := Lib.hid IH
  obtain ⟨u, hu⟩ : ∃ u, x0.2 = u := ⟨_, rfl⟩
  have HU := Lib.hid hu
  rw [hu] at HV g1
  rw [hi]
  clear h hp hk hx0 hxn hway hr0 hs1 hs2 hb0 hbn hk1 hi e1 e2 e3 e4 e5 e6 hf hlen hpart hen hm0 hn IH hu
  rw [hw0] at g0 gn
  go_enter Tryz.func47, Tryz.ntmps47
  go_wp2_with fail
  rw [← hw0]
  refine HC.out.mono ?_; rintro e w1 ⟨rfl, z, hw1⟩
  rw [hw1]; clear hw1 w1
  have E1 := Lib.hid (ST.out.env.drewN z)
  have O1 : Hid (Oth B wb w0 (w0.drewN z)) := (Oth.refl _ _ _).drewN z
  have K1 := Lib.hid (HK1.out.step (below_drewN (Below.refl _ _) z))
  have BX1 := Lib.hid (ST.out.bx.oth O1.out)
  obtain ⟨w1, hw1⟩ : ∃ w1, w1 = w0.drewN z := ⟨_, rfl⟩
  rw [← hw1] at E1 O1 K1 BX1
  rw [← hw1]
  clear hw1 hw0 b0 b1 g0 g1 gn
  obtain ⟨b0, b1⟩ := BX1.out.both
  go_wp2_with fail
  go_region_held3 (fun W' : World => W'.cell? ⟨w.heap.size, 0, none⟩ = some (.pointer (some ⟨wb, 0, none⟩)) ∧ W'.cell? ⟨w.heap.size, 1, none⟩ = some (.int .u64 q))
    (first
      | exact ⟨b0, b1⟩
      | exact X)
    (first
      | (go_at_call 70
         refine (inner70 (E1.out.drewN 1) q (K1.out.step (below_drewN (Below.refl _ _) 1))).mono ?_
         rintro e w2 ⟨a0, rfl, hn0, hE2, hO2⟩
         have X := (BX1.out.oth ((Oth.d _).trans hO2)).both))
  have E2 := Lib.hid hE2
  have O2 := Lib.hid (O1.out.trans ((Oth.d _).trans hO2))
  have N0 := Lib.hid hn0
  clear hE2 hO2 hn0 X b0 b1
  have BX2 := Lib.hid (ST.out.bx.oth O2.out)
  obtain ⟨b0, b1⟩ := BX2.out.both
  have P2 := Lib.hid (HP.out.oth O2.out ST.out.env.wld)
  obtain ⟨g', o'', q0', m0', d0', e', _, g1, _⟩ := P2.out.at HX.out.1
  cases e'
  have g1 : w2.cell? ⟨g, o' + 1, none⟩ = some (.int .u64 u) := by rw [← HU.out]; simpa using g1
  go_wp2_with fail
  go_region_held3 (fun W' : World => W'.cell? ⟨w.heap.size, 1, none⟩ = some (.int .u64 q) ∧ W'.cell? ⟨g, o' + 1, none⟩ = some (.int .u64 u))
    (first
      | exact ⟨b1, g1⟩
      | exact X)
    (first
      | (go_at_call 71
         refine (setVal71 (E2.out.drewN 1) (stS_same _ _ _) q u h0 rfl HV.out).mono ?_
         rintro e w3 ⟨m3, rfl, hE3, hO3⟩
         have X : w3.cell? ⟨w.heap.size, 1, none⟩ = some (.int .u64 q) ∧ w3.cell? ⟨g, o' + 1, none⟩ = some (.int .u64 u) := by
           have P3 := HP.out.oth (O2.out.trans ((Oth.d _).trans hO3)) ST.out.env.wld
           obtain ⟨g', o'', q0', m0', d0', e', _, g1', _⟩ := P3.at HX.out.1
           cases e'
           exact ⟨(BX2.out.oth ((Oth.d _).trans hO3)).c1, by rw [← HU.out]; simpa using g1'⟩))
  obtain ⟨pL, cL, hsL, hpL⟩ := pairs_from HP.out 1 1 rfl (by have := HN2.out; omega)
  have B0 : Hid (Bld B wb o w0 S q a0 pre part u true w3 _ none' 0) := Bld.start hE3 (O2.out.trans ((Oth.d _).trans hO3)) N0.out (stS_same _ _ _) (fun x hx => by rw [stS_other _ _ _ _ hx, stS_other _ _ _ _ hx])
  obtain ⟨L, hL⟩ : ∃ L, l.drop 1 = L := ⟨_, rfl⟩
  rw [hL] at hpL
  have PL := Lib.hid hpL
  have HL := Lib.hid hL
  obtain ⟨nL, hnL⟩ : ∃ nL, n - 1 = nL := ⟨_, rfl⟩
  rw [hnL] at PL hsL
  have HNL := Lib.hid hnL
  obtain ⟨val, hval⟩ : ∃ val, u = val := ⟨_, rfl⟩
  obtain ⟨has, hhas⟩ : ∃ has, true = has := ⟨_, rfl⟩
  rw [hval, hhas] at B0
  have HHAS := Lib.hid hhas
  clear hE3 hO3 X b0 b1 g1 hpL hL hval hhas hnL
  go_wp2_with fail
  clear hsL
  have LEN : Hid (∀ (i : Nat) (x : KV), L[i]? = some x → en < x.1.length ∧ ∃ r, x.1 = (pre ++ part) ++ r) := fun i x hx => by rw [← HL.out, List.getElem?_drop] at hx; exact ⟨HE.out.2.2.2.2.1 (1 + i) x (by omega) hx, HE.out.2.2.2.1 x (List.mem_of_getElem? hx)⟩
  have LR : Hid (Rise L) := by show Rise L; rw [← HL.out]; exact List.Pairwise.sublist (List.drop_sublist _ _) HR.out
  go_loopg [1] nL (fun gk v wr => ∃ (pp : Option Addr) (cc : Nat) (S' : Store) (kf : Nat → T) (s : Nat), v = .slice pp gk cc ∧ s + gk = nL ∧ Hid (Pr B w0 pp gk cc (L.drop s)) ∧ Hid (Bld B wb o w0 S q a0 pre part val has wr S' kf (s * (300 - en))) ∧ Hid (∀ (j : Nat) (x : KV), j < s → L[j]? = some x → kf (x.1.getD en 0).toNat ≠ .nil))
  case atStart => exact ⟨pL, cL, _, _, 0, rfl, by omega, PL.out, by show Bld _ _ _ _ _ _ _ _ _ _ _ _ _ _ _; rw [Nat.zero_mul]; exact B0.out, fun j x hj => by omega⟩
  case round =>
    obtain ⟨pp, cc, S', kf, s, rfl, hs, hpr, hbld, hdone⟩ := hrel
    have HSS := Lib.hid hs
    clear hs
    by_cases hgk : gk = 0
    · subst hgk
      go_wp2_with fail
      go_ret
      refine ⟨.node a0 q part val has false kf, S', rfl, hbld.out.env, ST.out.oth.trans hbld.out.oth, ?_⟩
      refine hbld.out.done ?_ ?_ ?_
      · have h5 := HPL.out; have h6 := HS3.out; rw [List.length_append] at h5; omega
      · exact Or.inl HHAS.out.symm
      · have h1 := HE.out.1
        have h2 := HS3.out
        have h3 := HSS.out
        have h4 := HN2.out
        have h5 : s * (300 - en) ≤ (n - 1) * (300 - i) := Nat.mul_le_mul (by have := HNL.out; omega) (by omega)
        have h6 : (n - 1) * (300 - i) + (n - 1) = (n - 1) * (301 - i) := by rw [show 301 - i = 300 - i + 1 by omega, Nat.mul_succ]
        have h7 : (n - 1) * (301 - i) ≤ n * (301 - i) := Nat.mul_le_mul_right _ (by omega)
        omega
    · obtain ⟨y, hy⟩ : ∃ y, (L.drop s)[0]? = some y := ⟨(L.drop s)[0]'(by rw [hpr.out.len]; omega), List.getElem?_eq_getElem (by rw [hpr.out.len]; omega)⟩
      have PW := Lib.hid (hpr.out.oth hbld.out.oth ST.out.env.wld)
      obtain ⟨gg, go, qy, my, dy, rfl, y0, _, hby⟩ := PW.out.at hy
      have y0 : wr.cell? ⟨gg, go, none⟩ = some (.slice qy my dy) := by simpa using y0
      have hyL := LEN.out (s + 0) y (by rw [← List.getElem?_drop]; exact hy)
      have hmy := hby.bs.len
      obtain ⟨kb, ko, rfl, hcy, _⟩ := hby.cellAt en (by omega)
      obtain ⟨b, hb, hb6⟩ : ∃ b : Nat, y.1.getD en 0 = (b : Int) ∧ b < 256 := by
        have := hby.bs.get en
        exact ⟨(y.1.getD en 0).toNat, by omega, by omega⟩
      rw [hb] at hcy
      have t1 : (0 : Int) < (gk : Int) := by omega
      have t2 : (en : Int) < (my : Int) := by omega
      have t3 : (0 : Int) ≤ (en : Int) := by omega
      have HB := Lib.hid (And.intro hb hb6)
      have HGK := Lib.hid hgk
      have HGN : Hid (gk ≤ 1000) := hpr.out.few
      have hyb : Hid ((L.drop s)[0]? = some y) := hy
      clear hby hyL hmy hb hb6 hgk hy
      go_wp2_with fail
      go_loop [11] (fun t => ∃ k : Nat, t = .int .i64 k ∧ 1 ≤ k ∧ k ≤ gk ∧ Hid (∀ (j : Nat) (x : KV), j < k → (L.drop s)[j]? = some x → x.1.getD en 0 = (b : Int))) (fun t => gk - (intOf t).toNat)
      case atStart => exact ⟨1, rfl, by omega, by have := HGK.out; omega, fun j x hj hx => by
        obtain rfl : j = 0 := by omega
        rw [hyb.out] at hx; cases hx
        exact HB.out.1⟩
      case round =>
        obtain ⟨k, rfl, hk1, hk2, hall⟩ := hrel
        have HKK := Lib.hid (And.intro hk1 hk2)
        by_cases hmore : k < gk
        · obtain ⟨v, hv⟩ : ∃ v, (L.drop s)[k]? = some v := ⟨(L.drop s)[k]'(by rw [hpr.out.len]; omega), List.getElem?_eq_getElem (by rw [hpr.out.len]; omega)⟩
          obtain ⟨gg', go', qv, mv, dv, e', v0, _, hbv⟩ := PW.out.at hv
          cases e'
          have hvL := LEN.out (s + k) v (by rw [← List.getElem?_drop]; exact hv)
          have hmv := hbv.bs.len
          obtain ⟨kb', ko', rfl, hcv, _⟩ := hbv.cellAt en (by omega)
          obtain ⟨bv, hbv', _⟩ : ∃ b : Nat, v.1.getD en 0 = (b : Int) ∧ b < 256 := by
            have := hbv.bs.get en
            exact ⟨(v.1.getD en 0).toNat, by omega, by omega⟩
          rw [hbv'] at hcv
          have d1 : decide ((k : Int) < (gk : Int)) = true := by simp; omega
          have t5 : (k : Int) < (gk : Int) := by omega
          have t6 : (en : Int) < (mv : Int) := by omega
          have t7 : (0 : Int) ≤ (k : Int) := by omega
          have qk : IntKind.i64.wrap ((k : Int) + 1) = (k : Int) + 1 := IntWalk.i64_in _ (by have := HGN.out; omega)
          have HVV := Lib.hid (And.intro hv hbv')
          clear hbv hvL hmv hv hbv' hk1 hk2
          by_cases hbb : bv = b
          · have d2 : ((bv : Int) == (b : Int)) = true := by simp; omega
            have HBB := Lib.hid hbb
            clear hbb
            go_wp2_with fail
            go_round
            case rel => exact ⟨k + 1, by go_num, by omega, by omega, fun j x hj hx => by
              by_cases e : j = k
              · subst e
                rw [HVV.out.1] at hx; cases hx
                rw [HVV.out.2, HBB.out]
              · exact hall.out j x (by omega) hx⟩
            case measure => simp [intOf]; omega
          · have d2 : ((bv : Int) == (b : Int)) = false := by simp; omega
            clear hbb
            go_wp2_with fail
            have BXR := Lib.hid (ST.out.bx.oth hbld.out.oth)
            obtain ⟨b0, b1⟩ := BXR.out.both
            obtain ⟨qt, dt, hst, hpt⟩ := pairs_to PW.out (k : Int) k rfl HKK.out.2
            obtain ⟨qf, df, hsf, hpf⟩ := pairs_from hpr.out (k : Int) k rfl HKK.out.2
            have HPT := Lib.hid hpt
            have HPF := Lib.hid hpf
            have HKS : Hid (Ks (pre ++ part ++ [(b : Int)]) ((L.drop s).take k)) := ⟨List.Pairwise.sublist ((List.take_sublist _ _).trans (List.drop_sublist _ _)) LR.out, fun x hx => by
              obtain ⟨j, hj⟩ := List.getElem?_of_mem hx
              rw [List.getElem?_take] at hj
              split at hj
              · rename_i hjk
                have h1 := hall.out j x hjk hj
                obtain ⟨h2, r, h3⟩ := LEN.out (s + j) x (by rw [← List.getElem?_drop]; exact hj)
                exact pre_split h3 (by rw [HPL.out]; exact h2) (by rw [HPL.out]; exact h1)
              · cases hj⟩
            have HT : Hid (Calls Tryz.prog 47 #[.agg #[.pointer (some ⟨wb, 0, none⟩), .int .u64 q], .slice qt k dt, .int .i64 ((en : Int) + 1)] (wr.drewN 1) fun e w' => TreeS B wb o (wr.drewN 1) w' S' q k (en + 1) (pre ++ part ++ [(b : Int)]) e) := by
              have hl : (pre ++ part ++ [(b : Int)]).length = en + 1 := by rw [List.length_append, HPL.out]; rfl
              have := HIH.out (wr.drewN 1) S' qt k dt ((L.drop s).take k) (pre ++ part ++ [(b : Int)]) (hbld.out.env.drewN 1) (HPT.out.drewN 1) HKS.out (by rw [hl]; have := HF.out; have := HE.out.1; omega)
              rw [hl] at this
              exact this
            have qe : IntKind.i64.wrap ((en : Int) + 1) = (en : Int) + 1 := IntWalk.i64_in _ (by have := HS3.out; omega)
            clear hpt hpf
            go_region_held3 (fun W' : World => W'.cell? ⟨w.heap.size, 0, none⟩ = some (.pointer (some ⟨wb, 0, none⟩)) ∧ W'.cell? ⟨w.heap.size, 1, none⟩ = some (.int .u64 q))
              (first
                | exact ⟨b0, b1⟩
                | exact Y
                | exact X)
              (first
                | (go_at_call 47
                   refine HT.out.mono ?_
                   rintro e w5 ⟨t1, S1, rfl, hE5, hO5, hTr⟩
                   obtain ⟨x, hx⟩ : ∃ x, t1.ptr = some x := by
                     cases ht : t1 with
                     | nil => exact absurd ht (hTr.live (by have := HKK.out.1; omega))
                     | node id' _ _ _ _ _ _ => exact ⟨id', rfl⟩
                   rw [hx, pt_some]
                   have X := (BXR.out.oth ((Oth.d _).trans hO5)).both)
                | (go_at_call 72
                   refine (setKid72 hE5 (hTr.grown _ _ hbld.out.node) q h0 rfl rfl b HB.out.2 x).mono ?_
                   rintro e w6 ⟨m6, rfl, hE6, hO6⟩
                   have Y := (BXR.out.oth (((Oth.d _).trans hO5).trans hO6)).both))
            have NB := Lib.hid (hbld.out.set b ((Oth.d _).trans hO5) hTr hx hE6 hO6)
            have HTL : Hid (t1 ≠ .nil) := fun e => by rw [e] at hx; cases hx
            clear hE5 hO5 hTr hx hE6 hO6 X Y b0 b1
            go_wp2_with fail
            go_roundg (gk - k)
            case measure => have := HKK.out; omega
            case rel =>
              refine ⟨qf, df, stS S1 a0 ⟨q, part, val, has, false, updK (fun b => (kf b).ptr) b (some x)⟩, updT kf b t1, s + k, rfl, by have := HSS.out; have := HKK.out.2; omega, by show Pr _ _ _ _ _ _; rw [← List.drop_drop]; exact HPF.out, ?_, fun j x' hj hx' => ?_⟩
              · show Bld _ _ _ _ _ _ _ _ _ _ _ _ _ _ _
                rw [Nat.add_mul, show (300 - en) = 301 - (en + 1) by omega]
                have := NB.out
                rwa [show (300 - en) = 301 - (en + 1) by omega] at this
              · by_cases hjs : j < s
                · by_cases hjb : (x'.1.getD en 0).toNat = b
                  · rw [hjb, updT_same]; exact HTL.out
                  · rw [updT_other _ _ _ _ hjb]; exact hdone.out j x' hjs hx'
                · have h1 := hall.out (j - s) x' (by omega) (by rw [List.getElem?_drop, show s + (j - s) = j by omega]; exact hx')
                  rw [h1, Int.toNat_natCast, updT_same]; exact HTL.out
        · have d1 : decide ((k : Int) < (gk : Int)) = false := by simp; omega
          have d3 : ¬ (k : Int) < (gk : Int) := by omega
          clear hmore hk1 hk2
          go_wp2_with fail
          have BXR := Lib.hid (ST.out.bx.oth hbld.out.oth)
          obtain ⟨b0, b1⟩ := BXR.out.both
          obtain ⟨qt, dt, hst, hpt⟩ := pairs_to PW.out (k : Int) k rfl HKK.out.2
          obtain ⟨qf, df, hsf, hpf⟩ := pairs_from hpr.out (k : Int) k rfl HKK.out.2
          have HPT := Lib.hid hpt
          have HPF := Lib.hid hpf
          have HKS : Hid (Ks (pre ++ part ++ [(b : Int)]) ((L.drop s).take k)) := ⟨List.Pairwise.sublist ((List.take_sublist _ _).trans (List.drop_sublist _ _)) LR.out, fun x hx => by
            obtain ⟨j, hj⟩ := List.getElem?_of_mem hx
            rw [List.getElem?_take] at hj
            split at hj
            · rename_i hjk
              have h1 := hall.out j x hjk hj
              obtain ⟨h2, r, h3⟩ := LEN.out (s + j) x (by rw [← List.getElem?_drop]; exact hj)
              exact pre_split h3 (by rw [HPL.out]; exact h2) (by rw [HPL.out]; exact h1)
            · cases hj⟩
          have HT : Hid (Calls Tryz.prog 47 #[.agg #[.pointer (some ⟨wb, 0, none⟩), .int .u64 q], .slice qt k dt, .int .i64 ((en : Int) + 1)] (wr.drewN 1) fun e w' => TreeS B wb o (wr.drewN 1) w' S' q k (en + 1) (pre ++ part ++ [(b : Int)]) e) := by
            have hl : (pre ++ part ++ [(b : Int)]).length = en + 1 := by rw [List.length_append, HPL.out]; rfl
            have := HIH.out (wr.drewN 1) S' qt k dt ((L.drop s).take k) (pre ++ part ++ [(b : Int)]) (hbld.out.env.drewN 1) (HPT.out.drewN 1) HKS.out (by rw [hl]; have := HF.out; have := HE.out.1; omega)
            rw [hl] at this
            exact this
          have qe : IntKind.i64.wrap ((en : Int) + 1) = (en : Int) + 1 := IntWalk.i64_in _ (by have := HS3.out; omega)
          clear hpt hpf
          go_region_held3 (fun W' : World => W'.cell? ⟨w.heap.size, 0, none⟩ = some (.pointer (some ⟨wb, 0, none⟩)) ∧ W'.cell? ⟨w.heap.size, 1, none⟩ = some (.int .u64 q))
            (first
              | exact ⟨b0, b1⟩
              | exact Y
              | exact X)
            (first
              | (go_at_call 47
                 refine HT.out.mono ?_
                 rintro e w5 ⟨t1, S1, rfl, hE5, hO5, hTr⟩
                 obtain ⟨x, hx⟩ : ∃ x, t1.ptr = some x := by
                   cases ht : t1 with
                   | nil => exact absurd ht (hTr.live (by have := HKK.out.1; omega))
                   | node id' _ _ _ _ _ _ => exact ⟨id', rfl⟩
                 rw [hx, pt_some]
                 have X := (BXR.out.oth ((Oth.d _).trans hO5)).both)
              | (go_at_call 72
                 refine (setKid72 hE5 (hTr.grown _ _ hbld.out.node) q h0 rfl rfl b HB.out.2 x).mono ?_
                 rintro e w6 ⟨m6, rfl, hE6, hO6⟩
                 have Y := (BXR.out.oth (((Oth.d _).trans hO5).trans hO6)).both))
          have NB := Lib.hid (hbld.out.set b ((Oth.d _).trans hO5) hTr hx hE6 hO6)
          have HTL : Hid (t1 ≠ .nil) := fun e => by rw [e] at hx; cases hx
          clear hE5 hO5 hTr hx hE6 hO6 X Y b0 b1
          go_wp2_with fail
          go_roundg (gk - k)
          case measure => have := HKK.out; omega
          case rel =>
            refine ⟨qf, df, stS S1 a0 ⟨q, part, val, has, false, updK (fun b => (kf b).ptr) b (some x)⟩, updT kf b t1, s + k, rfl, by have := HSS.out; have := HKK.out.2; omega, by show Pr _ _ _ _ _ _; rw [← List.drop_drop]; exact HPF.out, ?_, fun j x' hj hx' => ?_⟩
            · show Bld _ _ _ _ _ _ _ _ _ _ _ _ _ _ _
              rw [Nat.add_mul, show (300 - en) = 301 - (en + 1) by omega]
              have := NB.out
              rwa [show (300 - en) = 301 - (en + 1) by omega] at this
            · by_cases hjs : j < s
              · by_cases hjb : (x'.1.getD en 0).toNat = b
                · rw [hjb, updT_same]; exact HTL.out
                · rw [updT_other _ _ _ _ hjb]; exact hdone.out j x' hjs hx'
              · have h1 := hall.out (j - s) x' (by omega) (by rw [List.getElem?_drop, show s + (j - s) = j by omega]; exact hx')
                rw [h1, Int.toNat_natCast, updT_same]; exact HTL.out
end
end Go.Proofs.YtbihlmkjoplkoaaGreatDoor
