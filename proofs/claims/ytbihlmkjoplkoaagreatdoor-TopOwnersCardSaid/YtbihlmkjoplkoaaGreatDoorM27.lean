/-
  For the statement TopOwners: del: out; del: Del.
-/
import Derived.Test.YtbihlmkjoplkoaaGreatDoorM26
/-
  del: out.
-/
namespace Go.Proofs.YtbihlmkjoplkoaaGreatDoor
open Go.RowKit
set_option linter.unusedVariables false

/-- what out does to a kid -/
def OutH (B wb : Nat) (o : Int) (q : Int) (n : Nat) : Prop := ∀ (w : World) (S : Store) (t : T) (p : Option Addr) (c : Nat) (k hd : List Int), Env B wb o w S → Rep S t → t.Sep → t.Full → t.All Short hd → Kb B w p n c k → Path t k →
  Calls Tryz.prog 56 #[taker q wb, .pointer (pt t.ptr), .slice p n c] w fun e w' => DelS B wb o w w' S q t e

theorem two_ptr {id : Nat} {own : Int} {part : List Int} {val : Int} {has leaf : Bool} {kid : Nat → T} {S : Store} (hf : FitS S) (hr : Rep S (.node id own part val has leaf kid)) (h : Two kid) :
    ∃ x y, x ≠ y ∧ x < 256 ∧ y < 256 ∧ (kid x).ptr ≠ none ∧ (kid y).ptr ≠ none := by
  obtain ⟨x, y, h1, h2, h3⟩ := h
  have key : ∀ z, kid z ≠ .nil → z < 256 ∧ (kid z).ptr ≠ none := fun z hz => by
    have hp : (kid z).ptr ≠ none := by
      cases hk : kid z with
      | nil => exact absurd hk hz
      | node => intro e; cases e
    refine ⟨?_, hp⟩
    rcases Nat.lt_or_ge z 256 with h | h
    · exact h
    · exact absurd ((hf _ _ hr.1).2.1 z h) hp
  exact ⟨x, y, h1, (key x h2).1, (key y h3).1, (key x h2).2, (key y h3).2⟩

theorem two_left {kid : Nat → T} {b : Nat} (hb : b < 256) (h : 3 ≤ kcnt fun c => (kid c).ptr) : Two (updT kid b .nil) := by
  refine two_of ?_
  rw [ptr_upd]
  unfold kcnt at *
  show 2 ≤ cntF (thK (updK (fun c => (kid c).ptr) b none))
  rw [← thK_drop]
  have := cntF_upd (thK fun c => (kid c).ptr) b none hb
  simp at this
  split at this <;> omega

/-- what without leaves, as a deletion -/
theorem wo_del {B wb : Nat} {o : Int} {w w' : World} {S S1 : Store} {q : Int} {id : Nat} {own : Int} {part : List Int} {val : Int} {has leaf : Bool} {kid : Nat → T} {b : Nat} (hb : b < 256)
    (hr : Rep S (.node id own part val has leaf kid)) (hs : (T.node id own part val has leaf kid).Sep) (hx : Ext q S S1 (kid b)) {e : Ending}
    (h : WoS B wb o w w' S1 q id ⟨own, part, val, has, leaf, fun c => (kid c).ptr⟩ b e) : DelS B wb o w w' S q (.node id own part val has leaf kid) e := by
  rcases h with ⟨id', S', rfl, hE, hO, ho, h1, h2, h3⟩ | ⟨id', v, rfl, h1, hE, hO⟩ | ⟨c, id1, d1, hc, h1, h2, id', S', rfl, hE, hO, ho, h3, h4⟩
  · obtain ⟨r1, r2, r3, r4⟩ := set_rep (t1 := .nil) (S' := S') hr hs trivial hx (fun a ha => ha.elim) ho (by rw [h1, ptr_upd]; rfl) h2
    refine ⟨_, S', rfl, hE, hO, r1, r2, DelR.set _ _ _ _ _ _ _ _ _ _ (DelR.gone _) r3 r4 (Or.inr ?_)⟩
    unfold occ at h3
    cases hh : has with
    | true => exact Or.inl rfl
    | false =>
      rw [hh] at h3
      simp at h3
      exact Or.inr (two_left hb h3)
  · refine ⟨.node id' q part v true true none', _, rfl, hE, hO, ⟨stS_same _ _ _, fun b => trivial⟩, ⟨fun a d hd hh => ?_, fun a ha => ?_⟩, DelR.leaf _ _ _ _ _ _ _ _ _ (hx.noneOf h1)⟩
    · have h5 := (Ext.up (id := id) (own := own) (part := part) (val := val) (has := has) (leaf := leaf) hx).1 a d hd hh
      rw [stS_other _ _ _ _ (fun e => by rw [e, h1] at h5; cases h5)]; exact h5
    · have h5 := hx.2 a ha
      rw [stS_other _ _ _ _ (fun e => h5 (by rw [e]; exact h1))]; exact h5
  · obtain ⟨own1, part1, val1, has1, leaf1, kid1, hk⟩ := ptr_node h1
    have hr1 : Rep S1 (kid c) := Rep.ext hx (hr.2 c) (fun a ha hb => hs.2.1 c b hc a ha hb)
    have hs1 := hs.2.2 c
    rw [hk] at hr1 hs1
    have e1 := hr1.1
    rw [h2] at e1
    cases e1
    obtain ⟨g1, g2⟩ := lift_rep hr1 hs1 ho h3 h4
    rw [← hk] at g2
    exact ⟨_, S', rfl, hE, hO, g1, (Ext.up hx).trans (Ext.up g2), DelR.lift _ _ _ _ _ _ _ c _ _ _ _ _ _ _ _ hk (ho.mono hx.2)⟩

section
variable {B wb : Nat} {o : Int} {w : World} {S : Store}

set_option maxHeartbeats 1600000 in
set_option maxRecDepth 100000 in
theorem out_here (h : Env B wb o w S) (q : Int) (h0 : q ≠ 0) {id : Nat} {own : Int} {part : List Int} {val : Int} {has leaf : Bool} {kid : Nat → T}
    (hr : Rep S (.node id own part val has leaf kid)) (hs : (T.node id own part val has leaf kid).Sep) {hd : List Int} (ha : (T.node id own part val has leaf kid).All Short hd) {p : Option Addr} {n c : Nat} (hk : Kb B w p n c part) :
    Calls Tryz.prog 56 #[taker q wb, .pointer (some ⟨id, 0, none⟩), .slice p n c] w fun e w' => DelS B wb o w w' S q (.node id own part val has leaf kid) e := by
  have HR := Lib.hid hr
  have HS := Lib.hid hs
  have HA := Lib.hid ha
  have H0 := Lib.hid h0
  have ST := Lib.hid (StartD.mk' h q)
  have HK := Lib.hid (hk.step ST.out.bel)
  have hlen := hk.bs.len
  clear h hr hs ha h0 hk
  unfold taker
  go_enter Tryz.func56, Tryz.ntmps56
  go_wp2_with fail
  refine (part58 ST.out.env.sto HR.out.1).mono ?_; rintro e w1 ⟨pp, pc, rfl, hpk, hb⟩
  have hpk : Kb B w1 pp part.length pc part := hpk
  have E1 := Lib.hid (ST.out.env.below hb)
  have O1 := Lib.hid (ST.out.oth.trans (ST.out.env.oth hb))
  have bx := ST.out.bx.step hb
  have c0 := bx.c0
  have c1 := bx.c1
  obtain ⟨q1, d1, hsl, hkr⟩ := slice_from (HK.out.step hb) (part.length : Int) part.length rfl (by omega)
  rw [show n - part.length = 0 by omega] at hsl
  clear hpk hb bx hkr HK hlen
  go_wp2_with fail
  refine (here84 E1.out q H0.out HR.out HS.out HA.out).mono ?_; rintro e w2 ⟨t', S', rfl, g⟩
  have F : Hid (DelS B wb o w w2 S q (.node id own part val has leaf kid) (.returned (.pointer (pt t'.ptr)))) := DelS.before (w0 := w1) ⟨t', S', rfl, g⟩ O1.out
  clear g c0 c1
  go_wp2_with fail
  go_ret
  exact F.out

set_option maxHeartbeats 3200000 in
set_option maxRecDepth 100000 in
theorem out_down (h : Env B wb o w S) (q : Int) (h0 : q ≠ 0) {id : Nat} {own : Int} {part : List Int} {val : Int} {has leaf : Bool} {kid : Nat → T}
    (hr : Rep S (.node id own part val has leaf kid)) (hs : (T.node id own part val has leaf kid).Sep) (hf : (T.node id own part val has leaf kid).Full) {hd : List Int} (ha : (T.node id own part val has leaf kid).All Short hd) {b : Nat} {k : List Int} (hpa : Path (kid b) k)
    {n : Nat} (IH : ∀ m, m < n → OutH B wb o q m) {p : Option Addr} {c : Nat} (hk : Kb B w p n c (part ++ (b : Int) :: k)) :
    Calls Tryz.prog 56 #[taker q wb, .pointer (some ⟨id, 0, none⟩), .slice p n c] w fun e w' => DelS B wb o w w' S q (.node id own part val has leaf kid) e := by
  have hb : b < 256 := by have := hk.bs.byte (b : Int) (by simp); omega
  have HR := Lib.hid hr
  have HS := Lib.hid hs
  have HF := Lib.hid hf
  have HA := Lib.hid ha
  have H0 := Lib.hid h0
  have ST := Lib.hid (StartD.mk' h q)
  have HK := Lib.hid (hk.step ST.out.bel)
  have hlen := hk.bs.len
  have hlen : part.length + (k.length + 1) = n := by rw [← hlen]; simp
  have hne : (kid b).ptr ≠ none := by
    cases hkb : kid b with
    | nil => rw [hkb] at hpa; cases hpa
    | node => intro e; cases e
  have LF : Hid (leaf = false) := by
    show leaf = false
    cases hl : leaf with
    | false => rfl
    | true => exact absurd ((ST.out.env.sto.fit _ _ hr.1).1 hl b) hne
  obtain ⟨kp, hkp⟩ : ∃ kp, (kid b).ptr = some kp := by
    cases hkb : (kid b).ptr with
    | none => exact absurd hkb hne
    | some x => exact ⟨x, rfl⟩
  have HI : Hid (∀ w1 q1 d1, Env B wb o w1 S → Kb B w1 q1 k.length d1 k → Calls Tryz.prog 56 #[.agg #[.int .u64 q, .pointer (some ⟨wb, 0, none⟩)], .pointer (some ⟨kp, 0, none⟩), .slice q1 k.length d1] w1 fun e w' => DelS B wb o w1 w' S q (kid b) e) := fun w1 q1 d1 e1 k1 => by
    have := IH k.length (by omega) w1 S (kid b) q1 d1 k _ e1 (HR.out.2 b) (HS.out.2.2 b) (HF.out.2 b) (HA.out.2 b) k1 hpa
    rw [hkp] at this
    exact this
  have HKP := Lib.hid hkp
  have HB := Lib.hid hb
  have HL := Lib.hid hlen
  clear h hr hs hf ha h0 hk hpa IH hne hkp
  unfold taker
  go_enter Tryz.func56, Tryz.ntmps56
  go_wp2_with fail
  refine (part58 ST.out.env.sto HR.out.1).mono ?_; rintro e w1 ⟨pp, pc, rfl, hpk, hbel⟩
  have hpk : Kb B w1 pp part.length pc part := hpk
  have E1 := Lib.hid (ST.out.env.below hbel)
  have O1 := Lib.hid (ST.out.oth.trans (ST.out.env.oth hbel))
  have B1 := Lib.hid (ST.out.bx.step hbel)
  obtain ⟨q1, d1, hsl, hkr⟩ := slice_from (HK.out.step hbel) (part.length : Int) part.length rfl (by omega)
  rw [show n - part.length = k.length + 1 by omega] at hsl hkr
  have hkr : Kb B w1 q1 (k.length + 1) d1 ((b : Int) :: k) := by simpa using hkr
  obtain ⟨kb, ko, rfl, hcell, _⟩ := hkr.cellAt 0 (by omega)
  have hcell : w1.cell? ⟨kb, ko, none⟩ = some (.int .u8 b) := by simpa using hcell
  obtain ⟨q2, d2, hsl2, hk2⟩ := slice_from hkr 1 1 rfl (by omega)
  have hsl2 : ∀ w', (Instr.slice 41 (.slice (some ⟨kb, ko, none⟩) (k.length + 1) d1) (some (.int .i64 1)) none none).run Tryz.prog w' = .ok (.slice q2 k.length d2) w' := hsl2
  have hk2 : Kb B w1 q2 k.length d2 k := by simpa using hk2
  have K1 := Lib.hid hkr
  have K2 := Lib.hid hk2
  clear hpk hbel hkr HK hlen hk2
  go_wp2_with fail
  refine (kid38 E1.out.sto HR.out.1 b HB.out).mono ?_; rintro e w2 ⟨rfl, z, hw2⟩
  rw [hw2]; clear hw2 w2
  rw [show (ND.kid ⟨own, part, val, has, leaf, fun b => (kid b).ptr⟩ b) = some kp from HKP.out]
  have c0 := B1.out.c0
  have c1 := B1.out.c1
  clear hsl
  have c0d : (w1.drewN (z + 1)).cell? ⟨w.heap.size, 0, none⟩ = some (.int .u64 q) := c0
  have c1d : (w1.drewN (z + 1)).cell? ⟨w.heap.size, 1, none⟩ = some (.pointer (some ⟨wb, 0, none⟩)) := c1
  go_wp2_with fail
  go_region_held3 (fun W' : World => W'.cell? ⟨w.heap.size, 0, none⟩ = some (.int .u64 q) ∧ W'.cell? ⟨w.heap.size, 1, none⟩ = some (.pointer (some ⟨wb, 0, none⟩)))
    (first
      | exact ⟨c0d, c1d⟩
      | exact X)
    (first
      | (go_at_call 56
         refine (HI.out _ _ _ (E1.out.drewN (z + 1)) (K2.out.step (below_drewN (Below.refl _ _) (z + 1)))).mono ?_
         rintro e w3 ⟨t1, S1, rfl, hE3, hO3, hR3, hX3, hP3⟩
         have X := And.intro (B1.out.oth ((Oth.refl B wb w1 |>.drewN (z + 1)).trans hO3)).c0 (B1.out.oth ((Oth.refl B wb w1 |>.drewN (z + 1)).trans hO3)).c1))
  have E3 := Lib.hid hE3
  have O3 := Lib.hid ((Oth.refl B wb w1 |>.drewN (z + 1)).trans hO3)
  have R3 := Lib.hid hR3
  have X3 := Lib.hid hX3
  have P3 := Lib.hid hP3
  have B3 := Lib.hid (B1.out.oth ((Oth.refl B wb w1 |>.drewN (z + 1)).trans hO3))
  have K3 := Lib.hid (E1.out.kb ((Oth.refl B wb w1 |>.drewN (z + 1)).trans hO3) K1.out)
  have OO := Lib.hid (O1.out.trans ((Oth.refl B wb w1 |>.drewN (z + 1)).trans hO3))
  have hid : S1 id = some ⟨own, part, val, has, leaf, fun b => (kid b).ptr⟩ := hX3.1 id _ HR.out.1 (Or.inr (HS.out.1 b))
  have HD := Lib.hid hid
  have KC : Hid (∀ w', Oth B wb w3 w' → w'.cell? ⟨kb, ko, none⟩ = some (.int .u8 b)) := fun w' hO' => by
    obtain ⟨kb', ko', e1, e2, _⟩ := (E3.out.kb hO' K3.out).cellAt 0 (by omega)
    cases e1
    simpa using e2
  clear hid hE3 hO3 hR3 hX3 hP3 hsl2 hk2 hcell c0d c1d hkr hpk
  clear c0 c1
  cases ht1 : t1 with
  | nil =>
    have he := eql48_left ⟨kp, 0, none⟩ w3
    have W3 := Lib.hid (without86 (E3.out.drewN 1) q H0.out HD.out LF.out HA.out.1 b HB.out
      (fun hh => two_ptr (ST.out.env.sto.fit) HR.out (HF.out.1.resolve_left (by simp only at hh; rw [hh]; simp)))
      (fun cc a hcb hka => by
        obtain ⟨own1, part1, val1, has1, leaf1, kid1, hkk⟩ := ptr_node hka
        have hr1 : Rep S1 (kid cc) := Rep.ext X3.out (HR.out.2 cc) (fun x hx1 hx2 => HS.out.2.1 cc b hcb x hx1 hx2)
        have ha1 := HA.out.2 cc
        rw [hkk] at hr1 ha1
        exact ⟨_, hr1.1, ha1.1⟩))
    have HT := Lib.hid ht1
    clear ht1
    simp only [T.ptr, pt]
    have y0 := B3.out.c0
    have y1 := B3.out.c1
    have y2 := KC.out w3 (Oth.refl _ _ _)
    go_wp2_with fail
    have y0d : w3.drew.cell? ⟨w.heap.size, 0, none⟩ = some (.int .u64 q) := y0
    have y1d : w3.drew.cell? ⟨w.heap.size, 1, none⟩ = some (.pointer (some ⟨wb, 0, none⟩)) := y1
    have y2d : w3.drew.cell? ⟨kb, ko, none⟩ = some (.int .u8 b) := y2
    go_region_held3 (fun W' : World => W'.cell? ⟨w.heap.size, 0, none⟩ = some (.int .u64 q) ∧ W'.cell? ⟨w.heap.size, 1, none⟩ = some (.pointer (some ⟨wb, 0, none⟩)) ∧ W'.cell? ⟨kb, ko, none⟩ = some (.int .u8 b))
      (first
        | exact ⟨y0d, y1d, y2d⟩
        | exact Y)
      (first
        | (go_at_call 86
           refine (W3.out.mono fun e w' hW => wo_del HB.out HR.out HS.out X3.out hW).mono ?_
           rintro e w4 ⟨t', S', rfl, g1, g2, g3⟩
           have og := (Oth.refl B wb w3 |>.drewN 1).trans g2
           have Y := And.intro (B3.out.oth og).c0 (And.intro (B3.out.oth og).c1 (KC.out w4 og))))
    have F : Hid (DelS B wb o w w4 S q (.node id own part val has leaf kid) (.returned (.pointer (pt t'.ptr)))) := ⟨t', S', rfl, g1, OO.out.trans og, g3⟩
    clear g1 g2 g3 og Y y0 y1 y2 y0d y1d y2d he
    go_wp2_with fail
    go_ret
    exact F.out
  | node x own1 part1 val1 has1 leaf1 kid1 =>
    have hx1 : S1 x ≠ none := by have := R3.out; rw [ht1] at this; rw [this.1]; simp
    have hk1 : S1 kp ≠ none := X3.out.2 kp (by
      obtain ⟨_, _, _, _, _, _, hkk⟩ := ptr_node HKP.out
      have := HR.out.2 b
      rw [hkk] at this; rw [this.1]; simp)
    have he := eqlP x (some kp) (E3.out.sto.cellsy hx1) (fun a ha => by cases ha; exact E3.out.sto.cellsy hk1)
    have HT : Hid (t1.ptr = some x ∧ t1 ≠ .nil) := by show _ ∧ _; rw [ht1]; exact ⟨rfl, fun e => T.noConfusion e⟩
    clear ht1 hx1 hk1
    have ht : t1.ptr = some x := HT.out.1
    by_cases hxk : x = kp
    · rw [show decide (some x = some kp) = true by simp [hxk]] at he
      have HXK := Lib.hid hxk
      clear hxk
      simp only [pt] at he
      simp only [T.ptr, pt]
      go_wp2_with fail
      go_ret
      have h1 : t1.ptr = (kid b).ptr := by rw [HT.out.1, HKP.out, HXK.out]
      obtain ⟨r1, r2⟩ := same_rep HR.out HS.out R3.out X3.out h1
      exact ⟨_, S1, rfl, E3.out, OO.out, r1, r2, DelR.same _ _ _ _ _ _ _ _ _ P3.out h1⟩
    · rw [show decide (some x = some kp) = false by simp [hxk]] at he
      have hn := run_neq_pointer_nil (P := Tryz.prog) w3 48 (some ⟨x, 0, none⟩) (by kernel_rfl)
      clear hxk
      have y0 := B3.out.c0
      have y1 := B3.out.c1
      simp only [pt] at he
      simp only [T.ptr, pt]
      go_wp2_with fail
      refine (own85 E3.out HD.out q H0.out).mono ?_; rintro e w4 hown
      obtain ⟨a', S2, rfl, ho, hE, hO, hS1, hS2⟩ := own_as E3.out HD.out hown
      have E4 := Lib.hid hE
      have O4 := Lib.hid hO
      have A1 := Lib.hid hS1
      have A2 := Lib.hid hS2
      have OW := Lib.hid ho
      have B4 := Lib.hid (B3.out.oth hO)
      have y0 := B4.out.c0
      have y2 := KC.out w4 hO
      have y0d : w4.drew.cell? ⟨w.heap.size, 0, none⟩ = some (.int .u64 q) := y0
      have y2d : w4.drew.cell? ⟨kb, ko, none⟩ = some (.int .u8 b) := y2
      clear hE hO hS1 hS2 ho hown he hn y1
      go_wp2_with fail
      go_region_held3 (fun W' : World => W'.cell? ⟨w.heap.size, 0, none⟩ = some (.int .u64 q) ∧ W'.cell? ⟨kb, ko, none⟩ = some (.int .u8 b))
        (first
          | exact ⟨y0d, y2d⟩
          | exact Y)
        (first
          | (go_at_call 72
             refine (setKid72 (E4.out.drewN 1) A1.out q H0.out rfl LF.out b HB.out x).mono ?_
             rintro e w5 ⟨m, rfl, hE5, hO5⟩
             have og := (Oth.refl B wb w4 |>.drewN 1).trans hO5
             have Y := And.intro (B4.out.oth og).c0 (KC.out w5 (O4.out.trans og))))
      have E5 := Lib.hid hE5
      have O5 := Lib.hid og
      clear hE5 hO5 og Y y0 y2 y0d y2d
      go_wp2_with fail
      go_ret
      obtain ⟨r1, r2, r3, r4⟩ := set_rep (S' := stS S2 a' { own := q, part := part, val := val, has := has, leaf := leaf, kid := updK (fun b => (kid b).ptr) b (some x) }) HR.out HS.out R3.out X3.out P3.out.in OW.out (by rw [stS_same, ptr_upd, HT.out.1]) (fun b hb => (stS_other _ _ _ _ hb).trans (A2.out b hb))
      exact ⟨_, _, rfl, E5.out, (OO.out.trans O4.out).trans O5.out, r1, r2, DelR.set _ _ _ _ _ _ _ _ _ _ P3.out r3 r4 (Or.inl HT.out.2)⟩

theorem out56 (q : Int) (h0 : q ≠ 0) : ∀ n, OutH B wb o q n := by
  intro n
  induction n using Nat.strongRecOn with
  | _ n ih =>
    intro w S t p c k hd hE hr hs hf ha hk hp
    cases hp with
    | here id own part val has leaf kid => exact out_here hE q h0 hr hs ha hk
    | down id own part val has leaf kid b k hpa => exact out_down hE q h0 hr hs hf ha hpa ih hk
end
end Go.Proofs.YtbihlmkjoplkoaaGreatDoor
/-
  del: Del.
-/
namespace Go.Proofs.YtbihlmkjoplkoaaGreatDoor
open Go.RowKit
set_option linter.unusedVariables false

section
variable {B wb : Nat} {o : Int} {w : World} {S : Store} {t : T} {p : Option Addr} {n c : Nat} {k : List Int}

/-- what Del leaves -/
def Del5S (B wb : Nat) (o : Int) (w w' : World) (S : Store) (q : Int) (t : T) (t' : T) (S' : Store) : Prop :=
  Env B wb o w' S' ∧ Oth B wb w w' ∧ Rep S' t' ∧ Ext q S S' t ∧ (t' = t ∨ DelR q (newIn S) t t')

set_option maxHeartbeats 1600000 in
theorem Del37 (h : Env B wb o w S) (q : Int) (h0 : q ≠ 0) (hr : Rep S t) (hs : t.Sep) (hf : t.Full) {hd : List Int} (ha : t.All Short hd) (hk : Kb B w p n c k) (hn : n ≤ 65535) :
    Calls Tryz.prog 37 #[.pointer (pt t.ptr), .slice p n c, .int .u64 q, .pointer (some ⟨wb, 0, none⟩)] w fun e w' => ∃ t' S' b, e = .returned (.tuple #[.pointer (pt t'.ptr), .bool b, .int .i64 0]) ∧ Del5S B wb o w w' S q t t' S' := by
  have hM := may40 p n c w (by omega)
  rw [show mayE n = 0 from if_neg (by omega)] at hM
  have HM := Lib.hid hM
  have HG := Lib.hid (Has34 h.sto hr hk h.size)
  have HH := Lib.hid (show Env B wb o w S ∧ Rep S t ∧ t.Sep ∧ Kb B w p n c k from ⟨h, hr, hs, hk⟩)
  have HI : Hid (∀ w1, Env B wb o w1 S → Kb B w1 p n c k → Path t k → Calls Tryz.prog 56 #[.agg #[.int .u64 q, .pointer (some ⟨wb, 0, none⟩)], .pointer (pt t.ptr), .slice p n c] w1 fun e w' => DelS B wb o w1 w' S q t e) :=
    fun w1 e1 k1 hp => out56 q h0 n w1 S t p c k hd e1 hr hs hf ha k1 hp
  clear h hr hs hf ha hk hM hn
  generalize hpp : pt t.ptr = pp at *
  have HP := Lib.hid hpp
  clear hpp
  go_enter Tryz.func37, Tryz.ntmps37
  go_wp2_with fail
  refine HM.out.mono ?_; rintro e w1 ⟨rfl, hw1⟩
  rw [hw1]; clear hw1 w1
  go_wp2_with fail
  refine HG.out.mono ?_; rintro e w1 ⟨b, rfl, hb, hpath⟩
  have HB := Lib.hid hb
  have HE := Lib.hid (HH.out.1.below hb)
  have HK := Lib.hid (HH.out.2.2.2.step hb)
  cases b with
  | false =>
    clear hb hpath
    go_wp2_with fail
    go_ret3
    exact ⟨t, S, false, by rw [HP.out]; rfl, HE.out, HH.out.1.oth HB.out, HH.out.2.1, ⟨fun a d hd _ => hd, fun a ha => ha⟩, Or.inl rfl⟩
  | true =>
    have HPT := Lib.hid (hpath rfl)
    clear hb hpath
    go_wp2_with fail
    refine (HI.out _ HE.out HK.out HPT.out).mono ?_; rintro e w2 ⟨t', S', rfl, g1, g2, g3, g4, g5⟩
    have F : Hid (Del5S B wb o w w2 S q t t' S') := ⟨g1, (HH.out.1.oth HB.out).trans g2, g3, g4, Or.inr g5⟩
    clear g1 g2 g3 g4 g5
    go_wp2_with fail
    go_ret3
    exact ⟨t', S', true, rfl, F.out⟩
end
end Go.Proofs.YtbihlmkjoplkoaaGreatDoor
