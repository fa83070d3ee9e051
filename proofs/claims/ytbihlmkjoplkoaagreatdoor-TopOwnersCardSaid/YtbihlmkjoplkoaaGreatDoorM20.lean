/-
  For the statement TopOwners: put: here, below; put: split.
-/
import Derived.Test.YtbihlmkjoplkoaaGreatDoorM19
import Derived.StillTailTactics
/-
  put: here, below.
-/
namespace Go.Proofs.YtbihlmkjoplkoaaGreatDoor
open Go.RowKit
set_option linter.unusedVariables false

/-- the putter -/
def putter (v q : Int) (wb : Nat) : Value := .agg #[.int .u64 v, .int .u64 q, .pointer (some ⟨wb, 0, none⟩)]
def putCells (v q : Int) (wb : Nat) : Array Value := #[.int .u64 v, .int .u64 q, .pointer (some ⟨wb, 0, none⟩)]

/-- what a put leaves -/
def PutS (B wb : Nat) (o : Int) (w w' : World) (S : Store) (q v : Int) (k : List Int) (t : T) (e : Ending) : Prop :=
  ∃ t' S', e = .returned (.pointer (pt t'.ptr)) ∧ Env B wb o w' S' ∧ Oth B wb w w' ∧ Rep S' t' ∧ Ext q S S' t ∧ PutR q v (newIn S) k t t'

theorem PutS.before {B wb : Nat} {o : Int} {w w0 w' : World} {S : Store} {q v : Int} {k : List Int} {t : T} {e : Ending} (h : PutS B wb o w0 w' S q v k t e) (k0 : Oth B wb w w0) : PutS B wb o w w' S q v k t e :=
  let ⟨t', S', h1, h2, h3, h4⟩ := h; ⟨t', S', h1, h2, k0.trans h3, h4⟩

/-- what Own makes of a node, as one -/
theorem own_as {B wb : Nat} {o : Int} {w w' : World} {S : Store} {a : Nat} {d : ND} {q : Int} {e : Ending} (h : Env B wb o w S) (hd : S a = some d) (k : OwnS B wb o w w' S a d q e) :
    ∃ a' S', e = .returned (.pointer (some ⟨a', 0, none⟩)) ∧ OwnR q (newIn S) a d.own a' ∧ Env B wb o w' S' ∧ Oth B wb w w' ∧ S' a' = some { d with own := q } ∧ ∀ b, b ≠ a' → S' b = S b := by
  rcases k with ⟨h1, rfl, rfl⟩ | ⟨h1, a', rfl, h2, h3, h4⟩
  · refine ⟨a, S, rfl, Or.inl ⟨h1, rfl⟩, h, Oth.refl _ _ _, ?_, fun _ _ => rfl⟩
    rw [hd, ← h1]
  · exact ⟨a', _, rfl, Or.inr ⟨h1, h2⟩, h3, h4, stS_same _ _ _, fun b hb => stS_other _ _ _ _ hb⟩

section
variable {B wb : Nat} {o : Int} {w : World} {S : Store}

/-- the boxed putter -/
structure Bx (w : World) (b : Nat) (v q : Int) (wb : Nat) : Prop where
  heap : w.heap[b]? = some (.cells #[.int .u64 v, .int .u64 q, .pointer (some ⟨wb, 0, none⟩)] 126 (0, 0))
  ne : b ≠ wb
theorem Bx.c0 {b : Nat} {v q : Int} (h : Bx w b v q wb) : w.cell? ⟨b, 0, none⟩ = some (.int .u64 v) := by rw [cell_of_row _ _ _ _ _ _ h.heap]; rfl
theorem Bx.c1 {b : Nat} {v q : Int} (h : Bx w b v q wb) : w.cell? ⟨b, 1, none⟩ = some (.int .u64 q) := by rw [cell_of_row _ _ _ _ _ _ h.heap]; rfl
theorem Bx.c2 {b : Nat} {v q : Int} (h : Bx w b v q wb) : w.cell? ⟨b, 2, none⟩ = some (.pointer (some ⟨wb, 0, none⟩)) := by rw [cell_of_row _ _ _ _ _ _ h.heap]; rfl
theorem Bx.oth {b : Nat} {v q : Int} {w' : World} (h : Bx w b v q wb) (k : Oth B wb w w') : Bx w' b v q wb := ⟨k.keep h.heap (by simp [stT]) h.ne, h.ne⟩
theorem Bx.step {b : Nat} {v q : Int} {w' : World} (h : Bx w b v q wb) (k : Below w.heap.size w w') : Bx w' b v q wb := ⟨(k.block b (heap_lt h.heap)).trans h.heap, h.ne⟩

/-- the world behind the box -/
structure Start (B wb : Nat) (o : Int) (w W : World) (S : Store) (v q : Int) : Prop where
  env : Env B wb o W S
  oth : Oth B wb w W
  bel : Below w.heap.size w W
  bx : Bx W w.heap.size v q wb
theorem Start.mk' (h : Env B wb o w S) (v q : Int) : Start B wb o w (w.alloc (.cells #[.int .u64 v, .int .u64 q, .pointer (some ⟨wb, 0, none⟩)] 126)) S v q := by
  have hB : Below w.heap.size w (w.alloc (.cells #[.int .u64 v, .int .u64 q, .pointer (some ⟨wb, 0, none⟩)] 126)) := (Below.refl _ _).alloc (Nat.le_refl _) _
  exact ⟨h.below hB, h.oth hB, hB, ⟨heap_alloc_new _ _, by have := h.wld.lt; omega⟩⟩

set_option maxHeartbeats 800000 in
theorem here81 (h : Env B wb o w S) (q v : Int) (h0 : q ≠ 0) (hv : 0 ≤ v ∧ v < 18446744073709551616) {id : Nat} {own : Int} {part : List Int} {val : Int} {has leaf : Bool} {kid : Nat → T}
    (hr : Rep S (.node id own part val has leaf kid)) (hs : (T.node id own part val has leaf kid).Sep) :
    Calls Tryz.prog 81 #[putter v q wb, .pointer (some ⟨id, 0, none⟩)] w fun e w' => PutS B wb o w w' S q v part (.node id own part val has leaf kid) e := by
  have HR := Lib.hid hr
  have HS := Lib.hid hs
  have HV := Lib.hid hv
  have ST := Lib.hid (Start.mk' h v q)
  clear h hr hs hv
  unfold putter
  go_enter Tryz.func81, Tryz.ntmps81
  go_wp2_with fail
  refine (own85 ST.out.env HR.out.1 q h0).mono ?_; rintro e w1 hown
  obtain ⟨a', S1, rfl, ho, hE, hO, hS1, hS2⟩ := own_as ST.out.env HR.out.1 hown
  have b := ST.out.bx.oth hO
  have c0 := b.c0
  have c1 := b.c1
  have E1 := Lib.hid hE
  have O1 := Lib.hid hO
  have A1 := Lib.hid hS1
  have A2 := Lib.hid hS2
  have OW := Lib.hid ho
  clear b hE hO hS1 hS2 ho hown
  go_wp2_with fail
  refine (setVal71 E1.out A1.out q v h0 rfl HV.out).mono ?_; rintro e w2 ⟨n, rfl, hE, hO⟩
  have E2 := Lib.hid hE
  have O2 := Lib.hid hO
  clear hE hO c0 c1
  go_wp2_with fail
  go_ret
  obtain ⟨h1, h2⟩ := own_rep (S' := stS S1 a' { own := q, part := part, val := v, has := true, leaf := leaf, kid := fun c => (kid c).ptr }) HR.out HS.out OW.out (stS_same _ _ _) (fun b hb => (stS_other _ _ _ _ hb).trans (A2.out b hb))
  exact ⟨_, _, rfl, E2.out, (ST.out.oth.trans O1.out).trans O2.out, h1, h2, PutR.here _ _ _ _ _ _ _ _ OW.out⟩

theorem pt_some (n : Nat) : pt (some n) = some ⟨n, 0, none⟩ := rfl
theorem pt_none : pt none = none := rfl
/-- two pointers to nodes, compared -/
theorem eqlP {w : World} (x : Nat) (kp : Option Nat) (hx : Cellsy w x) (hk : ∀ a, kp = some a → Cellsy w a) : (binOp .eql 48 (.pointer (some ⟨x, 0, none⟩)) (.pointer (pt kp))).run Tryz.prog w = .ok (.bool (decide (some x = kp))) w := by
  cases kp with
  | none =>
    have h := run_eql_pointer_nil (P := Tryz.prog) w 48 (some ⟨x, 0, none⟩) (by kernel_rfl)
    rw [pt_none, h]; rfl
  | some a =>
    by_cases e : x = a
    · subst e; rw [pt_some, eql48_same]; simp
    · rw [pt_some, eql48_other e hx (hk a rfl)]; simp [e]

/-- what into does to a kid -/
def IntoH (B wb : Nat) (o : Int) (q v : Int) (n : Nat) : Prop := ∀ (w : World) (S : Store) (t : T) (p : Option Addr) (c : Nat) (k : List Int), Env B wb o w S → Rep S t → t.Sep → Kb B w p n c k →
  Calls Tryz.prog 55 #[putter v q wb, .pointer (pt t.ptr), .slice p n c] w fun e w' => PutS B wb o w w' S q v k t e

set_option maxHeartbeats 1600000 in
theorem below83 (h : Env B wb o w S) (q v : Int) (h0 : q ≠ 0) (n : Nat) (IH : IntoH B wb o q v n) {id : Nat} {own : Int} {part : List Int} {val : Int} {has : Bool} {kid : Nat → T}
    (hr : Rep S (.node id own part val has false kid)) (hs : (T.node id own part val has false kid).Sep) {p : Option Addr} {c : Nat} {b : Nat} {k : List Int} (hk : Kb B w p (n + 1) c ((b : Int) :: k)) :
    Calls Tryz.prog 83 #[putter v q wb, .pointer (some ⟨id, 0, none⟩), .slice p (n + 1) c] w fun e w' => PutS B wb o w w' S q v (part ++ (b : Int) :: k) (.node id own part val has false kid) e := by
  have hb : b < 256 := by have := hk.bs.byte (b : Int) (by simp); omega
  have HR := Lib.hid hr
  have HS := Lib.hid hs
  have ST := Lib.hid (Start.mk' h v q)
  have K1 := Lib.hid (hk.step (Start.mk' h v q).bel)
  obtain ⟨kb, ko, rfl, hcell, hkb⟩ := hk.cellAt 0 (by omega)
  have hcell : w.cell? ⟨kb, ko, none⟩ = some (.int .u8 b) := by simpa using hcell
  obtain ⟨q1, d1, hsl, hk1⟩ := slice_from hk 1 1 rfl (by omega)
  have hk1' : Kb B w q1 n d1 k := by simpa using hk1
  have SL := Lib.hid hsl
  have KK := Lib.hid hk1'
  clear h hr hs hk hk1 hk1' hsl
  obtain ⟨kp, hkp⟩ : ∃ kp, (kid b).ptr = kp := ⟨_, rfl⟩
  have HKP := Lib.hid hkp
  have HI : Hid (∀ w1, Env B wb o w1 S → Kb B w1 q1 n d1 k → Calls Tryz.prog 55 #[.agg #[.int .u64 v, .int .u64 q, .pointer (some ⟨wb, 0, none⟩)], .pointer (pt kp), .slice q1 n d1] w1 fun e w' => PutS B wb o w1 w' S q v k (kid b) e) := fun w1 e1 k1 => by
    rw [← hkp]; exact IH w1 S (kid b) q1 d1 k e1 (HR.out.2 b) (HS.out.2.2 b) k1
  have HK := Lib.hid (kid38 ST.out.env.sto HR.out.1 b hb)
  simp only [hkp] at HK
  clear hkp IH
  have sl := SL.out
  unfold putter
  go_enter Tryz.func83, Tryz.ntmps83
  go_wp2_with fail
  refine HK.out.mono ?_; rintro e w1 ⟨rfl, z, hw1⟩
  rw [hw1]; clear hw1 w1
  have BX := ST.out.bx
  have c0 := BX.c0
  have c1 := BX.c1
  have c2 := BX.c2
  have E0 : Hid (Env B wb o (((w.alloc (.cells #[.int .u64 v, .int .u64 q, .pointer (some ⟨wb, 0, none⟩)] 126)).drewN z).drew) S) := (ST.out.env.drewN z).drewN 1
  have K0 : Hid (Kb B (((w.alloc (.cells #[.int .u64 v, .int .u64 q, .pointer (some ⟨wb, 0, none⟩)] 126)).drewN z).drew) q1 n d1 k) := ((KK.out.step ST.out.bel).step (below_drewN (Below.refl _ _) z)).step (below_drewN (Below.refl _ _) 1)
  have B0 : Hid (Bx (((w.alloc (.cells #[.int .u64 v, .int .u64 q, .pointer (some ⟨wb, 0, none⟩)] 126)).drewN z).drew) w.heap.size v q wb) := (BX.step (below_drewN (Below.refl _ _) z)).step (below_drewN (Below.refl _ _) 1)
  clear BX
  go_wp2_with fail
  go_region_held3 (fun W' : World => W'.cell? ⟨w.heap.size, 0, none⟩ = some (.int .u64 v) ∧ W'.cell? ⟨w.heap.size, 1, none⟩ = some (.int .u64 q) ∧ W'.cell? ⟨w.heap.size, 2, none⟩ = some (.pointer (some ⟨wb, 0, none⟩)))
    (first
      | exact ⟨B0.out.c0, B0.out.c1, B0.out.c2⟩
      | exact ⟨X.c0, X.c1, X.c2⟩)
    (first
      | (go_at_call 55
         refine (HI.out _ E0.out K0.out).mono ?_
         rintro e w2 ⟨t1, S1, rfl, hE1, hO1, hR1, hX1, hP1⟩
         have X := B0.out.oth hO1))
  obtain ⟨x, hx⟩ : ∃ x, t1.ptr = some x := by
    cases ht : t1 with
    | nil => exact absurd ht hP1.root.1
    | node id' _ _ _ _ _ _ => exact ⟨id', rfl⟩
  have hin1 : S1 x ≠ none := by
    cases ht : t1 with
    | nil => rw [ht] at hx; cases hx
    | node id' _ _ _ _ _ _ => rw [ht] at hx hR1; cases hx; rw [hR1.1]; simp
  have he := eqlP x kp (hE1.sto.cellsy hin1) (fun a ha => hE1.sto.cellsy (by
    have h1 := HKP.out
    rw [ha] at h1
    have h2 := HR.out.2 b
    cases ht : kid b with
    | nil => rw [ht] at h1; cases h1
    | node id' _ _ _ _ _ _ =>
      rw [ht] at h1 h2; cases h1
      exact hX1.2 _ (by rw [h2.1]; simp)))
  have E1 := Lib.hid hE1
  have O1 := Lib.hid hO1
  have R1 := Lib.hid hR1
  have X1 := Lib.hid hX1
  have P1 := Lib.hid hP1
  have B1 := Lib.hid X
  have HX := Lib.hid hx
  have OO := Lib.hid (((ST.out.oth.trans (Oth.refl _ _ _ |>.drewN z)).trans (Oth.refl _ _ _ |>.drewN 1)).trans hO1)
  rw [hx, pt_some]
  have K2 := Lib.hid (E0.out.kb hO1 ((K1.out.step (below_drewN (Below.refl _ _) z)).step (below_drewN (Below.refl _ _) 1)))
  clear hE1 hO1 hR1 hX1 hP1 X hx hin1 c0 c1 c2 hcell sl
  clear E0 K0 B0 SL KK K1 HI HK
  by_cases hkx : some x = kp
  · rw [show decide (some x = kp) = true by simpa using hkx] at he
    go_wp2_with fail
    go_ret
    have h1 : t1.ptr = (kid b).ptr := by rw [HX.out, HKP.out, hkx]
    obtain ⟨r1, r2⟩ := same_rep HR.out HS.out R1.out X1.out h1
    exact ⟨_, S1, rfl, E1.out, OO.out, r1, r2, PutR.same _ _ _ _ _ _ _ _ _ _ P1.out h1⟩
  · rw [show decide (some x = kp) = false by simpa using hkx] at he
    have c1 := B1.out.c1
    have c2 := B1.out.c2
    have hid : S1 id = some ⟨own, part, val, has, false, fun b => (kid b).ptr⟩ := X1.out.1 id _ HR.out.1 (Or.inr (HS.out.1 b))
    have HD := Lib.hid hid
    clear hid
    go_wp2_with fail
    refine (own85 E1.out HD.out q h0).mono ?_; rintro e w3 hown
    obtain ⟨a', S2, rfl, ho, hE, hO, hS1, hS2⟩ := own_as E1.out HD.out hown
    have OW := Lib.hid ho
    have E2 := Lib.hid hE
    have O2 := Lib.hid hO
    have A1 := Lib.hid hS1
    have A2 := Lib.hid hS2
    have B2 := Lib.hid (B1.out.oth hO)
    have K3 := E1.out.kb hO K2.out
    obtain ⟨kb', ko', e1, hc3, hkb3⟩ := K3.cellAt 0 (by omega)
    cases e1
    have hc3 : w3.cell? ⟨kb, ko, none⟩ = some (.int .u8 b) := by simpa using hc3
    have c1 := B2.out.c1
    clear ho hE hO hS1 hS2 K3 hown c2
    go_wp2_with fail
    have KC : Hid (∀ w', Oth B wb w3 w' → w'.cell? ⟨kb, ko, none⟩ = some (.int .u8 b)) := fun w' hO' => by
      obtain ⟨kb', ko', e1, e2, _⟩ := (E2.out.kb hO' (E1.out.kb O2.out K2.out)).cellAt 0 (by omega)
      cases e1
      simpa using e2
    have c1d : w3.drew.cell? ⟨w.heap.size, 1, none⟩ = some (.int .u64 q) := c1
    have hc3d : w3.drew.cell? ⟨kb, ko, none⟩ = some (.int .u8 b) := hc3
    go_region_held3 (fun W' : World => W'.cell? ⟨w.heap.size, 1, none⟩ = some (.int .u64 q) ∧ W'.cell? ⟨kb, ko, none⟩ = some (.int .u8 b))
      (first
        | exact ⟨c1d, hc3d⟩
        | exact X)
      (first
        | (go_at_call 72
           refine (setKid72 (E2.out.drewN 1) A1.out q h0 rfl rfl b hb x).mono ?_
           rintro e w4 ⟨m, rfl, hE4, hO4⟩
           have X := And.intro (B2.out.oth ((Oth.refl B wb w3 |>.drewN 1).trans hO4)).c1 (KC.out w4 ((Oth.refl B wb w3 |>.drewN 1).trans hO4))))
    have E4 := Lib.hid hE4
    have O4 := Lib.hid ((Oth.refl B wb w3 |>.drewN 1).trans hO4)
    clear hE4 hO4 X c1 hc3 c1d hc3d he
    go_wp2_with fail
    go_ret
    obtain ⟨r1, r2, r3, r4⟩ := set_rep (S' := stS S2 a' { own := q, part := part, val := val, has := has, leaf := false, kid := updK (fun b => (kid b).ptr) b (some x) }) HR.out HS.out R1.out X1.out P1.out.in OW.out (by rw [stS_same, ptr_upd, HX.out]) (fun b hb => (stS_other _ _ _ _ hb).trans (A2.out b hb))
    exact ⟨_, _, rfl, E4.out, (OO.out.trans O2.out).trans O4.out, r1, r2, PutR.set _ _ _ _ _ _ _ _ _ _ _ P1.out r3 r4⟩

end

end Go.Proofs.YtbihlmkjoplkoaaGreatDoor
/-
  put: split.
-/
namespace Go.Proofs.YtbihlmkjoplkoaaGreatDoor
open Go.RowKit
set_option linter.unusedVariables false

theorem getD_mid (pre k : List Int) (c : Int) : (pre ++ c :: k).getD pre.length 0 = c := by
  rw [List.getD_eq_getElem?_getD, List.getElem?_append_right (Nat.le_refl _)]; simp
theorem drop_mid (pre k : List Int) (c : Int) : (pre ++ c :: k).drop (pre.length + 1) = k := by
  rw [List.drop_append, List.drop_of_length_le (by omega), Nat.add_sub_cancel_left]; rfl
theorem take_mid (pre k : List Int) : (pre ++ k).take pre.length = pre := by
  rw [List.take_append, List.take_of_length_le (Nat.le_refl _), Nat.sub_self]; simp

theorem Kb.some_of {B : Nat} {w : World} {p : Option Addr} {n c : Nat} {xs : List Int} (h : Kb B w p n c xs) (h0 : 0 < n) : ∃ b o, p = some ⟨b, o, none⟩ := by
  obtain ⟨b, o, e, _⟩ := h.bs.cells.at h0
  exact ⟨b, o, e⟩
theorem Kb.mid {B : Nat} {w : World} {b o n c : Nat} {pre k : List Int} {x : Int} (h : Kb B w (some ⟨b, o, none⟩) n c (pre ++ x :: k)) : w.cell? ⟨b, o + pre.length, none⟩ = some (.int .u8 x) := by
  have hl := h.bs.len
  obtain ⟨b', o', e, h1, _⟩ := h.cellAt pre.length (by rw [← hl]; simp)
  cases e
  rw [h1, getD_mid]

theorem Ext.of {q : Int} {S S' : Store} {t : T} (h : ∀ a, S a ≠ none → S' a = S a) : Ext q S S' t :=
  ⟨fun a d hd _ => by rw [h a (by rw [hd]; simp)]; exact hd, fun a ha => by rw [h a ha]; exact ha⟩
theorem stS_none {S : Store} {a b : Nat} {d : ND} (h : stS S a d b = none) : b ≠ a ∧ S b = none := by
  by_cases e : b = a
  · subst e; rw [stS_same] at h; cases h
  · rw [stS_other _ _ _ _ e] at h; exact ⟨e, h⟩
theorem ptr_one (b : Nat) (t : T) : (fun c => (one b t c).ptr) = updK (fun _ => none) b t.ptr := ptr_upd (fun _ => .nil) b t
theorem rep_one {S : Store} {b : Nat} {t : T} (h : Rep S t) : ∀ c, Rep S (one b t c) := fun c => by
  unfold one
  by_cases e : c = b
  · subst e; rw [updT_same]; exact h
  · rw [updT_other _ _ _ _ e]; trivial
theorem rep_leaf {S : Store} {a : Nat} {q v : Int} {k : List Int} (h : S a = some ⟨q, k, v, true, true, fun _ => none⟩) : Rep S (.node a q k v true true none') := ⟨h, fun _ => trivial⟩

/-- the cells of the box -/
theorem Bx.all {w : World} {b : Nat} {v q : Int} {wb : Nat} (h : Bx w b v q wb) : w.cell? ⟨b, 0, none⟩ = some (.int .u64 v) ∧ w.cell? ⟨b, 1, none⟩ = some (.int .u64 q) ∧ w.cell? ⟨b, 2, none⟩ = some (.pointer (some ⟨wb, 0, none⟩)) := ⟨h.c0, h.c1, h.c2⟩

section
variable {B wb : Nat} {o : Int} {w : World} {S : Store}

theorem Oth.d (w : World) : Oth B wb w w.drew := (Oth.refl B wb w).drewN 1

set_option maxHeartbeats 1600000 in
theorem split_tip (h : Env B wb o w S) (q v : Int) (h0 : q ≠ 0) (hv : 0 ≤ v ∧ v < 18446744073709551616) {id : Nat} {own : Int} {part : List Int} {val : Int} {has : Bool} {kid : Nat → T}
    (hr : Rep S (.node id own part val has true kid)) (hs : (T.node id own part val has true kid).Sep) {pp : Option Addr} {s pc : Nat} (hp : Kb B w pp s pc part) {kp : Option Addr} {n kc : Nat} {c : Nat} {k : List Int} (hk : Kb B w kp n kc (part ++ (c : Int) :: k)) :
    Calls Tryz.prog 82 #[putter v q wb, .pointer (some ⟨id, 0, none⟩), .slice pp s pc, .slice kp n kc, .int .i64 s] w fun e w' => PutS B wb o w w' S q v (part ++ (c : Int) :: k) (.node id own part val has true kid) e := by
  have hc : c < 256 := by have := hk.bs.byte (c : Int) (by simp); omega
  have HR := Lib.hid hr
  have HS := Lib.hid hs
  have HV := Lib.hid hv
  have hps := hp.bs.len
  have hkn := hk.bs.len
  have hkbig := hk.bs.big
  have hsn : s < n := by rw [← hkn, ← hps]; simp
  have ST := Lib.hid (Start.mk' h v q)
  have K1 := Lib.hid (hk.step ST.out.bel)
  obtain ⟨kb, ko, rfl⟩ := hk.some_of (by omega)
  have hcell := K1.out.mid
  obtain ⟨q1, d1, hsl1, hk1⟩ := slice_to hp s s rfl (Nat.le_refl _)
  have hk1' : Kb B w q1 s d1 part := by rw [List.take_of_length_le (by omega)] at hk1; exact hk1
  obtain ⟨q2, d2, hsl2, hk2⟩ := slice_from hk ((s : Int) + 1) (s + 1) (by push_cast; rfl) (by omega)
  have hk2' : Kb B w q2 (n - (s + 1)) d2 k := by rw [← hps, drop_mid, hps] at hk2; exact hk2
  rw [hps] at hcell
  have Q1 := Lib.hid (hk1'.step ST.out.bel)
  have Q2 := Lib.hid (hk2'.step ST.out.bel)
  have PS := Lib.hid hps
  have e1 : ((s : Int) == (s : Int)) = true := by simp
  have e2 : ((s : Int) == (n : Int)) = false := by simp; omega
  have w1q : IntKind.i64.wrap ((s : Int) + 1) = (s : Int) + 1 := IntWalk.i64_in _ (by omega)
  have t0 : (0 : Int) ≤ (s : Int) + 1 := by omega
  have t1 : (s : Int) < (n : Int) := by omega
  have t2 : (0 : Int) ≤ (s : Int) := by omega
  have hx0 := ST.out.bx.all
  clear h hr hs hv hp hk hk1 hk1' hk2 hk2' hps hkn
  have BX := Lib.hid ST.out.bx
  obtain ⟨b0, b1, b2⟩ := hx0
  unfold putter
  go_enter Tryz.func82, Tryz.ntmps82
  go_wp2_with fail
  go_region_held3 (fun W' : World => W'.cell? ⟨w.heap.size, 1, none⟩ = some (.int .u64 q) ∧ W'.cell? ⟨w.heap.size, 2, none⟩ = some (.pointer (some ⟨wb, 0, none⟩)))
    (first
      | exact ⟨b1, b2⟩
      | exact X)
    (first
      | (go_at_call 70
         refine (inner70 (ST.out.env.drewN 1) q (Q1.out.step (below_drewN (Below.refl _ _) 1))).mono ?_
         rintro e w2 ⟨a0, rfl, hn0, hE2, hO2⟩
         have X := (BX.out.oth ((Oth.d _).trans hO2)).all.2))
  have E2 := Lib.hid hE2
  have O2 := Lib.hid ((Oth.d _).trans hO2)
  have N0 := Lib.hid hn0
  have B2 := Lib.hid (BX.out.oth O2.out)
  have hid2 : Hid (stS S a0 ⟨q, part, 0, false, false, fun _ => none⟩ id = some ⟨own, part, val, has, true, fun b => (kid b).ptr⟩) := by
    show _ = _
    rw [stS_other _ _ _ _ (fun e => by subst e; have := HR.out.1; rw [hn0] at this; cases this)]
    exact HR.out.1
  clear hE2 hO2 hn0 X b0 b1 b2
  go_wp2_with fail
  refine (val63 E2.out.sto hid2.out).mono ?_; rintro e w3 ⟨rfl, hw3⟩
  rw [hw3]; clear hw3 w3
  obtain ⟨vv, hvv⟩ : ∃ vv, vv = valOf ⟨own, part, val, has, true, fun b => (kid b).ptr⟩ := ⟨_, rfl⟩
  rw [← hvv]
  have VV : Hid (0 ≤ vv ∧ vv < 18446744073709551616) := by
    show _ ∧ _
    rw [hvv]; unfold valOf
    obtain ⟨FQ, hs⟩ := E2.out.sto
    obtain ⟨p, n, c, kb, hn⟩ := hs.node _ _ hid2.out
    have := hn.val
    by_cases hh : has = true
    · simp only [hh, if_true]; exact this
    · simp [hh]
  clear hvv
  obtain ⟨b0, b1, b2⟩ := B2.out.all
  go_wp2_with fail
  refine (setVal71 E2.out (stS_same _ _ _) q vv h0 rfl VV.out).mono ?_; rintro e w3 ⟨m, rfl, hE3, hO3⟩
  have E3 := Lib.hid hE3
  have O3 := Lib.hid (O2.out.trans hO3)
  clear hE3 hO3 b0 b1 b2
  have B3 := Lib.hid (BX.out.oth O3.out)
  have K3 := Lib.hid (ST.out.env.kb O3.out K1.out)
  have Q3 := Lib.hid (ST.out.env.kb O3.out Q2.out)
  have X3 := And.intro B3.out.all (by rw [← PS.out]; exact K3.out.mid : w3.cell? ⟨kb, ko + s, none⟩ = some (.int .u8 c))
  have KC : Hid (∀ w', Oth B wb w3 w' → (w'.cell? ⟨w.heap.size, 0, none⟩ = some (.int .u64 v) ∧ w'.cell? ⟨w.heap.size, 1, none⟩ = some (.int .u64 q) ∧ w'.cell? ⟨w.heap.size, 2, none⟩ = some (.pointer (some ⟨wb, 0, none⟩))) ∧ w'.cell? ⟨kb, ko + s, none⟩ = some (.int .u8 c)) := fun w' hO' =>
    ⟨(B3.out.oth hO').all, by rw [← PS.out]; exact (E3.out.kb hO' K3.out).mid⟩
  obtain ⟨⟨b0, b1, b2⟩, b3⟩ := X3
  go_wp2_with fail
  go_region_held3 (fun W' : World => W'.cell? ⟨w.heap.size, 0, none⟩ = some (.int .u64 v) ∧ W'.cell? ⟨w.heap.size, 1, none⟩ = some (.int .u64 q) ∧ W'.cell? ⟨w.heap.size, 2, none⟩ = some (.pointer (some ⟨wb, 0, none⟩)) ∧ W'.cell? ⟨kb, ko + s, none⟩ = some (.int .u8 c))
    (first
      | exact ⟨b0, b1, b2, b3⟩
      | exact ⟨X.1.1, X.1.2.1, X.1.2.2, X.2⟩)
    (first
      | (go_at_call 69
         refine (leaf69 (E3.out.drewN 1) q v (Q3.out.step (below_drewN (Below.refl _ _) 1)) HV.out).mono ?_
         rintro e w4 ⟨a2, rfl, hn2, hE4, hO4⟩
         have X := KC.out _ ((Oth.d _).trans hO4))
      | (go_at_call 72
         refine (setKid72 hE4 (d := ⟨q, part, vv, true, false, fun _ => none⟩) (a := a0) (by rw [stS_other _ _ _ _ (fun e => by rw [← e, stS_same] at hn2; cases hn2)]; exact stS_same _ _ _) q h0 rfl rfl c hc a2).mono ?_
         rintro e w5 ⟨m5, rfl, hE5, hO5⟩
         have X := KC.out _ (((Oth.d _).trans hO4).trans hO5)))
  obtain ⟨n1, n2⟩ := stS_none hn2
  obtain ⟨_, n3⟩ := stS_none n2
  have E5 := Lib.hid hE5
  have O5 := Lib.hid (((ST.out.oth.trans O3.out).trans ((Oth.d _).trans hO4)).trans hO5)
  have N1 := Lib.hid n1
  have N3 := Lib.hid n3
  clear hE4 hE5 hO4 hO5 hn2 n1 n2 n3 X b0 b1 b2 b3
  go_wp2_with fail
  go_ret
  have hl : stS (stS (stS (stS S a0 ⟨q, part, 0, false, false, fun _ => none⟩) a0 ⟨q, part, vv, true, false, fun _ => none⟩) a2 ⟨q, k, v, true, true, fun _ => none⟩) a0 ⟨q, part, vv, true, false, updK (fun _ => none) c (some a2)⟩ a2 = some ⟨q, k, v, true, true, fun _ => none⟩ := by
    rw [stS_other _ _ _ _ N1.out, stS_same]
  refine ⟨.node a0 q part vv true false (one c (.node a2 q k v true true none')), _, rfl, E5.out, O5.out, ⟨by rw [stS_same, ptr_one]; rfl, rep_one (rep_leaf hl)⟩, Ext.of (fun a ha => ?_), PutR.tip _ _ _ _ _ _ _ _ _ _ _ _ N0.out N3.out (fun e => N1.out e.symm) rfl⟩
  have h1 : a ≠ a0 := fun e => ha (by rw [e]; exact N0.out)
  have h2 : a ≠ a2 := fun e => ha (by rw [e]; exact N3.out)
  rw [stS_other _ _ _ _ h1, stS_other _ _ _ _ h2, stS_other _ _ _ _ h1, stS_other _ _ _ _ h1]
end

end Go.Proofs.YtbihlmkjoplkoaaGreatDoor
