/-
  For the statement TopOwners: trans: the transient's struct; mine, world, may, Owner; trans: Put; trans: Del; trans: Freeze.
-/
import Derived.Test.YtbihlmkjoplkoaaGreatDoorM44
/-
  trans: the transient's struct; mine, world, may, Owner.
-/
namespace Go.Proofs.YtbihlmkjoplkoaaGreatDoor
open Go.RowKit
set_option linter.unusedVariables false

/-- a transient in block tb -/
def TrB (w : World) (tb v : Nat) (q : Int) (r : Option Addr) (m : Int) (z : Bool) : Prop :=
  w.heap[tb]? = some (.cells #[.pointer (some ⟨v, 0, none⟩), .int .u64 q, .pointer r, .int .i64 m, .bool z] 86 (0, 0))
section
variable {w w' : World} {tb v : Nat} {q : Int} {r : Option Addr} {m : Int} {z : Bool}
theorem TrB.c0 (h : TrB w tb v q r m z) : w.cell? ⟨tb, 0, none⟩ = some (.pointer (some ⟨v, 0, none⟩)) := cell_row h 0
theorem TrB.c1 (h : TrB w tb v q r m z) : w.cell? ⟨tb, 1, none⟩ = some (.int .u64 q) := cell_row h 1
theorem TrB.c2 (h : TrB w tb v q r m z) : w.cell? ⟨tb, 2, none⟩ = some (.pointer r) := cell_row h 2
theorem TrB.c3 (h : TrB w tb v q r m z) : w.cell? ⟨tb, 3, none⟩ = some (.int .i64 m) := cell_row h 3
theorem TrB.c4 (h : TrB w tb v q r m z) : w.cell? ⟨tb, 4, none⟩ = some (.bool z) := cell_row h 4
theorem TrB.free (h : TrB w tb v q r m z) (j : Nat) : w.frozen? ⟨tb, j, none⟩ = false := frozen_of_row _ _ _ _ _ h
theorem TrB.set2 (h : TrB w tb v q r m z) (x : Option Addr) : TrB (w.setCell ⟨tb, 2, none⟩ (.pointer x)) tb v q x m z := heap_setCell_same w tb 2 _ 86 _ h
theorem TrB.set3 (h : TrB w tb v q r m z) (x : Int) : TrB (w.setCell ⟨tb, 3, none⟩ (.int .i64 x)) tb v q r x z := heap_setCell_same w tb 3 _ 86 _ h
theorem TrB.set4 (h : TrB w tb v q r m z) (x : Bool) : TrB (w.setCell ⟨tb, 4, none⟩ (.bool x)) tb v q r m x := heap_setCell_same w tb 4 _ 86 _ h
theorem TrB.gw (h : TrB w tb v q r m z) (k : Gw w w') : TrB w' tb v q r m z := k.heap h
theorem TrB.oth {B wb : Nat} {o : Int} (h : TrB w tb v q r m z) (k : Oth B wb w w') (hw : Wld w wb o) : TrB w' tb v q r m z :=
  k.keep h (by simp [stT]) (fun e => by obtain ⟨x, hx⟩ := hw; rw [TrB, e, hx] at h; cases h)
theorem TrB.lt (h : TrB w tb v q r m z) : tb < w.heap.size := heap_lt h
end

theorem mine32 (p : Option Addr) (q : Int) (w : World) : Calls Tryz.prog 32 #[.agg #[.pointer p, .int .u64 q]] w fun e w' => e = .returned (.int .u64 q) ∧ Gw w w' := by
  have HG : Hid (∀ o, Gw w (w.alloc o)) := fun o => (Gw.refl _).alloc o
  go_enter Tryz.func32, Tryz.ntmps32
  go_wp2_with fail
  go_ret
  exact ⟨rfl, HG.out _⟩

theorem world36 {w : World} {v b : Nat} {r : Option Addr} (h : Ver w v b r) (q : Int) : Calls Tryz.prog 36 #[.agg #[.pointer (some ⟨v, 0, none⟩), .int .u64 q]] w fun e w' => e = .returned (.pointer (some ⟨b, 0, none⟩)) ∧ Gw w w' := by
  have HG : Hid (∀ o, Gw w (w.alloc o)) := fun o => (Gw.refl _).alloc o
  have HV : Hid (∀ o, Calls Tryz.prog 30 #[.pointer (some ⟨v, 0, none⟩)] (w.alloc o) fun e w' => e = .returned (.pointer (some ⟨b, 0, none⟩)) ∧ w' = w.alloc o) := fun o => world30 (h.step ((Gw.refl _).alloc o))
  clear h
  go_enter Tryz.func36, Tryz.ntmps36
  go_wp2_with fail
  refine (HV.out _).mono ?_; rintro e w1 ⟨rfl, rfl⟩
  go_wp2_with fail
  go_ret
  exact ⟨rfl, HG.out _⟩

def mayT (z : Bool) : Int := if z then 11 else 0
theorem may33 {w : World} {tb v : Nat} {q : Int} {r : Option Addr} {m : Int} {z : Bool} (h : TrB w tb v q r m z) : Calls Tryz.prog 33 #[.pointer (some ⟨tb, 0, none⟩)] w fun e w' => e = .returned (.int .i64 (mayT z)) ∧ w' = w := by
  have c0 := h.c0
  have c4 := h.c4
  have h1 := run_eql_pointer_nil (P := Tryz.prog) w 35 (some ⟨tb, 0, none⟩) (by kernel_rfl)
  have h2 := run_eql_pointer_nil (P := Tryz.prog) w 28 (some ⟨v, 0, none⟩) (by kernel_rfl)
  clear h
  cases z with
  | true =>
    go_enter Tryz.func33, Tryz.ntmps33
    go_wp2_with fail
    go_ret
    exact ⟨rfl, rfl⟩
  | false =>
    go_enter Tryz.func33, Tryz.ntmps33
    go_wp2_with fail
    go_ret
    exact ⟨rfl, rfl⟩

theorem owner11 {w : World} {tb v : Nat} {q : Int} {r : Option Addr} {m : Int} {z : Bool} (h : TrB w tb v q r m z) : Calls Tryz.prog 11 #[.pointer (some ⟨tb, 0, none⟩)] w fun e w' => e = .returned (.int .u64 q) ∧ Gw w w' := by
  have c0 := h.c0
  have c1 := h.c1
  have h1 := run_eql_pointer_nil (P := Tryz.prog) w 35 (some ⟨tb, 0, none⟩) (by kernel_rfl)
  have HM : Hid (∀ w, Calls Tryz.prog 32 #[.agg #[.pointer (some ⟨v, 0, none⟩), .int .u64 q]] w fun e w' => e = .returned (.int .u64 q) ∧ Gw w w') := fun w => mine32 _ q w
  clear h
  go_enter Tryz.func11, Tryz.ntmps11
  go_wp2_with fail
  refine (HM.out _).mono ?_; rintro e w1 ⟨rfl, hg⟩
  have HG := Lib.hid hg
  clear hg
  go_wp2_with fail
  go_ret
  exact ⟨rfl, HG.out⟩
end Go.Proofs.YtbihlmkjoplkoaaGreatDoor
/-
  trans: Put.
-/
namespace Go.Proofs.YtbihlmkjoplkoaaGreatDoor
open Go.RowKit
set_option linter.unusedVariables false

/-- all memory is as it was but the store's blocks, the world's struct and the transient -/
structure Ott (B wb tb : Nat) (w w' : World) : Prop where
  os : w'.os = w.os
  tape : w'.tape = w.tape
  output : w'.output = w.output
  size : w.heap.size ≤ w'.heap.size
  low : ∀ j, j < B → w'.heap[j]? = w.heap[j]?
  block : ∀ j, j < w.heap.size → j ≠ wb → j ≠ tb → ¬ IsSt w j → w'.heap[j]? = w.heap[j]?

section
variable {B wb tb : Nat} {o : Int} {a b c w w' : World} {S : Store}
theorem Ott.refl (B wb tb : Nat) (w : World) : Ott B wb tb w w := ⟨rfl, rfl, rfl, Nat.le_refl _, fun _ _ => rfl, fun _ _ _ _ _ => rfl⟩
theorem Ott.oth (h : Oth B wb w w') : Ott B wb tb w w' := ⟨h.os, h.tape, h.output, h.size, h.low, fun j h1 h2 _ h3 => h.block j h1 h2 h3⟩
theorem Ott.trans (h : Ott B wb tb a b) (k : Ott B wb tb b c) : Ott B wb tb a c :=
  ⟨k.os.trans h.os, k.tape.trans h.tape, k.output.trans h.output, Nat.le_trans h.size k.size, fun j hj => (k.low j hj).trans (h.low j hj), fun j hj hw ht hs => by
    have e := h.block j hj hw ht hs
    refine (k.block j (Nat.lt_of_lt_of_le hj h.size) hw ht (fun ⟨cs, t, z, h1, h2⟩ => hs ⟨cs, t, z, ?_, h2⟩)).trans e
    rw [← e]; exact h1⟩
theorem Ott.exc (hB : B ≤ tb) (h : Exc [tb] w w') (hs : B ≤ w.heap.size) : Ott B wb tb w w' :=
  ⟨h.os, h.tape, h.output, h.size, fun j hj => h.block j (Nat.lt_of_lt_of_le hj hs) (by simp; omega), fun j hj _ ht _ => h.block j hj (by simpa using ht)⟩
theorem Ott.keep (h : Ott B wb tb w w') {j : Nat} {cs : Array Value} {t : TypeId} {z : Nat × Nat} (hj : w.heap[j]? = some (.cells cs t z)) (ht : ¬ stT t) (hw : j ≠ wb) (hb : j ≠ tb) : w'.heap[j]? = some (.cells cs t z) :=
  (h.block j (heap_lt hj) hw hb (not_isSt hj ht)).trans hj
theorem Ott.gw {W : World} (h : Ott B wb tb w w') (k : Gw W w) (hB : W.heap.size ≤ B) : Gw W w' :=
  ⟨h.os.trans k.os, h.tape.trans k.tape, h.output.trans k.output, Nat.le_trans k.size h.size, fun j hj => (h.low j (Nat.lt_of_lt_of_le hj hB)).trans (k.block j hj)⟩

/-- a version's block is no transient's -/
theorem Ver.neTr {v b : Nat} {r r' : Option Addr} {v' : Nat} {q m : Int} {z : Bool} (h : Ver w v b r) (k : TrB w tb v' q r' m z) : v ≠ tb := fun e => by
  obtain ⟨d, s, m, n, t, h⟩ := h
  rw [TrB, ← e, h] at k; cases k
theorem Ver.neWld {v b : Nat} {r : Option Addr} (h : Ver w v b r) (k : Wld w wb o) : v ≠ wb := fun e => by
  obtain ⟨d, s, m, n, t, h⟩ := h
  obtain ⟨x, k⟩ := k
  rw [← e, h] at k; cases k
theorem Ver.ott {v b : Nat} {r : Option Addr} (h : Ver w v b r) (k : Ott B wb tb w w') (h1 : v ≠ wb) (h2 : v ≠ tb) : Ver w' v b r := by
  obtain ⟨d, s, m, n, t, h⟩ := h
  exact ⟨d, s, m, n, t, k.keep h (by simp [stT]) h1 h2⟩
theorem Ver.oth {v b : Nat} {r : Option Addr} (h : Ver w v b r) (k : Oth B wb w w') (h1 : Wld w wb o) : Ver w' v b r := by
  have hn := h.neWld h1
  obtain ⟨d, s, m, n, t, h⟩ := h
  exact ⟨d, s, m, n, t, k.keep h (by simp [stT]) hn⟩

theorem TrB.neWld {v : Nat} {r : Option Addr} {q m : Int} {z : Bool} (h : TrB w tb v q r m z) (k : Wld w wb o) : tb ≠ wb := fun e => by
  obtain ⟨x, k⟩ := k
  rw [TrB, e, k] at h; cases h
theorem Env.tr {v : Nat} {r : Option Addr} {q m : Int} {z : Bool} (h : Env B wb o w S) (ht : TrB w tb v q r m z) (hB : B ≤ tb) (k : Exc [tb] w w') : Env B wb o w' S :=
  ⟨h.sto.excOne ht (by simp [stT]) (by decide) hB k, h.wld.same (k.block wb h.wld.lt (by simpa using (ht.neWld h.wld).symm)), h.base⟩

/-- what a put leaves of a transient -/
def TPutS (B wb : Nat) (o : Int) (tb v : Nat) (q : Int) (w w' : World) (S : Store) (k : List Int) (u : Int) (t : T) (e : Ending) : Prop :=
  ∃ t' S' m, e = .returned (.int .i64 0) ∧ Env B wb o w' S' ∧ Ott B wb tb w w' ∧ TrB w' tb v q (pt t'.ptr) m false ∧ Rep S' t' ∧ Ext q S S' t ∧ ((t' = t ∧ Path t k) ∨ PutR q u (newIn S) k t t')

set_option maxHeartbeats 1600000 in
set_option maxRecDepth 100000 in
theorem Put12 (h : Env B wb o w S) {v : Nat} {q : Int} {m : Int} {rv : Option Addr} {t : T} (ht : TrB w tb v q (pt t.ptr) m false) (hB : B ≤ tb) (hv : Ver w v wb rv) (h0 : q ≠ 0) (hr : Rep S t) (hs : t.Sep) {p : Option Addr} {n c : Nat} {k : List Int} (hk : Kb B w p n c k) (hn : n ≤ 65535) (u : Int) (hu : 0 ≤ u ∧ u < 18446744073709551616) :
    Calls Tryz.prog 12 #[.pointer (some ⟨tb, 0, none⟩), .slice p n c, .int .u64 u] w fun e w' => TPutS B wb o tb v q w w' S k u t e := by
  have HM := Lib.hid (may33 ht)
  have HH := Lib.hid (Has34 h.sto hr hk h.size)
  have HE := Lib.hid h
  have HT := Lib.hid ht
  have HV := Lib.hid hv
  have HK := Lib.hid hk
  have HP : Hid (∀ W, Env B wb o W S → Kb B W p n c k → Calls Tryz.prog 35 #[.pointer (pt t.ptr), .slice p n c, .int .u64 u, .int .u64 q, .pointer (some ⟨wb, 0, none⟩)] W fun e w' => ∃ t' S', e = .returned (.tuple #[.pointer (pt t'.ptr), .int .i64 0]) ∧ Put5S B wb o W w' S q u k t t' S') := fun W hE hK => Put35 hE q u h0 hu hr hs hK hn
  have c2 := ht.c2
  clear h ht hv hr hs hk hn hu
  rw [show mayT false = 0 from rfl] at HM
  obtain ⟨tp, htp⟩ : ∃ tp, pt t.ptr = tp := ⟨_, rfl⟩
  rw [htp] at HT HP HH c2
  clear htp
  go_enter Tryz.func12, Tryz.ntmps12
  go_wp2_with fail
  refine HM.out.mono ?_; rintro e w1 ⟨rfl, hw1⟩
  rw [hw1]; clear hw1 w1
  go_wp2_with fail
  refine HH.out.mono ?_; rintro e w1 ⟨there, rfl, hb1, _⟩
  have E1 := Lib.hid (HE.out.below hb1)
  have T1 := Lib.hid (HT.out.gw hb1)
  have V1 := Lib.hid (HV.out.step hb1)
  have K1 := Lib.hid (HK.out.step hb1)
  have O1 := Lib.hid (HE.out.oth hb1)
  clear hb1 c2
  have c0 := T1.out.c0
  have c1 := T1.out.c1
  have c2 := T1.out.c2
  go_wp2_with fail
  go_region_held3 (fun W' : World => W'.cell? ⟨tb, 0, none⟩ = some (.pointer (some ⟨v, 0, none⟩)) ∧ W'.cell? ⟨tb, 1, none⟩ = some (.int .u64 q) ∧ W'.cell? ⟨tb, 2, none⟩ = some (.pointer tp))
    (first
      | exact ⟨c0, c1, c2⟩
      | exact Z
      | exact Y
      | exact X)
    (first
      | (go_at_call 32
         refine (mine32 _ q _).mono ?_
         rintro e w2 ⟨rfl, hg2⟩
         have G2 : Gw w1 w2 := Gw.trans ((Gw.refl w1).drewN 1) hg2
         have t2 := T1.out.gw G2
         have X := And.intro t2.c0 (And.intro t2.c1 t2.c2))
      | (go_at_call 36
         refine (world36 (V1.out.step G2) q).mono ?_
         rintro e w3 ⟨rfl, hg3⟩
         have G3 : Gw w1 w3 := Gw.trans G2 hg3
         have t3 := T1.out.gw G3
         have Y := And.intro t3.c0 (And.intro t3.c1 t3.c2))
      | (go_at_call 25
         refine (meter25 wb _).mono ?_
         rintro e w4 ⟨rfl, rfl⟩)
      | (go_at_call 35
         refine (HP.out _ (E1.out.below G3) (K1.out.step G3)).mono ?_
         rintro e w5 ⟨t', S', rfl, hp1, hp2, hp3, hp4, hp5⟩
         have t5 := (T1.out.gw G3).oth hp2 (E1.out.below G3).wld
         have Z := And.intro t5.c0 (And.intro t5.c1 t5.c2)))
  have E5 := Lib.hid hp1
  have T5 := Lib.hid t5
  have O5 := Lib.hid ((O1.out.trans (E1.out.oth G3)).trans hp2)
  have R5 := Lib.hid (And.intro hp3 (And.intro hp4 hp5))
  clear hp1 hp2 hp3 hp4 hp5 hg2 hg3 G2 G3 t2 t3 t5 X Y Z c0 c1 c2
  have z2 := T5.out.free 2
  have z3 := T5.out.free 3
  have c2 := T5.out.c2
  have c3 := T5.out.c3
  obtain ⟨kp, hkp⟩ : ∃ kp, pt t'.ptr = kp := ⟨_, rfl⟩
  rw [hkp]
  have HKP := Lib.hid hkp
  clear hkp
  cases there with
  | true =>
    go_wp2_with fail
    go_ret
    have x : Exc [tb] w5 (w5.setCell ⟨tb, 2, none⟩ (.pointer kp)) := (Exc.refl _ _).set (p := ⟨tb, 2, none⟩) (by simp) _
    refine ⟨t', S', m, rfl, E5.out.tr T5.out hB x, (Ott.oth O5.out).trans (Ott.exc hB x E5.out.size), ?_, R5.out⟩
    rw [HKP.out]; exact T5.out.set2 kp
  | false =>
    go_wp2_with fail
    go_ret
    have x : Exc [tb] w5 ((w5.setCell ⟨tb, 2, none⟩ (.pointer kp)).setCell ⟨tb, 3, none⟩ (.int .i64 (wrap64 (m + 1)))) := ((Exc.refl _ _).set (p := ⟨tb, 2, none⟩) (by simp) _).set (p := ⟨tb, 3, none⟩) (by simp) _
    refine ⟨t', S', wrap64 (m + 1), rfl, E5.out.tr T5.out hB x, (Ott.oth O5.out).trans (Ott.exc hB x E5.out.size), ?_, R5.out⟩
    rw [HKP.out]; exact (T5.out.set2 kp).set3 _

/-- a frozen one takes nothing -/
theorem Put12_frozen {v : Nat} {q m : Int} {r : Option Addr} (ht : TrB w tb v q r m true) (s u : Value) :
    Calls Tryz.prog 12 #[.pointer (some ⟨tb, 0, none⟩), s, u] w fun e w' => e = .returned (.int .i64 11) ∧ w' = w := by
  have HM := Lib.hid (may33 ht)
  clear ht
  rw [show mayT true = 11 from rfl] at HM
  go_enter Tryz.func12, Tryz.ntmps12
  go_wp2_with fail
  refine HM.out.mono ?_; rintro e w1 ⟨rfl, hw1⟩
  rw [hw1]; clear hw1 w1
  go_wp2_with fail
  go_ret
  exact ⟨rfl, rfl⟩
end
end Go.Proofs.YtbihlmkjoplkoaaGreatDoor
/-
  trans: Del.
-/
namespace Go.Proofs.YtbihlmkjoplkoaaGreatDoor
open Go.RowKit
set_option linter.unusedVariables false

section
variable {B wb tb : Nat} {o : Int} {w w' : World} {S : Store}

/-- what a deletion leaves of a transient -/
def TDelS (B wb : Nat) (o : Int) (tb v : Nat) (q : Int) (w w' : World) (S : Store) (t : T) (e : Ending) : Prop :=
  ∃ t' S' m b, e = .returned (.tuple #[.bool b, .int .i64 0]) ∧ Env B wb o w' S' ∧ Ott B wb tb w w' ∧ TrB w' tb v q (pt t'.ptr) m false ∧ Rep S' t' ∧ Ext q S S' t ∧ (t' = t ∨ DelR q (newIn S) t t')

set_option maxHeartbeats 1600000 in
set_option maxRecDepth 100000 in
theorem Del13 (h : Env B wb o w S) {v : Nat} {q : Int} {m : Int} {rv : Option Addr} {t : T} (ht : TrB w tb v q (pt t.ptr) m false) (hB : B ≤ tb) (hv : Ver w v wb rv) (h0 : q ≠ 0) (hr : Rep S t) (hs : t.Sep) (hf : t.Full) {hd : List Int} (ha : t.All Short hd) {p : Option Addr} {n c : Nat} {k : List Int} (hk : Kb B w p n c k) (hn : n ≤ 65535) :
    Calls Tryz.prog 13 #[.pointer (some ⟨tb, 0, none⟩), .slice p n c] w fun e w' => TDelS B wb o tb v q w w' S t e := by
  have HM := Lib.hid (may33 ht)
  have HE := Lib.hid h
  have HT := Lib.hid ht
  have HV := Lib.hid hv
  have HK := Lib.hid hk
  have HP : Hid (∀ W, Env B wb o W S → Kb B W p n c k → Calls Tryz.prog 37 #[.pointer (pt t.ptr), .slice p n c, .int .u64 q, .pointer (some ⟨wb, 0, none⟩)] W fun e w' => ∃ t' S' b, e = .returned (.tuple #[.pointer (pt t'.ptr), .bool b, .int .i64 0]) ∧ Del5S B wb o W w' S q t t' S') := fun W hE hK => Del37 hE q h0 hr hs hf ha hK hn
  have O0 := Lib.hid (Oth.d (B := B) (wb := wb) w)
  clear h ht hv hr hs hf ha hk hn
  rw [show mayT false = 0 from rfl] at HM
  obtain ⟨tp, htp⟩ : ∃ tp, pt t.ptr = tp := ⟨_, rfl⟩
  rw [htp] at HT HP
  clear htp
  have c0 := HT.out.c0
  have c1 := HT.out.c1
  have c2 := HT.out.c2
  go_enter Tryz.func13, Tryz.ntmps13
  go_wp2_with fail
  refine HM.out.mono ?_; rintro e w1 ⟨rfl, hw1⟩
  rw [hw1]; clear hw1 w1
  go_wp2_with fail
  go_region_held3 (fun W' : World => W'.cell? ⟨tb, 0, none⟩ = some (.pointer (some ⟨v, 0, none⟩)) ∧ W'.cell? ⟨tb, 1, none⟩ = some (.int .u64 q) ∧ W'.cell? ⟨tb, 2, none⟩ = some (.pointer tp))
    (first
      | exact ⟨c0, c1, c2⟩
      | exact Z
      | exact Y
      | exact X)
    (first
      | (go_at_call 32
         refine (mine32 _ q _).mono ?_
         rintro e w2 ⟨rfl, hg2⟩
         have G2 : Gw w w2 := Gw.trans ((Gw.refl w).drewN 1) hg2
         have t2 := HT.out.gw G2
         have X := And.intro t2.c0 (And.intro t2.c1 t2.c2))
      | (go_at_call 36
         refine (world36 (HV.out.step G2) q).mono ?_
         rintro e w3 ⟨rfl, hg3⟩
         have G3 : Gw w w3 := Gw.trans G2 hg3
         have t3 := HT.out.gw G3
         have Y := And.intro t3.c0 (And.intro t3.c1 t3.c2))
      | (go_at_call 25
         refine (meter25 wb _).mono ?_
         rintro e w4 ⟨rfl, rfl⟩)
      | (go_at_call 37
         refine (HP.out _ (HE.out.below G3) (HK.out.step G3)).mono ?_
         rintro e w5 ⟨t', S', was, rfl, hp1, hp2, hp3, hp4, hp5⟩
         have t5 := (HT.out.gw G3).oth hp2 (HE.out.below G3).wld
         have Z := And.intro t5.c0 (And.intro t5.c1 t5.c2)))
  have E5 := Lib.hid hp1
  have T5 := Lib.hid t5
  have O5 := Lib.hid ((HE.out.oth G3).trans hp2)
  have R5 := Lib.hid (And.intro hp3 (And.intro hp4 hp5))
  clear hp1 hp2 hp3 hp4 hp5 hg2 hg3 G2 G3 t2 t3 t5 X Y Z c0 c1 c2
  have z2 := T5.out.free 2
  have z3 := T5.out.free 3
  have c2 := T5.out.c2
  have c3 := T5.out.c3
  obtain ⟨kp, hkp⟩ : ∃ kp, pt t'.ptr = kp := ⟨_, rfl⟩
  rw [hkp]
  have HKP := Lib.hid hkp
  clear hkp
  cases was with
  | false =>
    go_wp2_with fail
    go_ret2
    have x : Exc [tb] w5 (w5.setCell ⟨tb, 2, none⟩ (.pointer kp)) := (Exc.refl _ _).set (p := ⟨tb, 2, none⟩) (by simp) _
    refine ⟨t', S', m, false, rfl, E5.out.tr T5.out hB x, (Ott.oth O5.out).trans (Ott.exc hB x E5.out.size), ?_, R5.out⟩
    rw [HKP.out]; exact T5.out.set2 kp
  | true =>
    go_wp2_with fail
    go_ret2
    have x : Exc [tb] w5 ((w5.setCell ⟨tb, 2, none⟩ (.pointer kp)).setCell ⟨tb, 3, none⟩ (.int .i64 (wrap64 (m - 1)))) := ((Exc.refl _ _).set (p := ⟨tb, 2, none⟩) (by simp) _).set (p := ⟨tb, 3, none⟩) (by simp) _
    refine ⟨t', S', wrap64 (m - 1), true, rfl, E5.out.tr T5.out hB x, (Ott.oth O5.out).trans (Ott.exc hB x E5.out.size), ?_, R5.out⟩
    rw [HKP.out]; exact (T5.out.set2 kp).set3 _
end
end Go.Proofs.YtbihlmkjoplkoaaGreatDoor
/-
  trans: Freeze.
-/
namespace Go.Proofs.YtbihlmkjoplkoaaGreatDoor
open Go.RowKit
set_option linter.unusedVariables false

/-- two pointers to nodes, compared -/
theorem eqlPP {w : World} (x y : Option Nat) (hx : ∀ a, x = some a → Cellsy w a) (hy : ∀ a, y = some a → Cellsy w a) : (binOp .eql 48 (.pointer (pt x)) (.pointer (pt y))).run Tryz.prog w = .ok (.bool (decide (x = y))) w := by
  cases x with
  | some a =>
    have := eqlP a y (hx a rfl) hy
    rw [pt_some, this]
  | none =>
    cases y with
    | none =>
      have h := run_eql_pointer_nil (P := Tryz.prog) w 48 none (by kernel_rfl)
      rw [pt_none, h]; rfl
    | some b => rw [pt_some, pt_none, eql48_left]; simp

theorem Cellsy.drewN {w : World} {n : Nat} (h : Cellsy w n) (z : Nat) : Cellsy (w.drewN z) n := h
theorem Rep.cellsy {B : Nat} {w : World} {S : Store} (hs : Sto B w S) {t : T} (hr : Rep S t) : ∀ a, t.ptr = some a → Cellsy w a := fun a ha => by
  cases t with
  | nil => cases ha
  | node id own part val has leaf kid => cases ha; exact hs.cellsy (by rw [hr.1]; simp)

section
variable {B wb tb : Nat} {o : Int} {w w' : World} {S : Store}

/-- what freezing leaves -/
def FreezeS (B wb : Nat) (o : Int) (tb v : Nat) (q m : Int) (w w' : World) (S : Store) (t tv : T) (e : Ending) : Prop :=
  ∃ x, e = .returned (.tuple #[.pointer (some ⟨x, 0, none⟩), .int .i64 0]) ∧ Env B wb o w' S ∧ Ott B wb tb w w' ∧ TrB w' tb v q (pt t.ptr) m true ∧ Ver w' x wb (pt t.ptr) ∧ Ver w' v wb (pt tv.ptr)

set_option maxHeartbeats 1600000 in
set_option maxRecDepth 100000 in
theorem Freeze14 (h : Env B wb o w S) {v : Nat} {q m : Int} {t tv : T} (ht : TrB w tb v q (pt t.ptr) m false) (hB : B ≤ tb) (hv : Ver w v wb (pt tv.ptr)) (hr : Rep S t) (hrv : Rep S tv) :
    Calls Tryz.prog 14 #[.pointer (some ⟨tb, 0, none⟩)] w fun e w' => FreezeS B wb o tb v q m w w' S t tv e := by
  have HM := Lib.hid (may33 ht)
  rw [show mayT false = 0 from rfl] at HM
  have x : Exc [tb] w (w.setCell ⟨tb, 4, none⟩ (.bool true)) := (Exc.refl _ _).set (p := ⟨tb, 4, none⟩) (by simp) _
  have E1 := Lib.hid (h.tr ht hB x)
  have T1 := Lib.hid (ht.set4 true)
  have O1 : Hid (Ott B wb tb w (w.setCell ⟨tb, 4, none⟩ (.bool true))) := Ott.exc hB x h.size
  have V1 := Lib.hid (hv.ott O1.out (hv.neWld h.wld) (hv.neTr ht))
  have z4 := ht.free 4
  have c4 := ht.c4
  have c0 := ht.c0
  have c2 := ht.c2
  have HE : Hid (∀ n, (binOp .eql 48 (.pointer (pt t.ptr)) (.pointer (pt tv.ptr))).run Tryz.prog ((w.setCell ⟨tb, 4, none⟩ (.bool true)).drewN n) = .ok (.bool (decide (t.ptr = tv.ptr))) ((w.setCell ⟨tb, 4, none⟩ (.bool true)).drewN n)) := fun n =>
    eqlPP _ _ (fun a ha => (hr.cellsy E1.out.sto a ha).drewN n) (fun a ha => (hrv.cellsy E1.out.sto a ha).drewN n)
  have HR : Hid (∀ n, Calls Tryz.prog 16 #[.pointer (some ⟨v, 0, none⟩)] ((w.setCell ⟨tb, 4, none⟩ (.bool true)).drewN n) fun e w' => e = .returned (.pointer (pt tv.ptr)) ∧ w' = (w.setCell ⟨tb, 4, none⟩ (.bool true)).drewN n) := fun n => root16 (V1.out.step (below_drewN (Below.refl _ _) n))
  have HQ : Hid (decide (t.ptr = tv.ptr) = true → pt tv.ptr = pt t.ptr) := fun hd => by rw [(of_decide_eq_true hd)]
  clear h hv hr hrv ht x
  generalize decide (t.ptr = tv.ptr) = r at *
  obtain ⟨tp, htp⟩ : ∃ tp, pt t.ptr = tp := ⟨_, rfl⟩
  obtain ⟨vp, hvp⟩ : ∃ vp, pt tv.ptr = vp := ⟨_, rfl⟩
  rw [htp] at T1 HE HQ c2
  rw [hvp] at V1 HE HR HQ
  have HTP := Lib.hid (And.intro htp hvp)
  clear htp hvp
  have he := HE.out
  go_enter Tryz.func14, Tryz.ntmps14
  go_wp2_with fail
  refine HM.out.mono ?_; rintro e w1 ⟨rfl, hw1⟩
  rw [hw1]; clear hw1 w1
  go_wp2_with fail
  go_quiet ((go_at_call 16; exact Calls.quiet_of_same (HR.out _)))
  cases r with
  | true =>
    go_wp2_with fail
    go_ret2
    refine ⟨v, rfl, E1.out.drewN _, O1.out.trans ((Ott.oth (E1.out.oth (below_drewN (Below.refl _ _) nq)))), ?_, ?_, ?_⟩
    · rw [HTP.out.1]; exact T1.out.gw ((Gw.refl _).drewN nq)
    · rw [HTP.out.1, ← HQ.out trivial]; exact V1.out.step ((Gw.refl _).drewN nq)
    · rw [HTP.out.2]; exact V1.out.step ((Gw.refl _).drewN nq)
  | false =>
    have E2 := Lib.hid (E1.out.drewN nq)
    have O2 := Lib.hid (O1.out.trans (Ott.oth (tb := tb) (E1.out.oth (below_drewN (Below.refl _ _) nq))))
    have T2 := Lib.hid (T1.out.gw ((Gw.refl _).drewN nq))
    have V2 := Lib.hid (V1.out.step ((Gw.refl _).drewN nq))
    obtain ⟨w2, hw2⟩ : ∃ w2, w2 = (w.setCell ⟨tb, 4, none⟩ (.bool true)).drewN nq := ⟨_, rfl⟩
    rw [← hw2] at E2 O2 T2 V2 ⊢
    clear hw2 he c0 c2 c4 z4 HE HR E1 O1 T1 V1
    have c0 := T2.out.c0
    have c1 := T2.out.c1
    have c2 := T2.out.c2
    go_wp2_with fail
    go_region_held3 (fun W' : World => W'.cell? ⟨tb, 0, none⟩ = some (.pointer (some ⟨v, 0, none⟩)) ∧ W'.cell? ⟨tb, 1, none⟩ = some (.int .u64 q) ∧ W'.cell? ⟨tb, 2, none⟩ = some (.pointer tp))
      (first
        | exact ⟨c0, c1, c2⟩
        | exact Y
        | exact X)
      (first
        | (go_at_call 36
           refine (world36 (V2.out.step ((Gw.refl w2).drewN 1)) q).mono ?_
           rintro e w3 ⟨rfl, hg3⟩
           have G3 : Gw w2 w3 := Gw.trans ((Gw.refl w2).drewN 1) hg3
           have t3 := T2.out.gw G3
           have X := And.intro t3.c0 (And.intro t3.c1 t3.c2))
        | (go_at_call 27
           refine (version27 wb tp w3).mono ?_
           rintro e w4 ⟨rfl, hvn, hb4⟩
           have G4 : Gw w2 w4 := Gw.trans G3 hb4
           have t4 := T2.out.gw G4
           have Y := And.intro t4.c0 (And.intro t4.c1 t4.c2)))
    have F : Hid (Env B wb o w4 S ∧ Ott B wb tb w w4 ∧ TrB w4 tb v q tp m true ∧ Ver w4 w3.heap.size wb tp ∧ Ver w4 v wb vp) :=
      ⟨E2.out.below G4, O2.out.trans (Ott.oth (E2.out.oth G4)), t4, hvn.ver, V2.out.step G4⟩
    clear X Y t3 t4 hvn hb4 G3 G4 hg3 c0 c1 c2
    go_wp2_with fail
    go_ret2
    obtain ⟨f1, f2, f3, f4, f5⟩ := F.out
    exact ⟨w3.heap.size, rfl, f1, f2, by rw [HTP.out.1]; exact f3, by rw [HTP.out.1]; exact f4, by rw [HTP.out.2]; exact f5⟩
end
end Go.Proofs.YtbihlmkjoplkoaaGreatDoor
