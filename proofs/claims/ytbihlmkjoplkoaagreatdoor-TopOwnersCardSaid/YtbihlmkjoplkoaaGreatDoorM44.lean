/-
  For the statement TopOwners: canon: shape; canon: Shape; a version's Shape.
-/
import Derived.Test.YtbihlmkjoplkoaaGreatDoorM43
import Derived.Deep.LoopGhost
/-
  canon: shape.
-/
namespace Go.Proofs.YtbihlmkjoplkoaaGreatDoor
open Go.RowKit
set_option linter.unusedVariables false

theorem run_add_str (x y : List UInt8) (A C : ByteArray) (hA : A = ⟨x.toArray⟩) (hC : C = ⟨y.toArray⟩) (hl : x.length + y.length ≤ 1000000) (Z : ByteArray) (hZ : Z = ⟨(x ++ y).toArray⟩) (w : World) : (Op.stringOp .add A C).run Tryz.prog w = .ok (.string Z) w := by
  subst hA hC hZ
  rw [run_string_add_sum]
  · congr 2
  · show x.toArray.size + y.toArray.size ≤ _
    simp; omega

/-- what the shape's walk stands on -/
structure ShEnv (B : Nat) (w0 : World) (S : Store) : Prop where
  sto : Sto B w0 S
  tab : Tab w0
  low : B ≤ w0.heap.size

/-- what shape does -/
def ShapeH (w0 : World) (S : Store) (b : Nat) (t : T) : Prop := ∀ (w : World) (l : List UInt8) (hd : List Int) (id : Nat), t.ptr = some id → Rep S t → t.All Short hd → Gw w0 w → Bu w0.heap.size b l w → l.length + 131200 * t.cnt (fun _ => true) ≤ 140737488355328 →
  Calls Tryz.prog 66 #[.pointer (some ⟨b, 0, none⟩), .pointer (some ⟨id, 0, none⟩)] w fun e w' => e = .returned (.tuple #[]) ∧ Bu w0.heap.size b (l ++ t.txt) w' ∧ Gw w0 w'

section
variable {B : Nat} {w0 w : World} {S : Store} {b : Nat}

theorem gw_of {w0 w w' : World} (h : Gw w0 w) (k : Below w0.heap.size w w') : Gw w0 w' := Below.trans h k

theorem write_to {l : List UInt8} (h : Gw w0 w) (hb : Bu w0.heap.size b l w) (s : List UInt8) (A : ByteArray) (hA : A = ⟨s.toArray⟩) (hl : l.length + s.length ≤ 140737488355328) :
    Calls Tryz.prog 95 #[.pointer (some ⟨b, 0, none⟩), .string A] w fun e w' => (∃ n : Int, e = .returned (.tuple #[.int .i64 n, .nilIface])) ∧ Bu w0.heap.size b (l ++ s) w' ∧ Gw w0 w' := by
  subst hA
  exact (write95 hb s hl h.size).mono fun e w' ⟨h1, h2, h3⟩ => ⟨h1, h2, gw_of h h3⟩

theorem shape_nil {l : List UInt8} (h : Gw w0 w) (hb : Bu w0.heap.size b l w) (hl : l.length + 1 ≤ 140737488355328) :
    Calls Tryz.prog 66 #[.pointer (some ⟨b, 0, none⟩), .pointer none] w fun e w' => e = .returned (.tuple #[]) ∧ Bu w0.heap.size b (l ++ [46]) w' ∧ Gw w0 w' := by
  have HW := Lib.hid (write_to h hb [46] ⟨#[46]⟩ rfl (by simpa using hl))
  clear h hb hl
  go_enter Tryz.func66, Tryz.ntmps66
  go_wp2_with fail
  refine HW.out.mono ?_; rintro e w1 ⟨⟨n, rfl⟩, h1, h2⟩
  have F := Lib.hid (And.intro h1 h2)
  clear h1 h2
  go_wp2_with fail
  try simp only [Exit.inBlock, Exit.then]
  refine bodyPost_ret (results_none rfl _ _ _) rfl ?_
  exact ⟨rfl, F.out⟩

set_option maxHeartbeats 6400000 in
set_option maxRecDepth 100000 in
theorem shape_leafVal (E : ShEnv B w0 S) {id : Nat} {own : Int} {part : List Int} {val : Int} {kid : Nat → T} {hd : List Int} {l : List UInt8} (hr : Rep S (.node id own part val true true kid)) (ha : (T.node id own part val true true kid).All Short hd) (hg : Gw w0 w) (hb : Bu w0.heap.size b l w)
    (hn : l.length + 131200 * (T.node id own part val true true kid).cnt (fun _ => true) ≤ 140737488355328) :
    Calls Tryz.prog 66 #[.pointer (some ⟨b, 0, none⟩), .pointer (some ⟨id, 0, none⟩)] w fun e w' => e = .returned (.tuple #[]) ∧ Bu w0.heap.size b (l ++ (T.node id own part val true true kid).txt) w' ∧ Gw w0 w' := by
  have hlen := txt_length E.sto _ hd (by simp) hr ha
  have hval : 0 ≤ val ∧ val < 18446744073709551616 := by
    obtain ⟨FQ, h⟩ := E.sto
    obtain ⟨p, n, c, kb, hn⟩ := h.node _ _ hr.1
    exact hn.val
  obtain ⟨M, hM⟩ : ∃ M, 131200 * (T.node id own part val true true kid).cnt (fun _ => true) = M := ⟨_, rfl⟩
  rw [hM] at hlen hn
  obtain ⟨kn, hkn⟩ : ∃ kn, kindN ⟨own, part, val, true, true, fun b => (kid b).ptr⟩ = kn := ⟨_, rfl⟩
  have hk1 : kn = 1 := by rw [← hkn]; rfl
  subst hk1
  have KV : Hid (∀ W, Gw w0 W → Calls Tryz.prog 63 #[.pointer (some ⟨id, 0, none⟩)] W fun e w' => e = .returned (.tuple #[.int .u64 val, .bool true]) ∧ w' = W) := fun W g => val63 (E.sto.step g) hr.1
  have KK : Hid (∀ W, Gw w0 W → Calls Tryz.prog 64 #[.pointer (some ⟨id, 0, none⟩)] W fun e w' => e = .returned (.int .i64 1) ∧ w' = W) := fun W g => by
    have := kind64 (E.sto.step g) hr.1
    rw [hkn] at this
    exact this
  have KP : Hid (∀ W, Gw w0 W → Calls Tryz.prog 58 #[.pointer (some ⟨id, 0, none⟩)] W fun e w' => PartR B W w' part e) := fun W g => part58 (E.sto.step g) hr.1
  have hp : part.length ≤ 65536 := ha.1
  have KT : Hid (∀ W p c, Kb B W p part.length c part → Calls Tryz.prog 97 #[.slice p part.length c] W fun e w' => e = .returned (.string (textS part)) ∧ Gw W w') := fun W p c k => text97 p part.length c part W k.bs hp
  obtain ⟨AP, hAP⟩ : ∃ AP, textS part = AP := ⟨_, rfl⟩
  rw [hAP] at KT
  have HAP : Hid (AP = ⟨(textL part).toArray⟩) := hAP.symm
  obtain ⟨PL, hPL⟩ : ∃ PL, part.length = PL := ⟨_, rfl⟩
  have HPL := Lib.hid hPL
  obtain ⟨TX, hTX⟩ : ∃ TX, (T.node id own part val true true kid).txt = TX := ⟨_, rfl⟩
  rw [hTX] at hlen ⊢
  have HTX : Hid (TX = [76] ++ textL part ++ 61 :: Lib.decDigits val.toNat) := by
    show _ = _
    rw [← hTX]; simp [T.txt, headTxt, valTxt]
  have HLEN := Lib.hid hlen
  have HN := Lib.hid hn
  have HB := Lib.hid hb
  have HG := Lib.hid hg
  have HPS := Lib.hid hp
  obtain ⟨u, hu⟩ : ∃ u : Nat, val = (u : Int) := ⟨val.toNat, by omega⟩
  obtain ⟨AV, hAV⟩ : ∃ AV : ByteArray, AV = ⟨(Lib.decDigits u).toArray⟩ := ⟨_, rfl⟩
  have KF : Hid (∀ W, Gw w0 W → Calls Tryz.prog 98 #[.int .u64 val, .int .i64 10] W fun e w' => e = .returned (.string AV) ∧ Gw W w') := fun W g => by rw [hAV, hu]; exact formatUint98 u (by omega) W (E.tab.gw g)
  obtain ⟨AV2, hAV2⟩ : ∃ AV2 : ByteArray, AV2 = ⟨(61 :: Lib.decDigits val.toNat).toArray⟩ := ⟨_, rfl⟩
  have hadd2 : ∀ w, (Op.stringOp .add ⟨#[61]⟩ AV).run Tryz.prog w = .ok (.string AV2) w := fun w =>
    run_add_str [61] (Lib.decDigits u) _ _ rfl hAV (by have := nDigits_le u (by omega); rw [Lib.decDigits_length]; simp; omega) _ (by rw [hAV2, hu]; simp) w
  have HAV2 := Lib.hid hAV2
  clear hAV hAV2 hu
  clear hlen hval hn hb hg hp hAP hPL hTX hkn hM hr ha
  go_enter Tryz.func66, Tryz.ntmps66
  go_wp2_with fail
  refine (KV.out _ HG.out).mono ?_; rintro e w1 ⟨rfl, hw1⟩
  rw [hw1]; clear hw1 w1
  go_wp2_with fail
  refine (KK.out _ HG.out).mono ?_; rintro e w1 ⟨rfl, hw1⟩
  rw [hw1]; clear hw1 w1
  go_wp2_with fail
  refine (write_to HG.out HB.out [76] ⟨#[76]⟩ rfl (by have h1 := HLEN.out; have h2 := HN.out; rw [HTX.out] at h1; simp only [List.length_append, List.length_cons, List.length_nil] at h1 ⊢; omega)).mono ?_
  rintro e w1 ⟨⟨n1, rfl⟩, h1, h2⟩
  have U1 := Lib.hid h1
  have G1 := Lib.hid h2
  clear h1 h2
  go_wp2_with fail
  refine (KP.out _ G1.out).mono ?_; rintro e w2 ⟨p, c, rfl, hk, hbel⟩
  have G2 := Lib.hid (G1.out.trans hbel)
  have U2 := Lib.hid (U1.out.step hbel)
  have HT := Lib.hid (KT.out w2 p c hk)
  rw [HPL.out] at HT ⊢
  clear hk hbel
  go_wp2_with fail
  refine HT.out.mono ?_; rintro e w3 ⟨rfl, hbel⟩
  have G3 := Lib.hid (G2.out.trans hbel)
  have U3 := Lib.hid (U2.out.step hbel)
  clear hbel HT
  go_wp2_with fail
  refine (write_to G3.out U3.out (textL part) AP HAP.out (by have h1 := HLEN.out; have h2 := HN.out; rw [HTX.out] at h1; simp only [List.length_append, List.length_cons, List.length_nil] at h1 ⊢; omega)).mono ?_
  rintro e w4 ⟨⟨n4, rfl⟩, h1, h2⟩
  have U4 := Lib.hid h1
  have G4 := Lib.hid h2
  clear h1 h2
  go_wp2_with fail
  refine (KF.out _ G4.out).mono ?_; rintro e w5 ⟨rfl, hg5⟩
  have G5 := Lib.hid (G4.out.trans hg5)
  have U5 := Lib.hid (U4.out.step hg5)
  clear hg5
  go_wp2_with fail
  refine (write_to G5.out U5.out (61 :: Lib.decDigits val.toNat) AV2 HAV2.out (by have h1 := HLEN.out; have h2 := HN.out; rw [HTX.out] at h1; simp only [List.length_append, List.length_cons, List.length_nil] at h1 ⊢; omega)).mono ?_
  rintro e w6 ⟨⟨n6, rfl⟩, h1, h2⟩
  have U6 := Lib.hid h1
  have G6 := Lib.hid h2
  clear h1 h2 hadd2
  go_wp2_with fail
  refine (KK.out _ G6.out).mono ?_; rintro e w1 ⟨rfl, hw1⟩
  rw [hw1]; clear hw1 w1
  go_wp2_with fail
  try simp only [Exit.inBlock, Exit.then]
  refine bodyPost_ret (results_none rfl _ _ _) rfl ?_
  refine ⟨rfl, ?_, G6.out⟩
  have := U6.out
  rw [HTX.out]
  simpa using this

set_option maxHeartbeats 6400000 in
set_option maxRecDepth 100000 in
theorem shape_leafNo (E : ShEnv B w0 S) {id : Nat} {own : Int} {part : List Int} {val : Int} {kid : Nat → T} {hd : List Int} {l : List UInt8} (hr : Rep S (.node id own part val false true kid)) (ha : (T.node id own part val false true kid).All Short hd) (hg : Gw w0 w) (hb : Bu w0.heap.size b l w)
    (hn : l.length + 131200 * (T.node id own part val false true kid).cnt (fun _ => true) ≤ 140737488355328) :
    Calls Tryz.prog 66 #[.pointer (some ⟨b, 0, none⟩), .pointer (some ⟨id, 0, none⟩)] w fun e w' => e = .returned (.tuple #[]) ∧ Bu w0.heap.size b (l ++ (T.node id own part val false true kid).txt) w' ∧ Gw w0 w' := by
  have hlen := txt_length E.sto _ hd (by simp) hr ha
  have hval : 0 ≤ val ∧ val < 18446744073709551616 := by
    obtain ⟨FQ, h⟩ := E.sto
    obtain ⟨p, n, c, kb, hn⟩ := h.node _ _ hr.1
    exact hn.val
  obtain ⟨M, hM⟩ : ∃ M, 131200 * (T.node id own part val false true kid).cnt (fun _ => true) = M := ⟨_, rfl⟩
  rw [hM] at hlen hn
  obtain ⟨kn, hkn⟩ : ∃ kn, kindN ⟨own, part, val, false, true, fun b => (kid b).ptr⟩ = kn := ⟨_, rfl⟩
  have hk1 : kn = 1 := by rw [← hkn]; rfl
  subst hk1
  have KV : Hid (∀ W, Gw w0 W → Calls Tryz.prog 63 #[.pointer (some ⟨id, 0, none⟩)] W fun e w' => e = .returned (.tuple #[.int .u64 0, .bool false]) ∧ w' = W) := fun W g => val63 (E.sto.step g) hr.1
  have KK : Hid (∀ W, Gw w0 W → Calls Tryz.prog 64 #[.pointer (some ⟨id, 0, none⟩)] W fun e w' => e = .returned (.int .i64 1) ∧ w' = W) := fun W g => by
    have := kind64 (E.sto.step g) hr.1
    rw [hkn] at this
    exact this
  have KP : Hid (∀ W, Gw w0 W → Calls Tryz.prog 58 #[.pointer (some ⟨id, 0, none⟩)] W fun e w' => PartR B W w' part e) := fun W g => part58 (E.sto.step g) hr.1
  have hp : part.length ≤ 65536 := ha.1
  have KT : Hid (∀ W p c, Kb B W p part.length c part → Calls Tryz.prog 97 #[.slice p part.length c] W fun e w' => e = .returned (.string (textS part)) ∧ Gw W w') := fun W p c k => text97 p part.length c part W k.bs hp
  obtain ⟨AP, hAP⟩ : ∃ AP, textS part = AP := ⟨_, rfl⟩
  rw [hAP] at KT
  have HAP : Hid (AP = ⟨(textL part).toArray⟩) := hAP.symm
  obtain ⟨PL, hPL⟩ : ∃ PL, part.length = PL := ⟨_, rfl⟩
  have HPL := Lib.hid hPL
  obtain ⟨TX, hTX⟩ : ∃ TX, (T.node id own part val false true kid).txt = TX := ⟨_, rfl⟩
  rw [hTX] at hlen ⊢
  have HTX : Hid (TX = [76] ++ textL part) := by
    show _ = _
    rw [← hTX]; simp [T.txt, headTxt, valTxt]
  have HLEN := Lib.hid hlen
  have HN := Lib.hid hn
  have HB := Lib.hid hb
  have HG := Lib.hid hg
  have HPS := Lib.hid hp
  clear hlen hval hn hb hg hp hAP hPL hTX hkn hM hr ha
  go_enter Tryz.func66, Tryz.ntmps66
  go_wp2_with fail
  refine (KV.out _ HG.out).mono ?_; rintro e w1 ⟨rfl, hw1⟩
  rw [hw1]; clear hw1 w1
  go_wp2_with fail
  refine (KK.out _ HG.out).mono ?_; rintro e w1 ⟨rfl, hw1⟩
  rw [hw1]; clear hw1 w1
  go_wp2_with fail
  refine (write_to HG.out HB.out [76] ⟨#[76]⟩ rfl (by have h1 := HLEN.out; have h2 := HN.out; rw [HTX.out] at h1; simp only [List.length_append, List.length_cons, List.length_nil] at h1 ⊢; omega)).mono ?_
  rintro e w1 ⟨⟨n1, rfl⟩, h1, h2⟩
  have U1 := Lib.hid h1
  have G1 := Lib.hid h2
  clear h1 h2
  go_wp2_with fail
  refine (KP.out _ G1.out).mono ?_; rintro e w2 ⟨p, c, rfl, hk, hbel⟩
  have G2 := Lib.hid (G1.out.trans hbel)
  have U2 := Lib.hid (U1.out.step hbel)
  have HT := Lib.hid (KT.out w2 p c hk)
  rw [HPL.out] at HT ⊢
  clear hk hbel
  go_wp2_with fail
  refine HT.out.mono ?_; rintro e w3 ⟨rfl, hbel⟩
  have G3 := Lib.hid (G2.out.trans hbel)
  have U3 := Lib.hid (U2.out.step hbel)
  clear hbel HT
  go_wp2_with fail
  refine (write_to G3.out U3.out (textL part) AP HAP.out (by have h1 := HLEN.out; have h2 := HN.out; rw [HTX.out] at h1; simp only [List.length_append, List.length_cons, List.length_nil] at h1 ⊢; omega)).mono ?_
  rintro e w4 ⟨⟨n4, rfl⟩, h1, h2⟩
  have U4 := Lib.hid h1
  have G4 := Lib.hid h2
  clear h1 h2
  go_wp2_with fail
  refine (KK.out _ G4.out).mono ?_; rintro e w1 ⟨rfl, hw1⟩
  rw [hw1]; clear hw1 w1
  go_wp2_with fail
  try simp only [Exit.inBlock, Exit.then]
  refine bodyPost_ret (results_none rfl _ _ _) rfl ?_
  refine ⟨rfl, ?_, G4.out⟩
  have := U4.out
  rw [HTX.out]
  simpa using this

set_option maxHeartbeats 6400000 in
set_option maxRecDepth 100000 in
theorem shape_innerVal (E : ShEnv B w0 S) {id : Nat} {own : Int} {part : List Int} {val : Int} {kid : Nat → T} {hd : List Int} {l : List UInt8} (hr : Rep S (.node id own part val true false kid)) (ha : (T.node id own part val true false kid).All Short hd) (hg : Gw w0 w) (hb : Bu w0.heap.size b l w)
    (hn : l.length + 131200 * (T.node id own part val true false kid).cnt (fun _ => true) ≤ 140737488355328) (ih : ∀ c, ShapeH w0 S b (kid c)) :
    Calls Tryz.prog 66 #[.pointer (some ⟨b, 0, none⟩), .pointer (some ⟨id, 0, none⟩)] w fun e w' => e = .returned (.tuple #[]) ∧ Bu w0.heap.size b (l ++ (T.node id own part val true false kid).txt) w' ∧ Gw w0 w' := by
  have hlen := txt_length E.sto _ hd (by simp) hr ha
  have hval : 0 ≤ val ∧ val < 18446744073709551616 := by
    obtain ⟨FQ, h⟩ := E.sto
    obtain ⟨p, n, c, kb, hn⟩ := h.node _ _ hr.1
    exact hn.val
  obtain ⟨M, hM⟩ : ∃ M, 131200 * (T.node id own part val true false kid).cnt (fun _ => true) = M := ⟨_, rfl⟩
  rw [hM] at hlen hn
  obtain ⟨kn, hkn⟩ : ∃ kn, kindN ⟨own, part, val, true, false, fun b => (kid b).ptr⟩ = kn := ⟨_, rfl⟩
  have hk0 : kn = kindOf (kcnt fun b => (kid b).ptr) := by rw [← hkn]; rfl
  have hk1 : ((kn : Int) == 1) = false := by
    have : kn ≠ 1 := by rw [hk0]; unfold kindOf; repeat' split
                        all_goals omega
    simp; omega
  have hk2 : kn ≤ 256 := by rw [hk0]; exact kindOf_le _
  obtain ⟨HT0, hHT⟩ : ∃ HT0, HT0 = Lib.decDigits kn ++ [60] := ⟨_, rfl⟩
  obtain ⟨gs, hgs⟩ : ∃ gs : Nat → List UInt8, (fun b => kidPart (kid b).ptr b (T.txt (kid b))) = gs := ⟨_, rfl⟩
  obtain ⟨VT, hVT⟩ : ∃ VT, VT = 61 :: Lib.decDigits val.toNat := ⟨_, rfl⟩
  obtain ⟨LV, hLV⟩ : ∃ LV, LV = VT.length := ⟨_, rfl⟩
  have hLV2 : LV ≤ 21 := by
    have := nDigits_le val.toNat (by omega)
    rw [hLV, hVT]; simp [Lib.decDigits_length]; omega
  have KV : Hid (∀ W, Gw w0 W → Calls Tryz.prog 63 #[.pointer (some ⟨id, 0, none⟩)] W fun e w' => e = .returned (.tuple #[.int .u64 val, .bool true]) ∧ w' = W) := fun W g => val63 (E.sto.step g) hr.1
  have KK : Hid (∀ W, Gw w0 W → Calls Tryz.prog 64 #[.pointer (some ⟨id, 0, none⟩)] W fun e w' => e = .returned (.int .i64 kn) ∧ w' = W) := fun W g => by
    have := kind64 (E.sto.step g) hr.1
    rw [hkn] at this
    exact this
  have KP : Hid (∀ W, Gw w0 W → Calls Tryz.prog 58 #[.pointer (some ⟨id, 0, none⟩)] W fun e w' => PartR B W w' part e) := fun W g => part58 (E.sto.step g) hr.1
  have hp : part.length ≤ 65536 := ha.1
  have KT : Hid (∀ W p c, Kb B W p part.length c part → Calls Tryz.prog 97 #[.slice p part.length c] W fun e w' => e = .returned (.string (textS part)) ∧ Gw W w') := fun W p c k => text97 p part.length c part W k.bs hp
  obtain ⟨AP, hAP⟩ : ∃ AP, textS part = AP := ⟨_, rfl⟩
  rw [hAP] at KT
  have HAP : Hid (AP = ⟨(textL part).toArray⟩) := hAP.symm
  obtain ⟨PL, hPL⟩ : ∃ PL, part.length = PL := ⟨_, rfl⟩
  have HPL := Lib.hid hPL
  obtain ⟨TX, hTX⟩ : ∃ TX, (T.node id own part val true false kid).txt = TX := ⟨_, rfl⟩
  rw [hTX] at hlen ⊢
  have HTX : Hid (TX = HT0 ++ textL part ++ VT ++ (catTo gs 256 ++ [62])) := by
    show _ = _
    rw [← hTX]; simp [T.txt, headTxt, valTxt, hHT, hVT, hk0, ← hgs]
  have HLEN := Lib.hid hlen
  have HN := Lib.hid hn
  have HB := Lib.hid hb
  have HG := Lib.hid hg
  have HPS := Lib.hid hp
  obtain ⟨u, hu⟩ : ∃ u : Nat, val = (u : Int) := ⟨val.toNat, by omega⟩
  obtain ⟨AV, hAV⟩ : ∃ AV : ByteArray, AV = ⟨(Lib.decDigits u).toArray⟩ := ⟨_, rfl⟩
  have KF : Hid (∀ W, Gw w0 W → Calls Tryz.prog 98 #[.int .u64 val, .int .i64 10] W fun e w' => e = .returned (.string AV) ∧ Gw W w') := fun W g => by rw [hAV, hu]; exact formatUint98 u (by omega) W (E.tab.gw g)
  obtain ⟨AV2, hAV2⟩ : ∃ AV2 : ByteArray, AV2 = ⟨VT.toArray⟩ := ⟨_, rfl⟩
  have hadd2 : ∀ w, (Op.stringOp .add ⟨#[61]⟩ AV).run Tryz.prog w = .ok (.string AV2) w := fun w =>
    run_add_str [61] (Lib.decDigits u) _ _ rfl hAV (by have := nDigits_le u (by omega); rw [Lib.decDigits_length]; simp; omega) _ (by rw [hAV2, hVT, hu]; simp) w
  have HAV2 := Lib.hid hAV2
  clear hAV hAV2 hu
  have K61 : Hid (∀ W (s : Nat), Gw w0 W → Calls Tryz.prog 61 #[.pointer (some ⟨id, 0, none⟩), .int .i64 s] W fun e W' => ∃ r, NextK (fun b => (kid b).ptr) s r ∧ e = .returned (.tuple #[.int .u8 r.1, .pointer (pt r.2)]) ∧ Gw W W') := fun W s g =>
    (next61 (E.sto.step g) hr.1 s).mono fun e w'' ⟨r, h1, h2, z, h3⟩ => by
      subst h3
      exact ⟨r, h1, h2, (Gw.refl _).drewN z⟩
  have KI : Hid (∀ W, Gw w0 W → Calls Tryz.prog 96 #[.int .i64 kn] W fun e w' => Says W w' (Lib.decDigits kn) e) := fun W g => itoa96 kn (by omega) W (E.tab.gw g)
  obtain ⟨AK, hAK⟩ : ∃ AK : ByteArray, AK = ⟨(Lib.decDigits kn).toArray⟩ := ⟨_, rfl⟩
  have HKI : Hid (∀ W, Gw w0 W → Calls Tryz.prog 96 #[.int .i64 kn] W fun e w' => e = .returned (.string AK) ∧ Gw W w') := fun W g => by rw [hAK]; exact KI.out W g
  obtain ⟨AK2, hAK2⟩ : ∃ AK2 : ByteArray, AK2 = ⟨HT0.toArray⟩ := ⟨_, rfl⟩
  have hadd1 : ∀ w, (Op.stringOp .add AK ⟨#[60]⟩).run Tryz.prog w = .ok (.string AK2) w := fun w =>
    run_add_str (Lib.decDigits kn) [60] _ _ hAK rfl (by have := nDigits_le kn (by omega); rw [Lib.decDigits_length]; simp; omega) _ (by rw [hAK2, hHT]) w
  have HAK2 := Lib.hid hAK2
  have HTL : Hid (HT0.length + (textL part).length + VT.length + 4 ≤ 131200) := by
    show _ ≤ _
    have h1 := head_length kn hk2 false
    have h2 := length_textL part
    rw [hHT]
    simp only [headTxt, Bool.false_eq_true, if_false] at h1
    have h3 := hLV2
    rw [hLV] at h3
    omega
  have HMM : Hid (M = 131200 * (1 + sumTo (fun b => (kid b).cnt fun _ => true) 256)) := by show _ = _; rw [← hM]; simp only [T.cnt, if_pos]
  have GL : Hid (∀ d, (gs d).length ≤ 131200 * (kid d).cnt fun _ => true) := fun d => by
    rw [← congrFun hgs d]
    show (kidPart (kid d).ptr d (kid d).txt).length ≤ _
    cases hkd : kid d with
    | nil => simp [T.ptr, kidPart]
    | node i2 o2 p2 v2 h2 l2 k2 =>
      have := txt_length E.sto (kid d) _ (by rw [hkd]; simp) (hr.2 d) (ha.2 d)
      rw [hkd] at this
      simp only [T.ptr, kidPart, List.length_append, kidHead_length]
      omega
  have HGS := Lib.hid hgs
  have IH := Lib.hid ih
  have RK := Lib.hid hr.2
  have HAK := Lib.hid ha.2
  clear KI hHT hAK hAK2 hgs hLV hLV2
  clear hlen hval hn hb hg hp hAP hPL hTX hkn hM hk0 hk2 hr ha ih hVT
  go_enter Tryz.func66, Tryz.ntmps66
  go_wp2_with fail
  refine (KV.out _ HG.out).mono ?_; rintro e w1 ⟨rfl, hw1⟩
  rw [hw1]; clear hw1 w1
  go_wp2_with fail
  refine (KK.out _ HG.out).mono ?_; rintro e w1 ⟨rfl, hw1⟩
  rw [hw1]; clear hw1 w1
  go_wp2_with fail
  refine (KK.out _ HG.out).mono ?_; rintro e w1 ⟨rfl, hw1⟩
  rw [hw1]; clear hw1 w1
  go_wp2_with fail
  refine (HKI.out _ HG.out).mono ?_; rintro e w1 ⟨rfl, hg1⟩
  have G0 := Lib.hid (HG.out.trans hg1)
  have U0 := Lib.hid (HB.out.step hg1)
  clear hg1
  go_wp2_with fail
  refine (write_to G0.out U0.out HT0 AK2 HAK2.out (by have h1 := HLEN.out; have h2 := HN.out; rw [HTX.out] at h1; simp only [List.length_append] at h1 ⊢; omega)).mono ?_
  clear hadd1
  rintro e w1 ⟨⟨n1, rfl⟩, h1, h2⟩
  have U1 := Lib.hid h1
  have G1 := Lib.hid h2
  clear h1 h2
  go_wp2_with fail
  refine (KP.out _ G1.out).mono ?_; rintro e w2 ⟨p, c, rfl, hk, hbel⟩
  have G2 := Lib.hid (G1.out.trans hbel)
  have U2 := Lib.hid (U1.out.step hbel)
  have HT := Lib.hid (KT.out w2 p c hk)
  rw [HPL.out] at HT ⊢
  clear hk hbel
  go_wp2_with fail
  refine HT.out.mono ?_; rintro e w3 ⟨rfl, hbel⟩
  have G3 := Lib.hid (G2.out.trans hbel)
  have U3 := Lib.hid (U2.out.step hbel)
  clear hbel HT
  go_wp2_with fail
  refine (write_to G3.out U3.out (textL part) AP HAP.out (by have h1 := HLEN.out; have h2 := HN.out; rw [HTX.out] at h1; simp only [List.length_append, List.length_cons, List.length_nil] at h1 ⊢; omega)).mono ?_
  rintro e w4 ⟨⟨n4, rfl⟩, h1, h2⟩
  have U4 := Lib.hid h1
  have G4 := Lib.hid h2
  clear h1 h2
  go_wp2_with fail
  refine (KF.out _ G4.out).mono ?_; rintro e w5 ⟨rfl, hg5⟩
  have G5 := Lib.hid (G4.out.trans hg5)
  have U5 := Lib.hid (U4.out.step hg5)
  clear hg5
  go_wp2_with fail
  refine (write_to G5.out U5.out VT AV2 HAV2.out (by have h1 := HLEN.out; have h2 := HN.out; rw [HTX.out] at h1; simp only [List.length_append, List.length_cons, List.length_nil] at h1 ⊢; omega)).mono ?_
  rintro e w6 ⟨⟨n6, rfl⟩, h1, h2⟩
  have U6 := Lib.hid h1
  have G6 := Lib.hid h2
  clear h1 h2 hadd2
  go_wp2_with fail
  refine (KK.out _ G6.out).mono ?_; rintro e w1 ⟨rfl, hw1⟩
  rw [hw1]; clear hw1 w1
  go_wp2_with fail
  refine (K61.out _ 0 G6.out).mono ?_; rintro e w7 ⟨r, hnk, rfl, hg7⟩
  have NK := Lib.hid hnk
  have G7 := Lib.hid (G6.out.trans hg7)
  have U7 := Lib.hid (U6.out.step hg7)
  obtain ⟨pr, hpr⟩ : ∃ pr, pt r.2 = pr := ⟨_, rfl⟩
  obtain ⟨rb', hrb⟩ : ∃ rb' : Int, ((r.1 : Nat) : Int) = rb' := ⟨_, rfl⟩
  rw [hpr, hrb]
  have HPR := Lib.hid (And.intro hpr hrb)
  clear hpr hrb hnk hg7
  go_wp2_with fail
  go_loopg [6, 7] 257 (fun gk x q wr => ∃ (s : Nat) (r : Nat × Option Nat), gk = 257 - s ∧ s ≤ 256 ∧ x = .int .u8 r.1 ∧ q = .pointer (pt r.2) ∧ Hid (NextK (fun b => (kid b).ptr) s r) ∧ Hid (Gw w0 wr) ∧ Hid (Bu w0.heap.size b (l ++ HT0 ++ textL part ++ VT ++ catTo gs s) wr))
  case atStart => exact ⟨0, r, by omega, by omega, by rw [HPR.out.2], by rw [HPR.out.1], NK.out, G7.out, by show Bu _ _ _ _; have := U7.out; simpa [catTo] using this⟩
  case round =>
    obtain ⟨s, ⟨c, a⟩, hgk, hs, rfl, rfl, hnk, hgw, hbu⟩ := hrel
    have HGK := Lib.hid hgk
    have HS2 := Lib.hid hs
    clear hgk hs
    simp only
    cases a with
    | none =>
      have he := Lib.hid (next_end hnk.out)
      have HCS : Hid (catTo gs 256 = catTo gs s) := by
        refine catTo_skip s 256 HS2.out fun d h1 h2 => ?_
        rw [← congrFun HGS.out d, he.out d h1 h2]; rfl
      simp only [pt]
      go_wp2_with fail
      refine (write_to hgw.out hbu.out [62] ⟨#[62]⟩ rfl (by have h1 := HLEN.out; have h2 := HN.out; rw [HTX.out, HCS.out] at h1; simp only [List.length_append, List.length_cons, List.length_nil] at h1 ⊢; omega)).mono ?_
      rintro e w9 ⟨⟨n9, rfl⟩, h1, h2⟩
      have F := Lib.hid (And.intro h1 h2)
      clear h1 h2
      go_wp2_with fail
      go_end0
      refine ⟨rfl, ?_, F.out.2⟩
      have := F.out.1
      rw [HTX.out, HCS.out]
      simpa using this
    | some a =>
      obtain ⟨hc, hsc, hka, hz⟩ := next_step hnk.out
      have HC1 := Lib.hid (show c < 256 ∧ s ≤ c from ⟨hc, hsc⟩)
      have HKA := Lib.hid hka
      have HCS : Hid (catTo gs (c + 1) = catTo gs s ++ (kidHead c ++ (kid c).txt)) := by
        show _ = _
        simp only [catTo]
        rw [catTo_skip s c hsc (fun d h1 h2 => by rw [← congrFun HGS.out d, hz d h1 h2]; rfl), ← congrFun HGS.out c, hka]
        rfl
      have HCL : Hid (l.length + HT0.length + (textL part).length + VT.length + (catTo gs s).length + 3 + 131200 * (kid c).cnt (fun _ => true) ≤ 140737488355328) := by
        show _ ≤ _
        have h1 : (catTo gs s).length ≤ 131200 * sumTo (fun b => (kid b).cnt fun _ => true) s := catTo_length s (fun d _ => GL.out d)
        have h2 := sumTo_mono (fun b => (kid b).cnt fun _ => true) 256 (show c + 1 ≤ 256 by omega)
        have h3 := sumTo_mono (fun b => (kid b).cnt fun _ => true) c hsc
        have h4 : sumTo (fun b => (kid b).cnt fun _ => true) (c + 1) = sumTo (fun b => (kid b).cnt fun _ => true) c + (kid c).cnt fun _ => true := rfl
        have h5 := HN.out
        have h6 := HMM.out
        have h7 := HTL.out
        omega
      have hn := run_neq_pointer_nil (P := Tryz.prog) wr 48 (some ⟨a, 0, none⟩) (by kernel_rfl)
      obtain ⟨AB, hAB⟩ : ∃ AB, textS [(c : Int)] = AB := ⟨_, rfl⟩
      have HKT : Hid (∀ W, Bs W (some ⟨wr.heap.size, 0, none⟩) 1 1 [(c : Int)] → Calls Tryz.prog 97 #[.slice (some ⟨wr.heap.size, 0, none⟩) 1 1] W fun e w' => e = .returned (.string AB) ∧ Gw W w') := fun W k => by rw [← hAB]; exact text97 _ 1 1 _ W k (by omega)
      obtain ⟨AB2, hAB2⟩ : ∃ AB2 : ByteArray, AB2 = ⟨(kidHead c).toArray⟩ := ⟨_, rfl⟩
      have hadd3 : ∀ w, (Op.stringOp .add ⟨#[58]⟩ AB).run Tryz.prog w = .ok (.string AB2) w := fun w =>
        run_add_str [58] (textL [(c : Int)]) _ _ rfl hAB.symm (by rw [length_textL]; simp) _ (by rw [hAB2]; rfl) w
      have HAB2 := Lib.hid hAB2
      have HBS := Lib.hid (Bs.lit1 wr [(c : Int)] 1 rfl (by omega) (by simp; omega))
      have HAL : Hid (Gw wr (wr.alloc (.cells #[.int .u8 (c : Int)] 5))) := (Gw.refl _).alloc _
      clear hc hsc hka hz hAB hAB2
      simp only [pt]
      go_wp2_with fail
      refine (HKT.out _ HBS.out).mono ?_; rintro e w8 ⟨rfl, hg8⟩
      have G8 := Lib.hid ((hgw.out.trans HAL.out).trans hg8)
      have U8 := Lib.hid ((hbu.out.step HAL.out).step hg8)
      clear hg8 hn
      go_wp2_with fail
      refine (write_to G8.out U8.out (kidHead c) AB2 HAB2.out (by have h1 := HCL.out; have h2 := kidHead_length c; simp only [List.length_append] at *; omega)).mono ?_
      rintro e w9 ⟨⟨n9, rfl⟩, h1, h2⟩
      have U9 := Lib.hid h1
      have G9 := Lib.hid h2
      clear h1 h2 hadd3
      go_wp2_with fail
      refine (IH.out c w9 _ _ a HKA.out (RK.out c) (HAK.out c) G9.out U9.out (by have h1 := HCL.out; have h2 := kidHead_length c; simp only [List.length_append] at *; omega)).mono ?_
      rintro e w10 ⟨rfl, h1, h2⟩
      have U10 := Lib.hid h1
      have G10 := Lib.hid h2
      clear h1 h2
      have q1 : wrap64 ((c : Int) + 1) = (c : Int) + 1 := IntWalk.wrap64_in _ (by have := HC1.out; omega)
      have q3 : wrap64 (c : Int) = (c : Int) := IntWalk.wrap64_in _ (by have := HC1.out; omega)
      go_wp2_with fail
      refine (K61.out _ (c + 1) G10.out).mono ?_; rintro e w11 ⟨r5, nk5, rfl, hg11⟩
      have NK5 := Lib.hid nk5
      have G11 := Lib.hid (G10.out.trans hg11)
      have U11 := Lib.hid (U10.out.step hg11)
      clear nk5 hg11
      go_wp2_with fail
      go_roundg (257 - (c + 1))
      case measure => rw [HGK.out]; have := HC1.out; omega
      case rel =>
        refine ⟨c + 1, r5, rfl, by have := HC1.out; omega, rfl, rfl, NK5.out, G11.out, ?_⟩
        show Bu _ _ _ _
        have := U11.out
        rw [HCS.out]
        simpa using this

set_option maxHeartbeats 6400000 in
set_option maxRecDepth 100000 in
theorem shape_innerNo (E : ShEnv B w0 S) {id : Nat} {own : Int} {part : List Int} {val : Int} {kid : Nat → T} {hd : List Int} {l : List UInt8} (hr : Rep S (.node id own part val false false kid)) (ha : (T.node id own part val false false kid).All Short hd) (hg : Gw w0 w) (hb : Bu w0.heap.size b l w)
    (hn : l.length + 131200 * (T.node id own part val false false kid).cnt (fun _ => true) ≤ 140737488355328) (ih : ∀ c, ShapeH w0 S b (kid c)) :
    Calls Tryz.prog 66 #[.pointer (some ⟨b, 0, none⟩), .pointer (some ⟨id, 0, none⟩)] w fun e w' => e = .returned (.tuple #[]) ∧ Bu w0.heap.size b (l ++ (T.node id own part val false false kid).txt) w' ∧ Gw w0 w' := by
  have hlen := txt_length E.sto _ hd (by simp) hr ha
  have hval : 0 ≤ val ∧ val < 18446744073709551616 := by
    obtain ⟨FQ, h⟩ := E.sto
    obtain ⟨p, n, c, kb, hn⟩ := h.node _ _ hr.1
    exact hn.val
  obtain ⟨M, hM⟩ : ∃ M, 131200 * (T.node id own part val false false kid).cnt (fun _ => true) = M := ⟨_, rfl⟩
  rw [hM] at hlen hn
  obtain ⟨kn, hkn⟩ : ∃ kn, kindN ⟨own, part, val, false, false, fun b => (kid b).ptr⟩ = kn := ⟨_, rfl⟩
  have hk0 : kn = kindOf (kcnt fun b => (kid b).ptr) := by rw [← hkn]; rfl
  have hk1 : ((kn : Int) == 1) = false := by
    have : kn ≠ 1 := by rw [hk0]; unfold kindOf; repeat' split
                        all_goals omega
    simp; omega
  have hk2 : kn ≤ 256 := by rw [hk0]; exact kindOf_le _
  obtain ⟨HT0, hHT⟩ : ∃ HT0, HT0 = Lib.decDigits kn ++ [60] := ⟨_, rfl⟩
  obtain ⟨gs, hgs⟩ : ∃ gs : Nat → List UInt8, (fun b => kidPart (kid b).ptr b (T.txt (kid b))) = gs := ⟨_, rfl⟩
  obtain ⟨LV, hLV⟩ : ∃ LV, LV = 0 := ⟨_, rfl⟩
  have hLV2 : LV ≤ 21 := by omega
  have KV : Hid (∀ W, Gw w0 W → Calls Tryz.prog 63 #[.pointer (some ⟨id, 0, none⟩)] W fun e w' => e = .returned (.tuple #[.int .u64 0, .bool false]) ∧ w' = W) := fun W g => val63 (E.sto.step g) hr.1
  have KK : Hid (∀ W, Gw w0 W → Calls Tryz.prog 64 #[.pointer (some ⟨id, 0, none⟩)] W fun e w' => e = .returned (.int .i64 kn) ∧ w' = W) := fun W g => by
    have := kind64 (E.sto.step g) hr.1
    rw [hkn] at this
    exact this
  have KP : Hid (∀ W, Gw w0 W → Calls Tryz.prog 58 #[.pointer (some ⟨id, 0, none⟩)] W fun e w' => PartR B W w' part e) := fun W g => part58 (E.sto.step g) hr.1
  have hp : part.length ≤ 65536 := ha.1
  have KT : Hid (∀ W p c, Kb B W p part.length c part → Calls Tryz.prog 97 #[.slice p part.length c] W fun e w' => e = .returned (.string (textS part)) ∧ Gw W w') := fun W p c k => text97 p part.length c part W k.bs hp
  obtain ⟨AP, hAP⟩ : ∃ AP, textS part = AP := ⟨_, rfl⟩
  rw [hAP] at KT
  have HAP : Hid (AP = ⟨(textL part).toArray⟩) := hAP.symm
  obtain ⟨PL, hPL⟩ : ∃ PL, part.length = PL := ⟨_, rfl⟩
  have HPL := Lib.hid hPL
  obtain ⟨TX, hTX⟩ : ∃ TX, (T.node id own part val false false kid).txt = TX := ⟨_, rfl⟩
  rw [hTX] at hlen ⊢
  have HTX : Hid (TX = HT0 ++ textL part ++ (catTo gs 256 ++ [62])) := by
    show _ = _
    rw [← hTX]; simp [T.txt, headTxt, valTxt, hHT, hk0, ← hgs]
  have HLEN := Lib.hid hlen
  have HN := Lib.hid hn
  have HB := Lib.hid hb
  have HG := Lib.hid hg
  have HPS := Lib.hid hp
  have K61 : Hid (∀ W (s : Nat), Gw w0 W → Calls Tryz.prog 61 #[.pointer (some ⟨id, 0, none⟩), .int .i64 s] W fun e W' => ∃ r, NextK (fun b => (kid b).ptr) s r ∧ e = .returned (.tuple #[.int .u8 r.1, .pointer (pt r.2)]) ∧ Gw W W') := fun W s g =>
    (next61 (E.sto.step g) hr.1 s).mono fun e w'' ⟨r, h1, h2, z, h3⟩ => by
      subst h3
      exact ⟨r, h1, h2, (Gw.refl _).drewN z⟩
  have KI : Hid (∀ W, Gw w0 W → Calls Tryz.prog 96 #[.int .i64 kn] W fun e w' => Says W w' (Lib.decDigits kn) e) := fun W g => itoa96 kn (by omega) W (E.tab.gw g)
  obtain ⟨AK, hAK⟩ : ∃ AK : ByteArray, AK = ⟨(Lib.decDigits kn).toArray⟩ := ⟨_, rfl⟩
  have HKI : Hid (∀ W, Gw w0 W → Calls Tryz.prog 96 #[.int .i64 kn] W fun e w' => e = .returned (.string AK) ∧ Gw W w') := fun W g => by rw [hAK]; exact KI.out W g
  obtain ⟨AK2, hAK2⟩ : ∃ AK2 : ByteArray, AK2 = ⟨HT0.toArray⟩ := ⟨_, rfl⟩
  have hadd1 : ∀ w, (Op.stringOp .add AK ⟨#[60]⟩).run Tryz.prog w = .ok (.string AK2) w := fun w =>
    run_add_str (Lib.decDigits kn) [60] _ _ hAK rfl (by have := nDigits_le kn (by omega); rw [Lib.decDigits_length]; simp; omega) _ (by rw [hAK2, hHT]) w
  have HAK2 := Lib.hid hAK2
  have HTL : Hid (HT0.length + (textL part).length + LV + 4 ≤ 131200) := by
    show _ ≤ _
    have h1 := head_length kn hk2 false
    have h2 := length_textL part
    rw [hHT]
    simp only [headTxt, Bool.false_eq_true, if_false] at h1
    have h3 := hLV2
    omega
  have HMM : Hid (M = 131200 * (1 + sumTo (fun b => (kid b).cnt fun _ => true) 256)) := by show _ = _; rw [← hM]; simp only [T.cnt, if_pos]
  have GL : Hid (∀ d, (gs d).length ≤ 131200 * (kid d).cnt fun _ => true) := fun d => by
    rw [← congrFun hgs d]
    show (kidPart (kid d).ptr d (kid d).txt).length ≤ _
    cases hkd : kid d with
    | nil => simp [T.ptr, kidPart]
    | node i2 o2 p2 v2 h2 l2 k2 =>
      have := txt_length E.sto (kid d) _ (by rw [hkd]; simp) (hr.2 d) (ha.2 d)
      rw [hkd] at this
      simp only [T.ptr, kidPart, List.length_append, kidHead_length]
      omega
  have HGS := Lib.hid hgs
  have IH := Lib.hid ih
  have RK := Lib.hid hr.2
  have HAK := Lib.hid ha.2
  clear KI hHT hAK hAK2 hgs hLV hLV2
  clear hlen hval hn hb hg hp hAP hPL hTX hkn hM hk0 hk2 hr ha ih
  go_enter Tryz.func66, Tryz.ntmps66
  go_wp2_with fail
  refine (KV.out _ HG.out).mono ?_; rintro e w1 ⟨rfl, hw1⟩
  rw [hw1]; clear hw1 w1
  go_wp2_with fail
  refine (KK.out _ HG.out).mono ?_; rintro e w1 ⟨rfl, hw1⟩
  rw [hw1]; clear hw1 w1
  go_wp2_with fail
  refine (KK.out _ HG.out).mono ?_; rintro e w1 ⟨rfl, hw1⟩
  rw [hw1]; clear hw1 w1
  go_wp2_with fail
  refine (HKI.out _ HG.out).mono ?_; rintro e w1 ⟨rfl, hg1⟩
  have G0 := Lib.hid (HG.out.trans hg1)
  have U0 := Lib.hid (HB.out.step hg1)
  clear hg1
  go_wp2_with fail
  refine (write_to G0.out U0.out HT0 AK2 HAK2.out (by have h1 := HLEN.out; have h2 := HN.out; rw [HTX.out] at h1; simp only [List.length_append] at h1 ⊢; omega)).mono ?_
  clear hadd1
  rintro e w1 ⟨⟨n1, rfl⟩, h1, h2⟩
  have U1 := Lib.hid h1
  have G1 := Lib.hid h2
  clear h1 h2
  go_wp2_with fail
  refine (KP.out _ G1.out).mono ?_; rintro e w2 ⟨p, c, rfl, hk, hbel⟩
  have G2 := Lib.hid (G1.out.trans hbel)
  have U2 := Lib.hid (U1.out.step hbel)
  have HT := Lib.hid (KT.out w2 p c hk)
  rw [HPL.out] at HT ⊢
  clear hk hbel
  go_wp2_with fail
  refine HT.out.mono ?_; rintro e w3 ⟨rfl, hbel⟩
  have G3 := Lib.hid (G2.out.trans hbel)
  have U3 := Lib.hid (U2.out.step hbel)
  clear hbel HT
  go_wp2_with fail
  refine (write_to G3.out U3.out (textL part) AP HAP.out (by have h1 := HLEN.out; have h2 := HN.out; rw [HTX.out] at h1; simp only [List.length_append, List.length_cons, List.length_nil] at h1 ⊢; omega)).mono ?_
  rintro e w4 ⟨⟨n4, rfl⟩, h1, h2⟩
  have U4 := Lib.hid h1
  have G4 := Lib.hid h2
  clear h1 h2
  go_wp2_with fail
  refine (KK.out _ G4.out).mono ?_; rintro e w1 ⟨rfl, hw1⟩
  rw [hw1]; clear hw1 w1
  go_wp2_with fail
  refine (K61.out _ 0 G4.out).mono ?_; rintro e w7 ⟨r, hnk, rfl, hg7⟩
  have NK := Lib.hid hnk
  have G7 := Lib.hid (G4.out.trans hg7)
  have U7 := Lib.hid (U4.out.step hg7)
  obtain ⟨pr, hpr⟩ : ∃ pr, pt r.2 = pr := ⟨_, rfl⟩
  obtain ⟨rb', hrb⟩ : ∃ rb' : Int, ((r.1 : Nat) : Int) = rb' := ⟨_, rfl⟩
  rw [hpr, hrb]
  have HPR := Lib.hid (And.intro hpr hrb)
  clear hpr hrb hnk hg7
  go_wp2_with fail
  go_loopg [6, 7] 257 (fun gk x q wr => ∃ (s : Nat) (r : Nat × Option Nat), gk = 257 - s ∧ s ≤ 256 ∧ x = .int .u8 r.1 ∧ q = .pointer (pt r.2) ∧ Hid (NextK (fun b => (kid b).ptr) s r) ∧ Hid (Gw w0 wr) ∧ Hid (Bu w0.heap.size b (l ++ HT0 ++ textL part ++ catTo gs s) wr))
  case atStart => exact ⟨0, r, by omega, by omega, by rw [HPR.out.2], by rw [HPR.out.1], NK.out, G7.out, by show Bu _ _ _ _; have := U7.out; simpa [catTo] using this⟩
  case round =>
    obtain ⟨s, ⟨c, a⟩, hgk, hs, rfl, rfl, hnk, hgw, hbu⟩ := hrel
    have HGK := Lib.hid hgk
    have HS2 := Lib.hid hs
    clear hgk hs
    simp only
    cases a with
    | none =>
      have he := Lib.hid (next_end hnk.out)
      have HCS : Hid (catTo gs 256 = catTo gs s) := by
        refine catTo_skip s 256 HS2.out fun d h1 h2 => ?_
        rw [← congrFun HGS.out d, he.out d h1 h2]; rfl
      simp only [pt]
      go_wp2_with fail
      refine (write_to hgw.out hbu.out [62] ⟨#[62]⟩ rfl (by have h1 := HLEN.out; have h2 := HN.out; rw [HTX.out, HCS.out] at h1; simp only [List.length_append, List.length_cons, List.length_nil] at h1 ⊢; omega)).mono ?_
      rintro e w9 ⟨⟨n9, rfl⟩, h1, h2⟩
      have F := Lib.hid (And.intro h1 h2)
      clear h1 h2
      go_wp2_with fail
      go_end0
      refine ⟨rfl, ?_, F.out.2⟩
      have := F.out.1
      rw [HTX.out, HCS.out]
      simpa using this
    | some a =>
      obtain ⟨hc, hsc, hka, hz⟩ := next_step hnk.out
      have HC1 := Lib.hid (show c < 256 ∧ s ≤ c from ⟨hc, hsc⟩)
      have HKA := Lib.hid hka
      have HCS : Hid (catTo gs (c + 1) = catTo gs s ++ (kidHead c ++ (kid c).txt)) := by
        show _ = _
        simp only [catTo]
        rw [catTo_skip s c hsc (fun d h1 h2 => by rw [← congrFun HGS.out d, hz d h1 h2]; rfl), ← congrFun HGS.out c, hka]
        rfl
      have HCL : Hid (l.length + HT0.length + (textL part).length + (catTo gs s).length + 3 + 131200 * (kid c).cnt (fun _ => true) ≤ 140737488355328) := by
        show _ ≤ _
        have h1 : (catTo gs s).length ≤ 131200 * sumTo (fun b => (kid b).cnt fun _ => true) s := catTo_length s (fun d _ => GL.out d)
        have h2 := sumTo_mono (fun b => (kid b).cnt fun _ => true) 256 (show c + 1 ≤ 256 by omega)
        have h3 := sumTo_mono (fun b => (kid b).cnt fun _ => true) c hsc
        have h4 : sumTo (fun b => (kid b).cnt fun _ => true) (c + 1) = sumTo (fun b => (kid b).cnt fun _ => true) c + (kid c).cnt fun _ => true := rfl
        have h5 := HN.out
        have h6 := HMM.out
        have h7 := HTL.out
        omega
      have hn := run_neq_pointer_nil (P := Tryz.prog) wr 48 (some ⟨a, 0, none⟩) (by kernel_rfl)
      obtain ⟨AB, hAB⟩ : ∃ AB, textS [(c : Int)] = AB := ⟨_, rfl⟩
      have HKT : Hid (∀ W, Bs W (some ⟨wr.heap.size, 0, none⟩) 1 1 [(c : Int)] → Calls Tryz.prog 97 #[.slice (some ⟨wr.heap.size, 0, none⟩) 1 1] W fun e w' => e = .returned (.string AB) ∧ Gw W w') := fun W k => by rw [← hAB]; exact text97 _ 1 1 _ W k (by omega)
      obtain ⟨AB2, hAB2⟩ : ∃ AB2 : ByteArray, AB2 = ⟨(kidHead c).toArray⟩ := ⟨_, rfl⟩
      have hadd3 : ∀ w, (Op.stringOp .add ⟨#[58]⟩ AB).run Tryz.prog w = .ok (.string AB2) w := fun w =>
        run_add_str [58] (textL [(c : Int)]) _ _ rfl hAB.symm (by rw [length_textL]; simp) _ (by rw [hAB2]; rfl) w
      have HAB2 := Lib.hid hAB2
      have HBS := Lib.hid (Bs.lit1 wr [(c : Int)] 1 rfl (by omega) (by simp; omega))
      have HAL : Hid (Gw wr (wr.alloc (.cells #[.int .u8 (c : Int)] 5))) := (Gw.refl _).alloc _
      clear hc hsc hka hz hAB hAB2
      simp only [pt]
      go_wp2_with fail
      refine (HKT.out _ HBS.out).mono ?_; rintro e w8 ⟨rfl, hg8⟩
      have G8 := Lib.hid ((hgw.out.trans HAL.out).trans hg8)
      have U8 := Lib.hid ((hbu.out.step HAL.out).step hg8)
      clear hg8 hn
      go_wp2_with fail
      refine (write_to G8.out U8.out (kidHead c) AB2 HAB2.out (by have h1 := HCL.out; have h2 := kidHead_length c; simp only [List.length_append] at *; omega)).mono ?_
      rintro e w9 ⟨⟨n9, rfl⟩, h1, h2⟩
      have U9 := Lib.hid h1
      have G9 := Lib.hid h2
      clear h1 h2 hadd3
      go_wp2_with fail
      refine (IH.out c w9 _ _ a HKA.out (RK.out c) (HAK.out c) G9.out U9.out (by have h1 := HCL.out; have h2 := kidHead_length c; simp only [List.length_append] at *; omega)).mono ?_
      rintro e w10 ⟨rfl, h1, h2⟩
      have U10 := Lib.hid h1
      have G10 := Lib.hid h2
      clear h1 h2
      have q1 : wrap64 ((c : Int) + 1) = (c : Int) + 1 := IntWalk.wrap64_in _ (by have := HC1.out; omega)
      have q3 : wrap64 (c : Int) = (c : Int) := IntWalk.wrap64_in _ (by have := HC1.out; omega)
      go_wp2_with fail
      refine (K61.out _ (c + 1) G10.out).mono ?_; rintro e w11 ⟨r5, nk5, rfl, hg11⟩
      have NK5 := Lib.hid nk5
      have G11 := Lib.hid (G10.out.trans hg11)
      have U11 := Lib.hid (U10.out.step hg11)
      clear nk5 hg11
      go_wp2_with fail
      go_roundg (257 - (c + 1))
      case measure => rw [HGK.out]; have := HC1.out; omega
      case rel =>
        refine ⟨c + 1, r5, rfl, by have := HC1.out; omega, rfl, rfl, NK5.out, G11.out, ?_⟩
        show Bu _ _ _ _
        have := U11.out
        rw [HCS.out]
        simpa using this
end
end Go.Proofs.YtbihlmkjoplkoaaGreatDoor
/-
  canon: Shape; a version's Shape.
-/
namespace Go.Proofs.YtbihlmkjoplkoaaGreatDoor
open Go.RowKit
set_option linter.unusedVariables false

section
variable {B : Nat} {w0 w : World} {S : Store} {b : Nat}

theorem shape_all (E : ShEnv B w0 S) (b : Nat) : ∀ t : T, ShapeH w0 S b t := by
  intro t
  induction t with
  | nil => intro w l hd id h; cases h
  | node id own part val has leaf kid ih =>
    intro w l hd id' h hr ha hg hb hn
    cases h
    cases leaf with
    | true =>
      cases has with
      | true => exact shape_leafVal E hr ha hg hb hn
      | false => exact shape_leafNo E hr ha hg hb hn
    | false =>
      cases has with
      | true => exact shape_innerVal E hr ha hg hb hn ih
      | false => exact shape_innerNo E hr ha hg hb hn ih

set_option maxHeartbeats 800000 in
theorem Shape43 (E : ShEnv B w S) {t : T} (hr : Rep S t) {hd : List Int} (ha : t.All Short hd) (hn : 131200 * (t.cnt (fun _ => true) + 1) ≤ 140737488351000) :
    Calls Tryz.prog 43 #[.pointer (pt t.ptr)] w fun e w' => Says w w' t.txt e := by
  have hg : Gw w (w.alloc (.cells #[.pointer none, .slice none 0 0] 142)) := (Gw.refl _).alloc _
  have hb : Bu w.heap.size w.heap.size [] (w.alloc (.cells #[.pointer none, .slice none 0 0] 142)) := Lib.fresh_isBuilder 142 5 w
  have HC : Hid (Calls Tryz.prog 66 #[.pointer (some ⟨w.heap.size, 0, none⟩), .pointer (pt t.ptr)] (w.alloc (.cells #[.pointer none, .slice none 0 0] 142)) fun e w' => e = .returned (.tuple #[]) ∧ Bu w.heap.size w.heap.size t.txt w' ∧ Gw w w') := by
    show Calls _ _ _ _ _
    cases t with
    | nil => exact shape_nil hg hb (by simp)
    | node id own part val has leaf kid =>
      have := shape_all E w.heap.size (.node id own part val has leaf kid) _ [] hd id rfl hr ha hg hb (by simp; omega)
      exact this
  have HS : Hid (∀ w' , Bu w.heap.size w.heap.size t.txt w' → Gw w w' → Calls Tryz.prog 67 #[.pointer (some ⟨w.heap.size, 0, none⟩)] w' fun e w'' => e = .returned (.string ⟨t.txt.toArray⟩) ∧ Below w.heap.size w' w'') := fun w' h1 h2 =>
    Tryz.Builder_String_any w.heap.size w.heap.size t.txt w' h1 h2.size
  clear E hr ha hn hg hb
  generalize t.txt = l at *
  generalize pt t.ptr = kp at *
  go_enter Tryz.func43, Tryz.ntmps43
  go_wp2_with fail
  refine HC.out.mono ?_; rintro e w1 ⟨rfl, h1, h2⟩
  have U := Lib.hid h1
  have G := Lib.hid h2
  clear h1 h2
  go_wp2_with fail
  refine (HS.out _ U.out G.out).mono ?_; rintro e w2 ⟨rfl, h1⟩
  have G2 := Lib.hid (gw_of G.out h1)
  clear h1
  go_wp2_with fail
  go_ret
  exact ⟨rfl, G2.out⟩

theorem Shape20 {v wb : Nat} (E : ShEnv B w S) {t : T} (hv : Ver w v wb (pt t.ptr)) (hr : Rep S t) {hd : List Int} (ha : t.All Short hd) (hn : 131200 * (t.cnt (fun _ => true) + 1) ≤ 140737488351000) :
    Calls Tryz.prog 20 #[.pointer (some ⟨v, 0, none⟩)] w fun e w' => Says w w' t.txt e := by
  have HR := Lib.hid (root16 hv)
  have HC := Lib.hid (Shape43 E hr ha hn)
  clear E hv hr ha hn
  generalize t.txt = l at *
  generalize pt t.ptr = kp at *
  go_enter Tryz.func20, Tryz.ntmps20
  go_wp2_with fail
  refine HR.out.mono ?_; rintro e w1 ⟨rfl, hw1⟩
  rw [hw1]; clear hw1 w1
  go_wp2_with fail
  refine HC.out.mono ?_; rintro e w2 ⟨rfl, h1⟩
  have G := Lib.hid h1
  clear h1
  go_wp2_with fail
  go_ret
  exact ⟨rfl, G.out⟩
end
end Go.Proofs.YtbihlmkjoplkoaaGreatDoor
