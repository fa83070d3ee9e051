/-
  For the statement TopOwners: stats: shared, of two nodes: two nodes.
-/
import Derived.Test.YtbihlmkjoplkoaaGreatDoorM33
import Derived.Deep.LoopGhost
namespace Go.Proofs.YtbihlmkjoplkoaaGreatDoor
open Go.RowKit
set_option linter.unusedVariables false

section
variable {B : Nat} {w : World} {S : Store}

set_option maxHeartbeats 6400000 in
set_option maxRecDepth 100000 in
theorem share_apart {f : Nat} (H : ShareH B S f) (hs : Sto B w S) (hB : B ≤ w.heap.size) {ia ib : Nat} {oa ob : Int} {pa pb : List Int} {va vb : Int} {h1 h2 la lb : Bool} {ka kb : Nat → T} {ga gb : Nat} {ha hb : List Int}
    (ra : Rep S (.node ia oa pa va h1 la ka)) (rb : Rep S (.node ib ob pb vb h2 lb kb)) (aa : (T.node ia oa pa va h1 la ka).All Short ha) (ab : (T.node ib ob pb vb h2 lb kb).All Short hb)
    (hn : 65560 * ((T.node ia oa pa va h1 la ka).cnt (fun _ => true) + 1) ≤ 140737488351000) (hga : ga ≤ pa.length) (hgb : gb ≤ pb.length) (hf : (T.node ia oa pa va h1 la ka).cnt (fun _ => true) + (T.node ib ob pb vb h2 lb kb).cnt (fun _ => true) ≤ f + 1)
    (hne : ¬ (ia = ib ∧ ga = gb ∧ ga = 0)) (e1 : ia ≠ ib) :
    Calls Tryz.prog 39 #[.agg #[.pointer (some ⟨ia, 0, none⟩), .int .i64 ga], .agg #[.pointer (some ⟨ib, 0, none⟩), .int .i64 gb]] w fun e w' => e = .returned (.int .i64 (wrap64 (sh (f + 1) (.node ia oa pa va h1 la ka) ga (.node ib ob pb vb h2 lb kb) gb))) ∧ Below w.heap.size w w' := by
  have hb2 := two_bel w ia ib ga gb
  have HS := Lib.hid (hs.step hb2)
  have HB2 := Lib.hid hb2
  have HA := Lib.hid (two_a w ia ib ga gb)
  have HBB := Lib.hid (two_b w ia ib ga gb)
  have he : (Op.equalIn 9999 48 (.pointer (some ⟨ia, 0, none⟩)) (.pointer (some ⟨ib, 0, none⟩))).run Tryz.prog (two w ia ib ga gb) = .ok (decide (ia = ib)) (two w ia ib ga gb) :=
    equal48 ia ib (HS.out.cellsy (by rw [ra.1]; simp)) (HS.out.cellsy (by rw [rb.1]; simp)) 9998
  have hn1 := run_eql_pointer_nil (P := Tryz.prog) (two w ia ib ga gb) 48 (some ⟨ia, 0, none⟩) (by kernel_rfl)
  have hn2 := run_eql_pointer_nil (P := Tryz.prog) (two w ia ib ga gb) 48 (some ⟨ib, 0, none⟩) (by kernel_rfl)
  have RA := Lib.hid ra
  have RB := Lib.hid rb
  have HN := Lib.hid hne
  have HG := Lib.hid (And.intro hga hgb)
  have HH := Lib.hid H
  have HQ := Lib.hid (show B ≤ w.heap.size ∧ (T.node ia oa pa va h1 la ka).All Short ha ∧ (T.node ib ob pb vb h2 lb kb).All Short hb ∧ 65560 * ((T.node ia oa pa va h1 la ka).cnt (fun _ => true) + 1) ≤ 140737488351000 ∧ (T.node ia oa pa va h1 la ka).cnt (fun _ => true) + (T.node ib ob pb vb h2 lb kb).cnt (fun _ => true) ≤ f + 1 from ⟨hB, aa, ab, hn, hf⟩)
  unfold two at *
  clear hs hB ra rb aa ab hn hga hgb hf hb2 hne H
  obtain ⟨res, hres⟩ : ∃ res, wrap64 ((sh (f + 1) (T.node ia oa pa va h1 la ka) ga (T.node ib ob pb vb h2 lb kb) gb : Nat) : Int) = res := ⟨_, rfl⟩
  rw [hres]
  have HRES := Lib.hid hres
  clear hres
  rw [decide_eq_false e1] at he
  have k4 : ∀ W : World, Gw ((w.alloc (.cells #[.pointer (some ⟨ia, 0, none⟩), .int .i64 ga] 109)).alloc (.cells #[.pointer (some ⟨ib, 0, none⟩), .int .i64 gb] 109)) W → W.cell? ⟨w.heap.size, 0, none⟩ = some (.pointer (some ⟨ia, 0, none⟩)) ∧ W.cell? ⟨w.heap.size, 1, none⟩ = some (.int .i64 ga) ∧ W.cell? ⟨w.heap.size + 1, 0, none⟩ = some (.pointer (some ⟨ib, 0, none⟩)) ∧ W.cell? ⟨w.heap.size + 1, 1, none⟩ = some (.int .i64 gb) := fun W g => by
    have h3 := g.heap HA.out
    have h4 := g.heap HBB.out
    refine ⟨?_, ?_, ?_, ?_⟩
    · rw [cell_row h3]; rfl
    · rw [cell_row h3]; rfl
    · rw [cell_row h4]; rfl
    · rw [cell_row h4]; rfl
  have K4 := Lib.hid k4
  clear k4
  go_enter Tryz.func39, Tryz.ntmps39
  go_wp2_with fail
  go_region_held3 (fun W' : World => W'.cell? ⟨w.heap.size, 0, none⟩ = some (.pointer (some ⟨ia, 0, none⟩)) ∧ W'.cell? ⟨w.heap.size, 1, none⟩ = some (.int .i64 ga) ∧ W'.cell? ⟨w.heap.size + 1, 0, none⟩ = some (.pointer (some ⟨ib, 0, none⟩)) ∧ W'.cell? ⟨w.heap.size + 1, 1, none⟩ = some (.int .i64 gb))
    (first
      | exact K4.out _ ((Gw.refl _).drewN 1)
      | exact Y
      | exact X)
    (first
      | (go_at_call 58
         first
         | (refine (part58 (HS.out.step g2) RB.out.1).mono ?_
            rintro e w3 ⟨p3, c3, rfl, kk3, bb3⟩
            have g3 : Gw _ w3 := Gw.trans g2 bb3
            have Y := K4.out w3 g3
            obtain ⟨qb, db, slb, kqb⟩ := slice_from kk3 (gb : Int) gb rfl HG.out.2)
         | (refine (part58 (HS.out.drewN 1) RA.out.1).mono ?_
            rintro e w2 ⟨p2, c2, rfl, kk2, bb2⟩
            have g2 : Gw _ w2 := Gw.trans ((Gw.refl _).drewN 1) bb2
            have X := K4.out w2 g2
            obtain ⟨qa, da, sla, kqa⟩ := slice_from kk2 (ga : Int) ga rfl HG.out.1)))
  have KA := Lib.hid (kqa.step bb3)
  have KB := Lib.hid kqb
  have G3 := Lib.hid g3
  have HS3 := Lib.hid (HS.out.step g3)
  obtain ⟨n1, hn1'⟩ : ∃ n1, pa.length - ga = n1 := ⟨_, rfl⟩
  obtain ⟨n2, hn2'⟩ : ∃ n2, pb.length - gb = n2 := ⟨_, rfl⟩
  rw [hn1'] at KA sla
  rw [hn2'] at KB slb
  simp only [hn1', hn2']
  have HN12 := Lib.hid (And.intro hn1' hn2')
  have HCM := Lib.hid (common19 qa qb n1 da n2 db _ _ w3 KA.out.bs KB.out.bs)
  obtain ⟨s, hs'⟩ : ∃ s, com (pa.drop ga) (pb.drop gb) = s := ⟨_, rfl⟩
  rw [hs'] at HCM
  have HSS := Lib.hid hs'
  have hlx := Lib.hid KA.out.bs.len
  have hly := Lib.hid KB.out.bs.len
  have HBS : Hid (B ≤ w3.heap.size) := Nat.le_trans HQ.out.1 (Nat.le_trans HB2.out.size G3.out.size)
  have hsp : s ≤ 65536 ∧ ga ≤ 65536 ∧ gb ≤ 65536 ∧ s ≤ n1 ∧ s ≤ n2 := by
    have h7 : pa.length ≤ 65536 := HQ.out.2.1.1
    have h8 : pb.length ≤ 65536 := HQ.out.2.2.1.1
    have h9 := HG.out
    have h3 := com_le_left (pa.drop ga) (pb.drop gb)
    have h4 := com_le_right (pa.drop ga) (pb.drop gb)
    rw [hs', hlx.out] at h3
    rw [hs', hly.out] at h4
    omega
  have HSP := Lib.hid hsp
  clear hn1' hn2' hs' kk2 kk3 bb2 bb3 kqa kqb g2 g3 X Y hsp
  go_wp2_with fail
  refine HCM.out.mono ?_; rintro e w4 ⟨rfl, z, rfl⟩
  by_cases hs1 : s < n1
  · by_cases hs2 : s < n2
    · have d1 : decide (s < n1) = true := decide_eq_true hs1
      have d2 : decide (s < n2) = true := decide_eq_true hs2
      have HL := Lib.hid (And.intro hs1 hs2)
      have HBE := Lib.hid (below_drewN (Below.step HB2.out G3.out) z)
      clear hs1 hs2
      go_wp2_with fail
      go_ret
      refine ⟨ret_int ?_, HBE.out⟩
      rw [← HRES.out, sh, if_neg HN.out, if_pos (by rw [HSS.out, hlx.out]; exact HL.out.1), if_pos (by rw [HSS.out, hly.out]; exact HL.out.2)]
      simp [wrap64]
    · obtain ⟨ab, ao, rfl, hcq, _⟩ := KA.out.cellAt s hs1
      have d1 : decide (s < n1) = true := decide_eq_true hs1
      have d2 : decide (s < n2) = false := decide_eq_false hs2
      have t0 : (0 : Int) ≤ (s : Int) := by omega
      have t1 : (s : Int) < (n1 : Int) := by omega
      have HL := Lib.hid (And.intro hs1 hs2)
      obtain ⟨bb, hbb, hbb6⟩ : ∃ bb : Nat, (pa.drop ga).getD s 0 = (bb : Int) ∧ bb < 256 := by
        have := KA.out.bs.get s
        exact ⟨((pa.drop ga).getD s 0).toNat, by omega, by omega⟩
      rw [hbb] at hcq
      have hlt : ga + s < pa.length := by have := HN12.out.1; omega
      have hge : ¬ gb + s < pb.length := by have := HN12.out.2; omega
      have D1 : Hid (∀ W, Gw w3 W → Calls Tryz.prog 60 #[.agg #[.pointer (some ⟨ia, 0, none⟩), .int .i64 ga], .int .i64 s, .int .u8 bb] W fun e w' => e = .returned (.agg #[.pointer (some ⟨ia, 0, none⟩), .int .i64 ((ga + s + 1 : Nat) : Int)]) ∧ Gw W w') := fun W g => by
        have := down60 (HS3.out.step g) RA.out.1 ga s bb hbb6 HSP.out.2.1 HSP.out.1
        rw [if_pos hlt] at this
        exact this
      obtain ⟨kp, hkp⟩ : ∃ kp, pt (kb bb).ptr = kp := ⟨_, rfl⟩
      have D2 : Hid (∀ W, Gw w3 W → Calls Tryz.prog 60 #[.agg #[.pointer (some ⟨ib, 0, none⟩), .int .i64 gb], .int .i64 s, .int .u8 bb] W fun e w' => e = .returned (.agg #[.pointer kp, .int .i64 0]) ∧ Gw W w') := fun W g => by
        have := down60 (HS3.out.step g) RB.out.1 gb s bb hbb6 HSP.out.2.2.1 HSP.out.1
        rw [if_neg hge] at this
        rw [← hkp]
        exact this
      have D3 : Hid (∀ W, Gw w3 W → Calls Tryz.prog 39 #[.agg #[.pointer (some ⟨ia, 0, none⟩), .int .i64 ((ga + s + 1 : Nat) : Int)], .agg #[.pointer kp, .int .i64 0]] W fun e w' => e = .returned (.int .i64 res) ∧ Gw W w') := fun W g => by
        have hfit := RB.out.fit (HS3.out.fit)
        have hck := cnt_kid ib ob pb vb h2 lb kb hfit bb
        have := HH.out W (.node ia oa pa va h1 la ka) (kb bb) (ga + s + 1) 0 ha (hb ++ pb ++ [(bb : Int)]) (HS3.out.step g) (Nat.le_trans HBS.out g.size) RA.out (RB.out.2 bb) HQ.out.2.1 (HQ.out.2.2.1.2 bb) HQ.out.2.2.2.1
          (by show ga + s + 1 ≤ pa.length; omega) (Nat.zero_le _) (by have := HQ.out.2.2.2.2; omega)
        rw [← hkp, ← HRES.out, sh, if_neg HN.out, if_pos (by rw [HSS.out, hlx.out]; exact HL.out.1), if_neg (by rw [HSS.out, hly.out]; exact HL.out.2), HSS.out, hbb]
        exact this
      have HCQ := Lib.hid hcq
      clear hs1 hs2 hlt hge hkp hbb hbb6 hcq
      go_wp2_with fail
      refine region_quiet (C := fun W => Gw w3 W) (by kernel_rfl) (by kernel_rfl) ((Gw.refl w3).drewN z).drew ?_
      repeat (
        refine wpQuiet_step (fun K hK => ?_)
        first
        | (refine quiet_load (by rfl) 109 _ (by rfl) ⟨w.heap.size, 0, none⟩ (by rfl) (.agg #[.pointer (some ⟨ia, 0, none⟩), .int .i64 ga]) (fun W' hC => loadVar109 ((G3.out.trans hC).heap HA.out) rfl) ?_
           refine hK _ ?_; clear hK K)
        | (refine quiet_load (by rfl) 109 _ (by rfl) ⟨w.heap.size + 1, 0, none⟩ (by rfl) (.agg #[.pointer (some ⟨ib, 0, none⟩), .int .i64 gb]) (fun W' hC => loadVar109 ((G3.out.trans hC).heap HBB.out) rfl) ?_
           refine hK _ ?_; clear hK K)
        | (refine quiet_load (by rfl) 5 _ (by rfl) ⟨ab, ao + s, none⟩ (by rfl) (.int .u8 bb) (fun W' hC => loadVar_cell (Tryz.isAgg5 _) (hC.cell HCQ.out)) ?_
           refine hK _ ?_; clear hK K)
        | (refine quiet_call (by rfl) 60 #[.agg #[.pointer (some ⟨ia, 0, none⟩), .int .i64 ga], .int .i64 s, .int .u8 bb] ?_ (.agg #[.pointer (some ⟨ia, 0, none⟩), .int .i64 ((ga + s + 1 : Nat) : Int)]) (fun W' hC => (D1.out W' hC).mono ?_) ?_
           · (intro W'; go_simp)
           · rintro e w' ⟨he, hw⟩; exact ⟨he, hC.trans hw⟩
           refine hK _ ?_; clear hK K)
        | (refine quiet_call (by rfl) 60 #[.agg #[.pointer (some ⟨ib, 0, none⟩), .int .i64 gb], .int .i64 s, .int .u8 bb] ?_ (.agg #[.pointer kp, .int .i64 0]) (fun W' hC => (D2.out W' hC).mono ?_) ?_
           · (intro W'; go_simp)
           · rintro e w' ⟨he, hw⟩; exact ⟨he, hC.trans hw⟩
           refine hK _ ?_; clear hK K)
        | (refine quiet_call (by rfl) 39 #[.agg #[.pointer (some ⟨ia, 0, none⟩), .int .i64 ((ga + s + 1 : Nat) : Int)], .agg #[.pointer kp, .int .i64 0]] ?_ (.int .i64 res) (fun W' hC => (D3.out W' hC).mono ?_) ?_
           · (intro W'; go_simp)
           · rintro e w' ⟨he, hw⟩; exact ⟨he, hC.trans hw⟩
           refine hK _ ?_; clear hK K)
        | (refine quiet_pure (v := ?_) (by rfl) ?_ ?_
           rotate_left
           focus (intro W'; go_simp; try (with_reducible rfl))
           refine hK _ ?_; clear hK K)
        try simp only [Act.put, List.setIfInBounds_toArray, List.set_cons_zero, List.set_cons_succ])
      refine wpQuiet_nil ?_
      intro w6 hw6
      have HW6 := Lib.hid (Gw.trans (Gw.trans (show Gw w _ from HB2.out) G3.out) hw6)
      clear hw6
      go_wp2_with fail
      go_ret
      exact ⟨rfl, HW6.out⟩
  · by_cases hs2 : s < n2
    · obtain ⟨ab, ao, rfl, hcq, _⟩ := KB.out.cellAt s hs2
      have d1 : decide (s < n1) = false := decide_eq_false hs1
      have d2 : decide (s < n2) = true := decide_eq_true hs2
      have t0 : (0 : Int) ≤ (s : Int) := by omega
      have t1 : (s : Int) < (n2 : Int) := by omega
      have HL := Lib.hid (And.intro hs1 hs2)
      obtain ⟨bb, hbb, hbb6⟩ : ∃ bb : Nat, (pb.drop gb).getD s 0 = (bb : Int) ∧ bb < 256 := by
        have := KB.out.bs.get s
        exact ⟨((pb.drop gb).getD s 0).toNat, by omega, by omega⟩
      rw [hbb] at hcq
      have hge : ¬ ga + s < pa.length := by have := HN12.out.1; omega
      have hlt : gb + s < pb.length := by have := HN12.out.2; omega
      obtain ⟨kp, hkp⟩ : ∃ kp, pt (ka bb).ptr = kp := ⟨_, rfl⟩
      have D1 : Hid (∀ W, Gw w3 W → Calls Tryz.prog 60 #[.agg #[.pointer (some ⟨ia, 0, none⟩), .int .i64 ga], .int .i64 s, .int .u8 bb] W fun e w' => e = .returned (.agg #[.pointer kp, .int .i64 0]) ∧ Gw W w') := fun W g => by
        have := down60 (HS3.out.step g) RA.out.1 ga s bb hbb6 HSP.out.2.1 HSP.out.1
        rw [if_neg hge] at this
        rw [← hkp]
        exact this
      have D2 : Hid (∀ W, Gw w3 W → Calls Tryz.prog 60 #[.agg #[.pointer (some ⟨ib, 0, none⟩), .int .i64 gb], .int .i64 s, .int .u8 bb] W fun e w' => e = .returned (.agg #[.pointer (some ⟨ib, 0, none⟩), .int .i64 ((gb + s + 1 : Nat) : Int)]) ∧ Gw W w') := fun W g => by
        have := down60 (HS3.out.step g) RB.out.1 gb s bb hbb6 HSP.out.2.2.1 HSP.out.1
        rw [if_pos hlt] at this
        exact this
      have D3 : Hid (∀ W, Gw w3 W → Calls Tryz.prog 39 #[.agg #[.pointer kp, .int .i64 0], .agg #[.pointer (some ⟨ib, 0, none⟩), .int .i64 ((gb + s + 1 : Nat) : Int)]] W fun e w' => e = .returned (.int .i64 res) ∧ Gw W w') := fun W g => by
        have hfit := RA.out.fit (HS3.out.fit)
        have hck := cnt_kid ia oa pa va h1 la ka hfit bb
        have := HH.out W (ka bb) (.node ib ob pb vb h2 lb kb) 0 (gb + s + 1) (ha ++ pa ++ [(bb : Int)]) hb (HS3.out.step g) (Nat.le_trans HBS.out g.size) (RA.out.2 bb) RB.out (HQ.out.2.1.2 bb) HQ.out.2.2.1 (by have := HQ.out.2.2.2.1; omega)
          (Nat.zero_le _) (by show gb + s + 1 ≤ pb.length; omega) (by have := HQ.out.2.2.2.2; omega)
        rw [← hkp, ← HRES.out, sh, if_neg HN.out, if_neg (by rw [HSS.out, hlx.out]; exact HL.out.1), if_pos (by rw [HSS.out, hly.out]; exact HL.out.2), HSS.out, hbb]
        exact this
      have HCQ := Lib.hid hcq
      clear hs1 hs2 hlt hge hkp hbb hbb6 hcq
      go_wp2_with fail
      refine region_quiet (C := fun W => Gw w3 W) (by kernel_rfl) (by kernel_rfl) ((Gw.refl w3).drewN z).drew ?_
      repeat (
        refine wpQuiet_step (fun K hK => ?_)
        first
        | (refine quiet_load (by rfl) 109 _ (by rfl) ⟨w.heap.size, 0, none⟩ (by rfl) (.agg #[.pointer (some ⟨ia, 0, none⟩), .int .i64 ga]) (fun W' hC => loadVar109 ((G3.out.trans hC).heap HA.out) rfl) ?_
           refine hK _ ?_; clear hK K)
        | (refine quiet_load (by rfl) 109 _ (by rfl) ⟨w.heap.size + 1, 0, none⟩ (by rfl) (.agg #[.pointer (some ⟨ib, 0, none⟩), .int .i64 gb]) (fun W' hC => loadVar109 ((G3.out.trans hC).heap HBB.out) rfl) ?_
           refine hK _ ?_; clear hK K)
        | (refine quiet_load (by rfl) 5 _ (by rfl) ⟨ab, ao + s, none⟩ (by rfl) (.int .u8 bb) (fun W' hC => loadVar_cell (Tryz.isAgg5 _) (hC.cell HCQ.out)) ?_
           refine hK _ ?_; clear hK K)
        | (refine quiet_call (by rfl) 60 #[.agg #[.pointer (some ⟨ia, 0, none⟩), .int .i64 ga], .int .i64 s, .int .u8 bb] ?_ (.agg #[.pointer kp, .int .i64 0]) (fun W' hC => (D1.out W' hC).mono ?_) ?_
           · (intro W'; go_simp)
           · rintro e w' ⟨he, hw⟩; exact ⟨he, hC.trans hw⟩
           refine hK _ ?_; clear hK K)
        | (refine quiet_call (by rfl) 60 #[.agg #[.pointer (some ⟨ib, 0, none⟩), .int .i64 gb], .int .i64 s, .int .u8 bb] ?_ (.agg #[.pointer (some ⟨ib, 0, none⟩), .int .i64 ((gb + s + 1 : Nat) : Int)]) (fun W' hC => (D2.out W' hC).mono ?_) ?_
           · (intro W'; go_simp)
           · rintro e w' ⟨he, hw⟩; exact ⟨he, hC.trans hw⟩
           refine hK _ ?_; clear hK K)
        | (refine quiet_call (by rfl) 39 #[.agg #[.pointer kp, .int .i64 0], .agg #[.pointer (some ⟨ib, 0, none⟩), .int .i64 ((gb + s + 1 : Nat) : Int)]] ?_ (.int .i64 res) (fun W' hC => (D3.out W' hC).mono ?_) ?_
           · (intro W'; go_simp)
           · rintro e w' ⟨he, hw⟩; exact ⟨he, hC.trans hw⟩
           refine hK _ ?_; clear hK K)
        | (refine quiet_pure (v := ?_) (by rfl) ?_ ?_
           rotate_left
           focus (intro W'; go_simp; try (with_reducible rfl))
           refine hK _ ?_; clear hK K)
        try simp only [Act.put, List.setIfInBounds_toArray, List.set_cons_zero, List.set_cons_succ])
      refine wpQuiet_nil ?_
      intro w6 hw6
      have HW6 := Lib.hid (Gw.trans (Gw.trans (show Gw w _ from HB2.out) G3.out) hw6)
      clear hw6
      go_wp2_with fail
      go_ret
      exact ⟨rfl, HW6.out⟩
    · have d1 : decide (s < n1) = false := decide_eq_false hs1
      have d2 : decide (s < n2) = false := decide_eq_false hs2
      have HL := Lib.hid (And.intro hs1 hs2)
      obtain ⟨fs, hfs⟩ : ∃ fs : Nat → Nat, (fun c => sh f (ka c) 0 (kb c) 0) = fs := ⟨_, rfl⟩
      have HFS := Lib.hid hfs
      have HSUMR : Hid (res = wrap64 ((sumTo fs 256 : Nat) : Int)) := by
        show _ = _
        rw [← HRES.out, sh, if_neg HN.out, if_neg (by rw [HSS.out, hlx.out]; exact HL.out.1), if_neg (by rw [HSS.out, hly.out]; exact HL.out.2), hfs]
      have K61 : Hid (∀ W (s : Nat), Gw w3 W → Calls Tryz.prog 61 #[.pointer (some ⟨ia, 0, none⟩), .int .i64 s] W fun e W' => ∃ r, NextK (fun b => (ka b).ptr) s r ∧ e = .returned (.tuple #[.int .u8 r.1, .pointer (pt r.2)]) ∧ Gw W W') := fun W s g =>
        (next61 (HS3.out.step g) RA.out.1 s).mono fun e w'' ⟨r, h1, h2, z, h3⟩ => by
          subst h3
          exact ⟨r, h1, h2, (Gw.refl _).drewN z⟩
      have K38 : Hid (∀ W (b : Nat), b < 256 → Gw w3 W → Calls Tryz.prog 38 #[.pointer (some ⟨ib, 0, none⟩), .int .u8 b] W fun e W' => ∃ kp, kp = pt (kb b).ptr ∧ e = .returned (.pointer kp) ∧ Gw W W') := fun W b hb g =>
        (kid38 (HS3.out.step g) RB.out.1 b hb).mono fun e w'' ⟨h1, z, h3⟩ => by
          subst h3
          exact ⟨_, rfl, h1, (Gw.refl _).drewN z⟩
      have K39 : Hid (∀ W (b a : Nat) kp, (ka b).ptr = some a → kp = pt (kb b).ptr → Gw w3 W → Calls Tryz.prog 39 #[.agg #[.pointer (some ⟨a, 0, none⟩), .int .i64 0], .agg #[.pointer kp, .int .i64 0]] W fun e w' => e = .returned (.int .i64 (wrap64 (fs b))) ∧ Gw W w') := fun W b a kp hka hkp g => by
        have hfa := RA.out.fit (HS3.out.fit)
        have hfb := RB.out.fit (HS3.out.fit)
        have hca := cnt_kid ia oa pa va h1 la ka hfa b
        have hcb := cnt_kid ib ob pb vb h2 lb kb hfb b
        have := HH.out W (ka b) (kb b) 0 0 (ha ++ pa ++ [(b : Int)]) (hb ++ pb ++ [(b : Int)]) (HS3.out.step g) (Nat.le_trans HBS.out g.size) (RA.out.2 b) (RB.out.2 b) (HQ.out.2.1.2 b) (HQ.out.2.2.1.2 b) (by have := HQ.out.2.2.2.1; omega)
          (Nat.zero_le _) (Nat.zero_le _) (by have := HQ.out.2.2.2.2; omega)
        rw [hka] at this
        rw [hkp, ← congrFun HFS.out b]
        exact this
      have G4 := Lib.hid ((Gw.refl w3).drewN z)
      have c4 := (K4.out _ (G3.out.trans G4.out)).1
      clear hs1 hs2 hfs
      go_wp2_with fail
      refine (K61.out _ 0 G4.out).mono ?_; rintro e w5 ⟨r, hnk, rfl, hg5⟩
      have NK := Lib.hid hnk
      have G5 := Lib.hid (G4.out.trans hg5)
      obtain ⟨pr, hpr⟩ : ∃ pr, pt r.2 = pr := ⟨_, rfl⟩
      obtain ⟨rb', hrb⟩ : ∃ rb' : Int, ((r.1 : Nat) : Int) = rb' := ⟨_, rfl⟩
      rw [hpr, hrb]
      have HPR := Lib.hid (And.intro hpr hrb)
      clear hpr hrb hnk hg5 c4
      go_wp2_with fail
      go_loopg [8, 9, 10] 257 (fun gk m x q wr => ∃ (s : Nat) (r : Nat × Option Nat), gk = 257 - s ∧ s ≤ 256 ∧ (∃ y, m = .int .i64 y ∧ Hid (y = wrap64 ((sumTo fs s : Nat) : Int))) ∧ x = .int .u8 r.1 ∧ q = .pointer (pt r.2) ∧ Hid (NextK (fun b => (ka b).ptr) s r) ∧ Hid (Gw w3 wr))
      case atStart => exact ⟨0, r, by omega, by omega, ⟨_, rfl, by show _ = _; simp [sumTo, wrap64]⟩, by rw [HPR.out.2], by rw [HPR.out.1], NK.out, G5.out⟩
      case round =>
        obtain ⟨s', ⟨b, a⟩, hgk, hs, ⟨y, rfl, hy⟩, rfl, rfl, hnk, hgw⟩ := hrel
        have HGK := Lib.hid hgk
        have HS2 := Lib.hid hs
        clear hgk hs
        simp only
        cases a with
        | none =>
          have he := Lib.hid (next_end hnk.out)
          simp only [pt]
          go_wp2_with fail
          go_ret
          refine ⟨ret_int ?_, Gw.trans (Gw.trans (show Gw w _ from HB2.out) G3.out) hgw.out⟩
          rw [hy.out, HSUMR.out, sumTo_skip s' 256 HS2.out (fun c h1 h2 => by rw [← congrFun HFS.out c, he.out c h1 h2]; exact sh_nil_left _ _ _ _)]
        | some a =>
          obtain ⟨hb, hsb, hka, hz⟩ := next_step hnk.out
          have HB1 := Lib.hid (show b < 256 ∧ s' ≤ b from ⟨hb, hsb⟩)
          have HKA := Lib.hid hka
          have HSUM : Hid (sumTo fs (b + 1) = sumTo fs s' + fs b) := by
            show _ = _
            simp only [sumTo]
            rw [sumTo_skip s' b hsb (fun c h1 h2 => by rw [← congrFun HFS.out c, hz c h1 h2]; exact sh_nil_left _ _ _ _)]
          have hn := run_neq_pointer_nil (P := Tryz.prog) wr 48 (some ⟨a, 0, none⟩) (by kernel_rfl)
          have c5 := (K4.out _ (G3.out.trans hgw.out)).2.2.1
          clear hb hsb hz hka
          simp only [pt]
          go_wp2_with fail
          refine (K38.out _ b HB1.out.1 hgw.out).mono ?_; rintro e w6 ⟨kp, hkp, rfl, hg6⟩
          have HKP := Lib.hid hkp
          have G6 := Lib.hid (hgw.out.trans hg6)
          clear hkp hg6 hn c5
          go_wp2_with fail
          refine (K39.out _ b a kp HKA.out HKP.out G6.out).mono ?_; rintro e w7 ⟨rfl, hg7⟩
          have G7 := Lib.hid (G6.out.trans hg7)
          have c7 := (K4.out _ (G3.out.trans G7.out)).1
          have q1 : wrap64 ((b : Int) + 1) = (b : Int) + 1 := IntWalk.wrap64_in _ (by have := HB1.out; omega)
          have q3 : wrap64 (b : Int) = (b : Int) := IntWalk.wrap64_in _ (by have := HB1.out; omega)
          clear hg7
          go_wp2_with fail
          refine (K61.out _ (b + 1) G7.out).mono ?_; rintro e w8 ⟨r5, nk5, rfl, hg8⟩
          have NK5 := Lib.hid nk5
          have G8 := Lib.hid (G7.out.trans hg8)
          clear nk5 hg8
          go_wp2_with fail
          go_roundg (257 - (b + 1))
          case measure => rw [HGK.out]; have := HB1.out; omega
          case rel => exact ⟨b + 1, r5, rfl, by have := HB1.out; omega, ⟨_, rfl, by show _ = _; rw [hy.out, HSUM.out, wrap_add, Int.natCast_add]⟩, rfl, rfl, NK5.out, G8.out⟩
end
end Go.Proofs.YtbihlmkjoplkoaaGreatDoor
