/-
  The walk of the statement WidePlays.
-/
import Derived.Test.YthohpeinmkdfeaaLaw10p
namespace Go.Proofs.Ythohpeinmkdfeaa
open Go.RowKit
set_option linter.unusedVariables false

set_option maxRecDepth 100000 in
set_option maxHeartbeats 1600000 in
theorem plays_bad (room : Int) (p : Option Addr) (n c : Nat) (from' : Int) (w : World) (h1 : ¬ room = 48) (h2 : ¬ room = 256) :
    Calls Try.prog 6 #[.int .i64 room, .slice p n c, .int .i64 from'] w fun e w' => e = .returned (.bool true) ∧ Below w.heap.size w w' := by
  have H1 := Lib.hid h1
  have H2 := Lib.hid h2
  clear h1 h2
  go_enter Try.func6, Try.ntmps6
  go_wp2_with fail
  refine (new12_no room w H1.out H2.out).mono ?_
  rintro e w1 ⟨rfl, hw1⟩
  rw [hw1]; clear hw1 w1
  go_wp2_with fail
  refine (new27_no room w H1.out H2.out).mono ?_
  rintro e w2 ⟨cs, hr, rfl, hB⟩
  have HR := Lib.hid hr
  have HB := Lib.hid hB
  have HI : Hid ((Try.prog.info? 72).map (·.size) = some cs.size) := by show _ = _; rw [hr.size]; exact size72
  clear hr hB
  go_wp2_with (refine wpList_store_new rfl 72 _ _ (by rfl) Try.zeroCells72 cs (by rfl) (by rfl) HI.out (zsize72.trans HR.out.size.symm) HR.out.one ?_; refine stop ?_)
  refine unhid ?_
  obtain ⟨w3, hw3⟩ : ∃ w3, w3 = w2.alloc (.cells cs 72) := ⟨_, rfl⟩
  rw [← hw3]
  have HB3 : Hid (Below w.heap.size w w3) := by show Below _ _ _; rw [hw3]; exact HB.out.alloc HB.out.size _
  clear hw3
  go_wp2_with fail
  refine (alive18 _).mono ?_; rintro e w' ⟨rfl, hbel⟩
  have HX := Lib.hid (Below.step HB3.out hbel)
  clear hbel
  go_wp2_with fail
  go_ret
  exact ⟨rfl, HX.out⟩

set_option maxRecDepth 100000 in
set_option maxHeartbeats 6400000 in
theorem plays_good (rm : Nat) (p : Option Addr) (n c : Nat) (from' : Int) (w : World) (ss : List Stp) (hrm : rm = 48 ∨ rm = 256) (w0 : RawS w p n c ss) :
    Calls Try.prog 6 #[.int .i64 rm, .slice p n c, .int .i64 from'] w fun e w' => e = .returned (.bool true) ∧ Below w.heap.size w w' := by
  have hcap := w0.cap
  have hbig := w0.big
  have HRS := Lib.hid w0
  have HRM := Lib.hid hrm
  clear w0 hrm
  obtain ⟨k1, hk1, hk1n, hk1b⟩ : ∃ k1 : Nat, (if (30 : Int) < (n : Int) then (30 : Int) else (n : Int)) = (k1 : Int) ∧ k1 ≤ n ∧ k1 ≤ 30 := by
    by_cases h : n ≤ 30
    · exact ⟨n, by rw [if_neg (by omega)], by omega, h⟩
    · exact ⟨30, by rw [if_pos (by omega)]; rfl, by omega, by omega⟩
  have HK1 := Lib.hid hk1
  clear hk1
  go_enter Try.func6, Try.ntmps6
  go_wp2_with fail
  refine (new12_yes w.heap.size rm w HRM.out (Nat.le_refl _)).mono ?_
  rintro e w1 ⟨rfl, hE, hB1⟩
  have HE := Lib.hid hE
  have HB1 := Lib.hid hB1
  clear hE hB1
  go_wp2_with fail
  refine (new27_yes rm w1 HRM.out).mono ?_
  rintro e w2 ⟨cs, hr, rfl, hB⟩
  have HR := Lib.hid hr
  have HB := Lib.hid hB
  have HI : Hid ((Try.prog.info? 72).map (·.size) = some cs.size) := by show _ = _; rw [hr.size]; exact size72
  clear hr hB
  go_wp2_with (refine wpList_store_new rfl 72 _ _ (by rfl) Try.zeroCells72 cs (by rfl) (by rfl) HI.out (zsize72.trans HR.out.size.symm) HR.out.one ?_; refine stop ?_)
  refine unhid ?_
  obtain ⟨w3, hw3⟩ : ∃ w3, w3 = w2.alloc (.cells cs 72) := ⟨_, rfl⟩
  obtain ⟨b9, hb9⟩ : ∃ b9, b9 = w2.heap.size := ⟨_, rfl⟩
  rw [← hw3, ← hb9]
  have P0 : Ply w w3 rm b9 cs (fun _ => none) 0 [w.heap.size] 0 := by
    have hl := HE.out.fp_lt w.heap.size (by simp)
    have h12 := HB.out.size
    have hB3 : Below w1.heap.size w1 w3 := by rw [hw3]; exact HB.out.alloc HB.out.size _
    refine ⟨HE.out.step hB3, HR.out, by rw [hw3, hb9]; exact heap_alloc_new _ _, fun hm => ?_, Below.step HB1.out hB3, by omega, by simp⟩
    simp at hm; omega
  have PH := Lib.hid P0
  clear P0 hw3 hb9 HE HB1 HR HB HI
  go_wp2_with (refine wpList_min rfl _ _ 3 (by rfl) n 30 k1 (by rfl) (by rfl) HK1.out ?_; refine stop ?_)
  refine unhid ?_
  have hmz : (0 : Int) ≤ (k1 : Int) := by omega
  have hmc : (k1 : Int) ≤ (c : Int) := by omega
  go_wp2_with fail
  go_loopw [11, 53] (fun u t wr => ∃ (k : Nat) (most : Int) (cs : Array Value) (f : Nat → Option Int) (U : Nat) (fp : List Nat), u = .int .i64 most ∧ t = .int .i64 k ∧ k ≤ k1 ∧ Hid (Ply w wr rm b9 cs f U fp most)) (fun _ t _ => k1 - (intOf t).toNat)
  case atStart => exact ⟨0, 0, _, _, _, _, rfl, rfl, by omega, PH⟩
  case round =>
    clear PH
    obtain ⟨k, most, cs, f, U, fp, rfl, rfl, hk, hinv⟩ := hrel
    by_cases hlt : k < k1
    · obtain ⟨bs, o, rfl, hc⟩ := HRS.out.cells (by omega)
      obtain ⟨⟨sd, sb, sm, sx⟩, hst⟩ : ∃ s, ss[k]? = some s := ⟨ss[k]'(by rw [HRS.out.len]; omega), List.getElem?_eq_getElem (by rw [HRS.out.len]; omega)⟩
      obtain ⟨g0, g1, g2, g3⟩ := hc k _ hst
      obtain ⟨sm1, sm2, _, _⟩ := HRS.out.small _ (List.mem_of_getElem? hst)
      simp only at g0 g1 g2 g3 sm1 sm2
      have hbl : bs < w.heap.size := block_lt_of_cell g0
      rw [← hinv.out.below.cell (p := ⟨bs, _, none⟩) hbl] at g0 g1 g2 g3
      have d0 : decide ((k : Int) < (k1 : Int)) = true := by simp; omega
      obtain ⟨r, hr, hr7⟩ : ∃ r : Nat, (sm : Int) % 70 = (r : Int) ∧ r < 70 := ⟨sm % 70, by omega, by omega⟩
      obtain ⟨xm, hxm, hx1, hx2⟩ : ∃ xm : Int, sx.tmod 1000 = xm ∧ -1000 < xm ∧ xm < 1000 := by
        refine ⟨_, rfl, ?_, ?_⟩
        · have := Int.lt_tmod_of_pos sx (show (0 : Int) < 1000 by omega); omega
        · exact Int.tmod_lt_of_pos sx (by omega)
      have q9 : IntKind.i64.wrap ((r : Int) + 1) = (r : Int) + 1 := IntWalk.i64_in _ (by omega)
      clear hc hst
      go_wp2_with fail
      obtain ⟨b8, hb8⟩ : ∃ b8, b8 = wr.heap.size := ⟨_, rfl⟩
      obtain ⟨W2, hW2⟩ : ∃ W2, W2 = wr.alloc (.cells #[.bool sd, .int .u8 sb, .int .u8 sm, .int .i64 sx] 29) := ⟨_, rfl⟩
      rw [← hW2, ← hb8]
      have i2 : Ply w W2 rm b9 cs f U fp most := by rw [hW2]; exact hinv.out.step ((Below.refl _ _).alloc (Nat.le_refl _) _)
      have k2 : Cop3 W2 b8 b9 sd sb sx fp := by
        have hl := hinv.out.lt
        rw [hW2, hb8]
        exact ⟨(Var.new rfl rfl).cell, (Var.new rfl rfl).cell, (Var.new rfl rfl).cell, fun hm => by have := (hinv.out.bd.fp_lt _ hm).2; omega, by omega⟩
      have I2 := Lib.hid i2
      have K2 := Lib.hid k2
      clear hW2 hb8 i2 k2 g0 g1 g2 g3 hinv
      go_loopw [11, 62] (fun u t wr2 => ∃ (i : Nat) (most : Int) (cs : Array Value) (f : Nat → Option Int) (U : Nat) (fp : List Nat), u = .int .i64 most ∧ t = .int .i64 i ∧ i ≤ r + 1 ∧ Hid (Ply w wr2 rm b9 cs f U fp most) ∧ Hid (Cop3 wr2 b8 b9 sd sb sx fp)) (fun _ t _ => r + 1 - (intOf t).toNat)
      case atStart => exact ⟨0, _, _, _, _, _, rfl, rfl, by omega, I2, K2⟩
      case round =>
        clear I2 K2
        obtain ⟨i, most, cs, f, U, fp, rfl, rfl, hi, hinv, hcop⟩ := hrel
        by_cases hli : i < r + 1
        · have d1 : decide ((i : Int) < (r : Int) + 1) = true := by simp; omega
          have q0 : IntKind.u8.wrap (i : Int) = (i : Int) := IntWalk.u8_in _ (by omega)
          obtain ⟨bb, hbb, hb6⟩ : ∃ bb : Nat, IntKind.u8.wrap ((sb : Int) + (i : Int)) = (bb : Int) ∧ bb < 256 := by
            refine ⟨(sb + i) % 256, ?_, by omega⟩
            rw [IntKind.wrap_u8]; omega
          have c0 := hcop.out.c0
          have c1 := hcop.out.c1
          have c3 := hcop.out.c3
          have b0 : (0 : Int) ≤ (bb : Int) := by omega
          have b1 : (bb : Int) < 256 := by omega
          have q2 : IntKind.i64.wrap (bb : Int) = (bb : Int) := IntWalk.i64_in _ (by omega)
          have q3 : IntKind.i64.wrap ((bb : Int) + xm) = (bb : Int) + xm := IntWalk.i64_in _ (by omega)
          have q4 : IntKind.i64.wrap xm = xm := IntWalk.i64_in _ (by omega)
          cases sd with
          | true =>
            go_wp2_with fail
            refine (dropN hinv.out.bd hinv.out.below.size bb hb6).mono ?_
            rintro e w3 ⟨n1, U', fp', rfl, hN, hT⟩
            have HT := Lib.hid hT
            have HN := Lib.hid hN
            have HRow := Lib.hid (hinv.out.row3 hT)
            have KM := (hcop.out.mid hT.exc)
            have k0 := KM.c0
            have k1' := KM.c1
            have k3 := KM.c3
            clear hT hN c0 c1 c3 KM
            go_wp2_with (refine wpList_load72 (by rfl) _ (by rfl) b9 (by rfl) cs HRow.out hinv.out.rf.size ?_; refine stop ?_)
            refine unhid ?_
            go_wp2_with fail
            refine (drop28 cs rm f bb n1 w3 hinv.out.rf hb6 HN.out).mono ?_
            rintro e w4 ⟨cs', hr', rfl, hB4⟩
            obtain ⟨m', hm'⟩ : ∃ m' : Int, (if (cntF (updF f bb none) : Int) > most then (cntF (updF f bb none) : Int) else most) = m' := ⟨_, rfl⟩
            have HM := Lib.hid hm'
            have I3 := Lib.hid (hinv.out.turn HT.out hB4 hr' hm')
            have K3 := Lib.hid (hcop.out.turn HT.out hB4 cs')
            have HRow4 := Lib.hid ((hB4.block b9 (lt_of_row HRow.out)).trans HRow.out)
            have HR' := Lib.hid hr'
            clear hr' hB4 hm' k0 k1' k3
            go_wp2_with (refine wpList_store72 rfl _ _ (by rfl) b9 cs' (by rfl) (by rfl) cs HRow4.out HR'.out.size hinv.out.rf.size HR'.out.one ?_; refine stop ?_)
            refine unhid ?_
            obtain ⟨w5, hw5⟩ : ∃ w5, w5 = w4.setRow b9 cs' := ⟨_, rfl⟩
            rw [← hw5] at I3 K3 ⊢
            clear hw5 HRow4 HRow HR' HT HN
            have hg := getE I3.out.bd bb hb6
            have hu := I3.out.used
            have e1 := I3.out.has bb hb6
            have e2 := I3.out.val bb hb6
            obtain ⟨xv, hxv⟩ : ∃ xv, xv = valO ((updF f bb none) bb) := ⟨_, rfl⟩
            obtain ⟨kv, hkv⟩ : ∃ kv, kv = ((updF f bb none) bb).isSome := ⟨_, rfl⟩
            rw [← hxv] at hg e2
            rw [← hkv] at hg e1
            have HG := Lib.hid hg
            have u1 : decide (m' < (U' : Int)) = false := by simp; omega
            have u2 : (n1 != n1) = false := by simp
            have u3 : (kv != kv) = false := by simp
            have u4 : (xv != xv) = false := by simp
            clear hg hu hxv hkv
            go_wp2_with fail
            refine (lenE I3.out.bd).mono ?_
            rintro e w' ⟨rfl, hw'⟩
            rw [hw']; clear hw' w'
            go_wp2_with (refine wpList_max rfl _ _ 3 (by rfl) most (cntF (updF f bb none)) m' (by rfl) (by rfl) HM.out ?_; refine stop ?_)
            refine unhid ?_
            go_wp2_with fail
            refine HG.out.mono ?_
            rintro e w6 ⟨rfl, z, hw6⟩
            have I6 : Hid (Ply w w6 rm b9 cs' (updF f bb none) U' fp' m') := by show Ply _ _ _ _ _ _ _ _ _; rw [hw6]; exact I3.out.drewN z
            have K6 : Hid (Cop3 w6 b8 b9 true sb sx fp') := by show Cop3 _ _ _ _ _ _ _; rw [hw6]; exact ⟨K3.out.c0, K3.out.c1, K3.out.c3, K3.out.far, K3.out.ne⟩
            have e3 : w6.cell? ⟨b9, 1 + bb, none⟩ = some (.bool kv) := by rw [hw6]; exact e1
            have e4 : w6.cell? ⟨b9, 257 + bb, none⟩ = some (.int .i64 xv) := by rw [hw6]; exact e2
            clear hw6 HG e1 e2 I3 K3 HM
            go_wp2_with fail
            refine (usedE I6.out.bd).mono ?_
            rintro e w' ⟨rfl, hw'⟩
            rw [hw']; clear hw' w'
            go_wp2_with fail
            go_roundw
            case rel => exact ⟨i + 1, _, _, _, _, _, rfl, by go_num, by omega, I6, K6⟩
            case measure => simp [intOf]; omega
          | false =>
            go_wp2_with fail
            refine (setN hinv.out.bd hinv.out.below.size bb hb6 _).mono ?_
            rintro e w3 ⟨n1, f', U', fp', rfl, hN, hT⟩
            have HT := Lib.hid hT
            have HN := Lib.hid hN
            have HRow := Lib.hid (hinv.out.row3 hT)
            have KM := (hcop.out.mid hT.exc)
            have k0 := KM.c0
            have k1' := KM.c1
            have k3 := KM.c3
            clear hT hN c0 c1 c3 KM
            go_wp2_with (refine wpList_load72 (by rfl) _ (by rfl) b9 (by rfl) cs HRow.out hinv.out.rf.size ?_; refine stop ?_)
            refine unhid ?_
            go_wp2_with fail
            refine (set29 cs rm f f' bb _ n1 w3 hinv.out.rf hb6 HN.out).mono ?_
            rintro e w4 ⟨cs', hr', rfl, hB4⟩
            obtain ⟨m', hm'⟩ : ∃ m' : Int, (if (cntF f' : Int) > most then (cntF f' : Int) else most) = m' := ⟨_, rfl⟩
            have HM := Lib.hid hm'
            have I3 := Lib.hid (hinv.out.turn HT.out hB4 hr' hm')
            have K3 := Lib.hid (hcop.out.turn HT.out hB4 cs')
            have HRow4 := Lib.hid ((hB4.block b9 (lt_of_row HRow.out)).trans HRow.out)
            have HR' := Lib.hid hr'
            clear hr' hB4 hm' k0 k1' k3
            go_wp2_with (refine wpList_store72 rfl _ _ (by rfl) b9 cs' (by rfl) (by rfl) cs HRow4.out HR'.out.size hinv.out.rf.size HR'.out.one ?_; refine stop ?_)
            refine unhid ?_
            obtain ⟨w5, hw5⟩ : ∃ w5, w5 = w4.setRow b9 cs' := ⟨_, rfl⟩
            rw [← hw5] at I3 K3 ⊢
            clear hw5 HRow4 HRow HR' HT HN
            have hg := getE I3.out.bd bb hb6
            have hu := I3.out.used
            have e1 := I3.out.has bb hb6
            have e2 := I3.out.val bb hb6
            obtain ⟨xv, hxv⟩ : ∃ xv, xv = valO (f' bb) := ⟨_, rfl⟩
            obtain ⟨kv, hkv⟩ : ∃ kv, kv = (f' bb).isSome := ⟨_, rfl⟩
            rw [← hxv] at hg e2
            rw [← hkv] at hg e1
            have HG := Lib.hid hg
            have u1 : decide (m' < (U' : Int)) = false := by simp; omega
            have u2 : (n1 != n1) = false := by simp
            have u3 : (kv != kv) = false := by simp
            have u4 : (xv != xv) = false := by simp
            clear hg hu hxv hkv
            go_wp2_with fail
            refine (lenE I3.out.bd).mono ?_
            rintro e w' ⟨rfl, hw'⟩
            rw [hw']; clear hw' w'
            go_wp2_with (refine wpList_max rfl _ _ 3 (by rfl) most (cntF f') m' (by rfl) (by rfl) HM.out ?_; refine stop ?_)
            refine unhid ?_
            go_wp2_with fail
            refine HG.out.mono ?_
            rintro e w6 ⟨rfl, z, hw6⟩
            have I6 : Hid (Ply w w6 rm b9 cs' f' U' fp' m') := by show Ply _ _ _ _ _ _ _ _ _; rw [hw6]; exact I3.out.drewN z
            have K6 : Hid (Cop3 w6 b8 b9 false sb sx fp') := by show Cop3 _ _ _ _ _ _ _; rw [hw6]; exact ⟨K3.out.c0, K3.out.c1, K3.out.c3, K3.out.far, K3.out.ne⟩
            have e3 : w6.cell? ⟨b9, 1 + bb, none⟩ = some (.bool kv) := by rw [hw6]; exact e1
            have e4 : w6.cell? ⟨b9, 257 + bb, none⟩ = some (.int .i64 xv) := by rw [hw6]; exact e2
            clear hw6 HG e1 e2 I3 K3 HM
            go_wp2_with fail
            refine (usedE I6.out.bd).mono ?_
            rintro e w' ⟨rfl, hw'⟩
            rw [hw']; clear hw' w'
            go_wp2_with fail
            go_roundw
            case rel => exact ⟨i + 1, _, _, _, _, _, rfl, by go_num, by omega, I6, K6⟩
            case measure => simp [intOf]; omega
        · obtain rfl : i = r + 1 := by omega
          have d1 : decide (((r + 1 : Nat) : Int) < (r : Int) + 1) = false := by simp
          have c1 := hcop.out.c1
          have q2 : IntKind.i64.wrap (sb : Int) = (sb : Int) := IntWalk.i64_in _ (by omega)
          have hnot : ∀ (x : Bool) (w : World), (Op.unary .not (.bool x)).run Try.prog w = .ok (.bool (!x)) w := fun _ _ => rfl
          go_wp2_with (refine wpList_load72 (by rfl) _ (by rfl) b9 (by rfl) cs hinv.out.row hinv.out.rf.size ?_; refine stop ?_)
          refine unhid ?_
          go_wp2_with fail
          refine (as31 cs from' _ hinv.out.bd hinv.out.rf).mono ?_
          rintro e w3 ⟨rfl, hB3⟩
          have I3 := Lib.hid (hinv.out.step hB3)
          have k1' := (hcop.out.step hB3).c1
          clear hB3 c1
          go_wp2_with (refine wpList_load72 (by rfl) _ (by rfl) b9 (by rfl) cs I3.out.row I3.out.rf.size ?_; refine stop ?_)
          refine unhid ?_
          go_wp2_with fail
          refine (as31 cs sb _ I3.out.bd I3.out.rf).mono ?_
          rintro e w4 ⟨rfl, hB4⟩
          have I4 := Lib.hid (I3.out.step hB4)
          clear hB4 k1'
          go_wp2_with fail
          go_roundw
          case rel => exact ⟨k + 1, most, cs, f, U, fp, rfl, by go_num, by omega, I4⟩
          case measure => simp [intOf]; omega
    · obtain rfl : k = k1 := by omega
      have d0 : decide ((k : Int) < (k : Int)) = false := by simp
      go_wp2_with fail
      refine (alive18 _).mono ?_; rintro e w' ⟨rfl, hbel⟩
      have HX := Lib.hid (Below.step hinv.out.below hbel)
      clear hbel
      go_wp2_with fail
      go_ret
      exact ⟨rfl, HX.out⟩

theorem walkWidePlays (room : Int) (p : Option Addr) (n c : Nat) (from' : Int) (w : World) (e0 : (Lit.int .i64 room).wf = true) (w0 : ∃ ss, RawS w p n c ss) (e2 : (Lit.int .i64 from').wf = true) :
    Calls Try.prog 6 #[.int .i64 room, .slice p n c, .int .i64 from'] w fun e w' => e = .returned (.bool true) ∧ Below w.heap.size w w' := by
  obtain ⟨ss, h1⟩ := w0
  by_cases e1 : room = 48
  · subst e1; exact plays_good 48 p n c from' w ss (Or.inl rfl) h1
  · by_cases e2 : room = 256
    · subst e2; exact plays_good 256 p n c from' w ss (Or.inr rfl) h1
    · exact plays_bad room p n c from' w e1 e2

end Go.Proofs.Ythohpeinmkdfeaa
