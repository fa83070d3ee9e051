/-
  The walk of the statement SmallPlays.
-/
import Derived.Test.YthohpeinmkdfeaaLaw09
namespace Go.Proofs.Ythohpeinmkdfeaa
open Go.RowKit
set_option linter.unusedVariables false

set_option maxRecDepth 100000 in
set_option maxHeartbeats 1600000 in
theorem splays_bad (room : Int) (p : Option Addr) (n c : Nat) (from' : Int) (w : World) (h1 : room < 1 ∨ 16 < room) :
    Calls Try.prog 9 #[.int .i64 room, .slice p n c, .int .i64 from'] w fun e w' => e = .returned (.bool true) ∧ Below w.heap.size w w' := by
  have H1 := Lib.hid h1
  clear h1
  go_enter Try.func9, Try.ntmps9
  go_wp2_with fail
  refine (new40_no room w H1.out).mono ?_
  rintro e w1 ⟨rfl, hw1⟩
  rw [hw1]; clear hw1 w1
  go_wp2_with fail
  refine (new41_no room w H1.out).mono ?_
  rintro e w2 ⟨cs, hr, rfl, hB⟩
  have HR := Lib.hid hr
  have HB := Lib.hid hB
  have HI : Hid ((Try.prog.info? 72).map (·.size) = some cs.size) := by show _ = _; rw [hr.size]; exact size72
  clear hr hB
  go_wp2_with (refine wpList_store_new rfl 72 _ _ (by rfl) Try.zeroCells72 cs (by rfl) (by rfl) HI.out (zsize72.trans HR.out.size.symm) HR.out.one ?_; refine stop ?_)
  refine unhid ?_
  obtain ⟨w3, hw3⟩ : ∃ w3, w3 = w2.alloc (.cells cs 72) := ⟨_, rfl⟩
  rw [← hw3]
  have HB3 : Hid (Below w.heap.size w w3) := by show Below _ _ _; rw [hw3]; exact HB.out.alloc HB.out.size _
  clear hw3
  go_wp2_with fail
  refine (alive42 _).mono ?_; rintro e w' ⟨rfl, hbel⟩
  have HX := Lib.hid (Below.step HB3.out hbel)
  clear hbel
  go_wp2_with fail
  go_ret
  exact ⟨rfl, HX.out⟩

set_option maxRecDepth 100000 in
set_option maxHeartbeats 6400000 in
theorem splays_good (rm : Nat) (p : Option Addr) (n c : Nat) (from' : Int) (w : World) (ss : List Stp3) (hrm : 1 ≤ rm ∧ rm ≤ 16) (w0 : RawS3 w p n c ss) :
    Calls Try.prog 9 #[.int .i64 rm, .slice p n c, .int .i64 from'] w fun e w' => e = .returned (.bool true) ∧ Below w.heap.size w w' := by
  have hcap := w0.cap
  have hbig := w0.big
  have HRS := Lib.hid w0
  have HRM := Lib.hid hrm
  obtain ⟨fb, hfb, hfb2⟩ : ∃ fb : Nat, IntKind.u8.wrap from' = (fb : Int) ∧ fb < 256 := by
    refine ⟨(from' % 256).toNat, ?_, by omega⟩
    rw [IntKind.wrap_u8]; omega
  clear w0 hrm
  obtain ⟨k1, hk1, hk1n, hk1b⟩ : ∃ k1 : Nat, (if (60 : Int) < (n : Int) then (60 : Int) else (n : Int)) = (k1 : Int) ∧ k1 ≤ n ∧ k1 ≤ 60 := by
    by_cases h : n ≤ 60
    · exact ⟨n, by rw [if_neg (by omega)], by omega, h⟩
    · exact ⟨60, by rw [if_pos (by omega)]; rfl, by omega, by omega⟩
  have HK1 := Lib.hid hk1
  clear hk1
  go_enter Try.func9, Try.ntmps9
  go_wp2_with fail
  refine (new40_yes rm w HRM.out).mono ?_
  rintro e w1 ⟨rfl, hE, hB1⟩
  have HE := Lib.hid hE
  have HB1 := Lib.hid hB1
  clear hE hB1
  go_wp2_with fail
  refine (new41_yes rm w1 (by have := HRM.out; omega) (by have := HRM.out; omega)).mono ?_
  rintro e w2 ⟨cs, hr, rfl, hB⟩
  have HR := Lib.hid hr
  have HB := Lib.hid hB
  have HI : Hid ((Try.prog.info? 72).map (·.size) = some cs.size) := by show _ = _; rw [hr.size]; exact size72
  clear hr hB
  go_wp2_with (refine wpList_store_new rfl 72 _ _ (by rfl) Try.zeroCells72 cs (by rfl) (by rfl) HI.out (zsize72.trans HR.out.size.symm) HR.out.one ?_; refine stop ?_)
  refine unhid ?_
  obtain ⟨w3, hw3⟩ : ∃ w3, w3 = w2.alloc (.cells cs 72) := ⟨_, rfl⟩
  obtain ⟨b9, hb9⟩ : ∃ b9, b9 = w2.heap.size := ⟨_, rfl⟩
  rw [← hw3, ← hb9]
  have P0 : Sly w w3 rm b9 cs (fun _ => none) := by
    have hl := HE.out.lt
    have h12 := HB.out.size
    have hB3 : Below w1.heap.size w1 w3 := by rw [hw3]; exact HB.out.alloc HB.out.size _
    exact ⟨HE.out.step hB3, HR.out, by rw [hw3, hb9]; exact heap_alloc_new _ _, Below.step HB1.out hB3, by omega⟩
  have PH := Lib.hid P0
  clear P0 hw3 hb9 HE HB1 HR HB HI
  go_wp2_with (refine wpList_min rfl _ _ 3 (by rfl) n 60 k1 (by rfl) (by rfl) HK1.out ?_; refine stop ?_)
  refine unhid ?_
  have hmz : (0 : Int) ≤ (k1 : Int) := by omega
  have hmc : (k1 : Int) ≤ (c : Int) := by omega
  go_wp2_with fail
  go_loopw [48] (fun t wr => ∃ (k : Nat) (cs : Array Value) (f : Nat → Option Int), t = .int .i64 k ∧ k ≤ k1 ∧ Hid (Sly w wr rm b9 cs f)) (fun t _ => k1 - (intOf t).toNat)
  case atStart => exact ⟨0, _, _, rfl, by omega, PH⟩
  case round =>
    clear PH
    obtain ⟨k, cs, f, rfl, hk, hinv⟩ := hrel
    by_cases hlt : k < k1
    · obtain ⟨bs, o, rfl, hc⟩ := HRS.out.cells (by omega)
      obtain ⟨⟨sd, sb, sx⟩, hst⟩ : ∃ s, ss[k]? = some s := ⟨ss[k]'(by rw [HRS.out.len]; omega), List.getElem?_eq_getElem (by rw [HRS.out.len]; omega)⟩
      obtain ⟨g0, g1, g2⟩ := hc k _ hst
      obtain ⟨sm1, _, _⟩ := HRS.out.small _ (List.mem_of_getElem? hst)
      simp only at g0 g1 g2 sm1
      have hbl : bs < w.heap.size := block_lt_of_cell g0
      rw [← hinv.out.below.cell (p := ⟨bs, _, none⟩) hbl] at g0 g1 g2
      have d0 : decide ((k : Int) < (k1 : Int)) = true := by simp; omega
      have q2 : IntKind.i64.wrap (sb : Int) = (sb : Int) := IntWalk.i64_in _ (by omega)
      have hnot : ∀ (x : Bool) (w : World), (Op.unary .not (.bool x)).run Try.prog w = .ok (.bool (!x)) w := fun _ _ => rfl
      obtain ⟨b8, hb8⟩ : ∃ b8, b8 = wr.heap.size := ⟨_, rfl⟩
      obtain ⟨W2, hW2⟩ : ∃ W2, W2 = wr.alloc (.cells #[.bool sd, .int .u8 sb, .int .i64 sx] 105) := ⟨_, rfl⟩
      have i2 : Sly w W2 rm b9 cs f := by rw [hW2]; exact hinv.out.step ((Below.refl _ _).alloc (Nat.le_refl _) _)
      have k2 : Cop5 w W2 b8 b9 sd sb sx := by
        have hl := hinv.out.lt
        have ho := hinv.out.old
        rw [hW2, hb8]
        exact ⟨(Var.new rfl rfl).cell, (Var.new rfl rfl).cell, (Var.new rfl rfl).cell, by omega, by omega⟩
      have I2 := Lib.hid i2
      have K2 := Lib.hid k2
      have HW2 := Lib.hid hW2
      have c0 := k2.c0
      have c1 := k2.c1
      have c2 := k2.c2
      have HB8 := Lib.hid hb8
      clear hc hst hW2 i2 k2 hinv hb8
      have hinv := I2
      have hcop := K2
      clear I2 K2
      cases sd with
      | true =>
        go_wp2_with (rw [← HW2.out, ← HB8.out])
        refine (dropS hinv.out.sm sb sm1).mono ?_
        rintro e w3 ⟨n1, rfl, hN, hS3, hX⟩
        have HS3 := Lib.hid hS3
        have HX := Lib.hid hX
        have HN := Lib.hid hN
        have HRow := Lib.hid (hinv.out.row3 hX)
        have KM := (hcop.out.mid hX)
        have HK := Lib.hid KM
        have k0 := KM.c0
        have k1' := KM.c1
        have k3 := KM.c2
        clear hS3 hX hN c0 c1 c2 KM HW2 HB8
        go_wp2_with (refine wpList_load72 (by rfl) _ (by rfl) b9 (by rfl) cs HRow.out hinv.out.rf.size ?_; refine stop ?_)
        refine unhid ?_
        go_wp2_with fail
        refine (drop28 cs rm f sb n1 w3 hinv.out.rf sm1 HN.out).mono ?_
        rintro e w4 ⟨cs', hr', rfl, hB4⟩
        have I3 := Lib.hid (hinv.out.turn HS3.out HX.out hB4 hr')
        have K3 := Lib.hid ((HK.out.step hB4).row cs')
        have HRow4 := Lib.hid ((hB4.block b9 (lt_of_row HRow.out)).trans HRow.out)
        have HR' := Lib.hid hr'
        clear hr' hB4 k0 k1' k3
        go_wp2_with (refine wpList_store72 rfl _ _ (by rfl) b9 cs' (by rfl) (by rfl) cs HRow4.out HR'.out.size hinv.out.rf.size HR'.out.one ?_; refine stop ?_)
        refine unhid ?_
        obtain ⟨w5, hw5⟩ : ∃ w5, w5 = w4.setRow b9 cs' := ⟨_, rfl⟩
        rw [← hw5] at I3 K3 ⊢
        clear hw5 HRow4 HRow HR' HS3 HX HN HK
        have u2 : (n1 != n1) = false := by simp
        have k1' := K3.out.c1
        go_wp2_with (refine wpList_load72 (by rfl) _ (by rfl) b9 (by rfl) cs' I3.out.row I3.out.rf.size ?_; refine stop ?_)
        refine unhid ?_
        go_wp2_with fail
        refine (as45 cs' sb from' _ I3.out.sm I3.out.rf sm1).mono ?_
        rintro e w6 ⟨rfl, hB6⟩
        have I6 := Lib.hid (I3.out.step hB6)
        have K6 := Lib.hid (K3.out.step hB6)
        clear hB6 I3 K3 k1'
        have k1' := K6.out.c1
        go_wp2_with (refine wpList_load72 (by rfl) _ (by rfl) b9 (by rfl) cs' I6.out.row I6.out.rf.size ?_; refine stop ?_)
        refine unhid ?_
        go_wp2_with fail
        refine (as45 cs' fb sb _ I6.out.sm I6.out.rf hfb2).mono ?_
        rintro e w7 ⟨rfl, hB7⟩
        have I7 := Lib.hid (I6.out.step hB7)
        clear hB7 k1' I6 K6
        go_wp2_with fail
        go_roundw
        case rel => exact ⟨k + 1, _, _, by go_num, by omega, I7⟩
        case measure => simp [intOf]; omega
      | false =>
        go_wp2_with (rw [← HW2.out, ← HB8.out])
        refine (setS hinv.out.sm sb sm1 sx).mono ?_
        rintro e w3 ⟨n1, f', rfl, hN, hS3, hX⟩
        have HS3 := Lib.hid hS3
        have HX := Lib.hid hX
        have HN := Lib.hid hN
        have HRow := Lib.hid (hinv.out.row3 hX)
        have KM := (hcop.out.mid hX)
        have HK := Lib.hid KM
        have k0 := KM.c0
        have k1' := KM.c1
        have k3 := KM.c2
        clear hS3 hX hN c0 c1 c2 KM HW2 HB8
        go_wp2_with (refine wpList_load72 (by rfl) _ (by rfl) b9 (by rfl) cs HRow.out hinv.out.rf.size ?_; refine stop ?_)
        refine unhid ?_
        go_wp2_with fail
        refine (set29 cs rm f f' sb sx n1 w3 hinv.out.rf sm1 HN.out).mono ?_
        rintro e w4 ⟨cs', hr', rfl, hB4⟩
        have I3 := Lib.hid (hinv.out.turn HS3.out HX.out hB4 hr')
        have K3 := Lib.hid ((HK.out.step hB4).row cs')
        have HRow4 := Lib.hid ((hB4.block b9 (lt_of_row HRow.out)).trans HRow.out)
        have HR' := Lib.hid hr'
        clear hr' hB4 k0 k1' k3
        go_wp2_with (refine wpList_store72 rfl _ _ (by rfl) b9 cs' (by rfl) (by rfl) cs HRow4.out HR'.out.size hinv.out.rf.size HR'.out.one ?_; refine stop ?_)
        refine unhid ?_
        obtain ⟨w5, hw5⟩ : ∃ w5, w5 = w4.setRow b9 cs' := ⟨_, rfl⟩
        rw [← hw5] at I3 K3 ⊢
        clear hw5 HRow4 HRow HR' HS3 HX HN HK
        have u2 : (n1 != n1) = false := by simp
        have k1' := K3.out.c1
        go_wp2_with (refine wpList_load72 (by rfl) _ (by rfl) b9 (by rfl) cs' I3.out.row I3.out.rf.size ?_; refine stop ?_)
        refine unhid ?_
        go_wp2_with fail
        refine (as45 cs' sb from' _ I3.out.sm I3.out.rf sm1).mono ?_
        rintro e w6 ⟨rfl, hB6⟩
        have I6 := Lib.hid (I3.out.step hB6)
        have K6 := Lib.hid (K3.out.step hB6)
        clear hB6 I3 K3 k1'
        have k1' := K6.out.c1
        go_wp2_with (refine wpList_load72 (by rfl) _ (by rfl) b9 (by rfl) cs' I6.out.row I6.out.rf.size ?_; refine stop ?_)
        refine unhid ?_
        go_wp2_with fail
        refine (as45 cs' fb sb _ I6.out.sm I6.out.rf hfb2).mono ?_
        rintro e w7 ⟨rfl, hB7⟩
        have I7 := Lib.hid (I6.out.step hB7)
        clear hB7 k1' I6 K6
        go_wp2_with fail
        go_roundw
        case rel => exact ⟨k + 1, _, _, by go_num, by omega, I7⟩
        case measure => simp [intOf]; omega
    · obtain rfl : k = k1 := by omega
      have d0 : decide ((k : Int) < (k : Int)) = false := by simp
      go_wp2_with fail
      refine (alive42 _).mono ?_; rintro e w' ⟨rfl, hbel⟩
      have HX := Lib.hid (Below.step hinv.out.below hbel)
      clear hbel
      go_wp2_with fail
      go_ret
      exact ⟨rfl, HX.out⟩

theorem walkSmallPlays (room : Int) (p : Option Addr) (n c : Nat) (from' : Int) (w : World) (e0 : (Lit.int .i64 room).wf = true) (w0 : ∃ ss, RawS3 w p n c ss) (e2 : (Lit.int .i64 from').wf = true) :
    Calls Try.prog 9 #[.int .i64 room, .slice p n c, .int .i64 from'] w fun e w' => e = .returned (.bool true) ∧ Below w.heap.size w w' := by
  obtain ⟨ss, h1⟩ := w0
  by_cases h : room < 1 ∨ 16 < room
  · exact splays_bad room p n c from' w h
  · obtain ⟨rm, rfl⟩ := Int.eq_ofNat_of_zero_le (show 0 ≤ room by omega)
    exact splays_good rm p n c from' w ss (by omega) h1

end Go.Proofs.Ythohpeinmkdfeaa
