/-
  The walk of the statement SmallWalks.
-/
import Derived.Test.YthohpeinmkdfeaaLaw09v
namespace Go.Proofs.Ythohpeinmkdfeaa
open Go.RowKit
set_option linter.unusedVariables false

theorem tri0 : tri ⟨0, 0, false⟩ = .tuple #[.int .u8 0, .int .i64 0, .bool false] := rfl

set_option maxRecDepth 100000 in
set_option maxHeartbeats 1600000 in
theorem swalks_bad (room : Int) (p : Option Addr) (n c : Nat) (w : World) (h1 : room < 1 ∨ 16 < room) :
    Calls Try.prog 10 #[.int .i64 room, .slice p n c] w fun e w' => e = .returned (.bool true) ∧ Below w.heap.size w w' := by
  have H1 := Lib.hid h1
  clear h1
  go_enter Try.func10, Try.ntmps10
  go_wp2_with fail
  refine (new40_no room w H1.out).mono ?_
  rintro e w1 ⟨rfl, hw1⟩
  rw [hw1]; clear hw1 w1
  go_wp2_with fail
  refine (alive42 _).mono ?_; rintro e w' ⟨rfl, hbel⟩
  have HX := Lib.hid hbel
  clear hbel
  go_wp2_with fail
  go_ret
  exact ⟨rfl, HX.out⟩

set_option maxRecDepth 100000 in
set_option maxHeartbeats 25600000 in
theorem swalks_good (rm : Nat) (p : Option Addr) (n c : Nat) (w : World) (ss : List Stp3) (hrm : 1 ≤ rm ∧ rm ≤ 16) (w0 : RawS3 w p n c ss) :
    Calls Try.prog 10 #[.int .i64 rm, .slice p n c] w fun e w' => e = .returned (.bool true) ∧ Below w.heap.size w w' := by
  have hcap := w0.cap
  have hbig := w0.big
  have HRS := Lib.hid w0
  have HRM := Lib.hid hrm
  have hnot : ∀ (x : Bool) (w : World), (Op.unary .not (.bool x)).run Try.prog w = .ok (.bool (!x)) w := fun _ _ => rfl
  clear w0 hrm
  obtain ⟨k1, hk1, hk1n, hk1b⟩ : ∃ k1 : Nat, (if (60 : Int) < (n : Int) then (60 : Int) else (n : Int)) = (k1 : Int) ∧ k1 ≤ n ∧ k1 ≤ 60 := by
    by_cases h : n ≤ 60
    · exact ⟨n, by rw [if_neg (by omega)], by omega, h⟩
    · exact ⟨60, by rw [if_pos (by omega)]; rfl, by omega, by omega⟩
  have HK1 := Lib.hid hk1
  clear hk1
  go_enter Try.func10, Try.ntmps10
  go_wp2_with fail
  refine (new40_yes rm w HRM.out).mono ?_
  rintro e w1 ⟨rfl, hE, hB1⟩
  have HE := Lib.hid hE
  have HB1 := Lib.hid hB1
  clear hE hB1
  go_wp2_with (refine wpList_min rfl _ _ 3 (by rfl) n 60 k1 (by rfl) (by rfl) HK1.out ?_; refine stop ?_)
  refine unhid ?_
  have hmz : (0 : Int) ≤ (k1 : Int) := by omega
  have hmc : (k1 : Int) ≤ (c : Int) := by omega
  obtain ⟨g0, hg0⟩ : ∃ g0, g0 = w.heap.size := ⟨_, rfl⟩
  have HG0 := Lib.hid hg0
  rw [← hg0] at HE ⊢
  clear hg0
  go_wp2_with fail
  go_loopw [38] (fun t wr => ∃ (k : Nat) (f : Nat → Option Int), t = .int .i64 k ∧ k ≤ k1 ∧ Hid (SmE wr g0 rm f) ∧ Hid (Below w.heap.size w wr)) (fun t _ => k1 - (intOf t).toNat)
  case atStart => exact ⟨0, _, rfl, by omega, HE, HB1⟩
  case round =>
    obtain ⟨k, f, rfl, hk, hsm, hbw⟩ := hrel
    by_cases hlt : k < k1
    · obtain ⟨bs, o, rfl, hc⟩ := HRS.out.cells (by omega)
      obtain ⟨⟨sd, sb, sx⟩, hst⟩ : ∃ s, ss[k]? = some s := ⟨ss[k]'(by rw [HRS.out.len]; omega), List.getElem?_eq_getElem (by rw [HRS.out.len]; omega)⟩
      obtain ⟨g0', g1, g2⟩ := hc k _ hst
      obtain ⟨sm1, _, _⟩ := HRS.out.small _ (List.mem_of_getElem? hst)
      simp only at g0' g1 g2 sm1
      have hbl : bs < w.heap.size := block_lt_of_cell g0'
      rw [← hbw.out.cell (p := ⟨bs, _, none⟩) hbl] at g0' g1 g2
      have d0 : decide ((k : Int) < (k1 : Int)) = true := by simp; omega
      obtain ⟨W2, hW2⟩ : ∃ W2, W2 = wr.alloc (.cells #[.bool sd, .int .u8 sb, .int .i64 sx] 105) := ⟨_, rfl⟩
      have HS2 : Hid (SmE W2 g0 rm f) := by show SmE _ _ _ _; rw [hW2]; exact hsm.out.step ((Below.refl _ _).alloc (Nat.le_refl _) _)
      have HB2 : Hid (Below w.heap.size w W2) := by show Below _ _ _; rw [hW2]; exact hbw.out.alloc hbw.out.size _
      have c1 : W2.cell? ⟨wr.heap.size, 1, none⟩ = some (.int .u8 sb) := by rw [hW2]; exact (Var.new rfl rfl).cell
      have c2 : W2.cell? ⟨wr.heap.size, 2, none⟩ = some (.int .i64 sx) := by rw [hW2]; exact (Var.new rfl rfl).cell
      have HW2 := Lib.hid hW2
      clear hc hst hW2 hsm hbw
      go_wp2_with (rw [← HW2.out])
      refine (setS HS2.out sb sm1 sx).mono ?_
      rintro e w3 ⟨n1, f', rfl, hN, hS3, hX⟩
      have HS3 := Lib.hid hS3
      have HB3 : Hid (Below w.heap.size w w3) := hX.below HB2.out (fun x hx => by simp at hx; have := HG0.out; omega) HB2.out.size
      clear hN hS3 hX c1 c2
      go_wp2_with fail
      go_roundw
      case rel => exact ⟨k + 1, f', by go_num, by omega, HS3, HB3⟩
      case measure => simp [intOf]; omega
    · obtain rfl : k = k1 := by omega
      have d0 : decide ((k : Int) < (k : Int)) = false := by simp
      go_wp2_with fail
      refine (copy46 _ _ _ _ hsm.out).mono ?_
      rintro e W0 ⟨rfl, hE1, hB0⟩
      obtain ⟨g1, hg1⟩ : ∃ g1, g1 = wr.heap.size := ⟨_, rfl⟩
      rw [← hg1] at hE1 ⊢
      have HG01 : Hid (g0 ≠ g1) := by show g0 ≠ g1; have := hsm.out.lt; omega
      have HLT0 : Hid (w.heap.size ≤ g1) := by show _ ≤ _; have := hbw.out.size; omega
      have HLT : Hid (g1 < W0.heap.size) := hE1.lt
      have HSA : Hid (SmE W0 g0 rm f) := hsm.out.step hB0
      have HSB := Lib.hid hE1
      have HBW0 : Hid (Below w.heap.size w W0) := Below.step hbw.out hB0
      clear hE1 hB0 hg1 hsm hbw
      go_wp2_with fail
      go_loopw [10, 12] (fun u t wr => ∃ (m : Nat) (pu : Option Addr) (nu cu : Nat), u = .slice pu nu cu ∧ t = .int .i64 m ∧ m ≤ 256 ∧ Hid (wr.ownsRow W0.heap.size 5 1 (.slice pu nu cu) nu ((heldL f m).map bv)) ∧ Hid (Below W0.heap.size W0 wr)) (fun _ t _ => 256 - (intOf t).toNat)
      case atStart => exact ⟨0, none, 0, 0, rfl, rfl, by omega, World.ownsRow_nil _ _ _ _, Below.refl _ _⟩
      case round =>
        obtain ⟨m, pu, nu, cu, rfl, rfl, hm, HOW, HBD⟩ := hrel
        have hnu : nu ≤ 256 := by
          have h1 := own_len HOW.out
          have h2 := heldL_len f m
          omega
        by_cases h0 : m < 256
        · have d1 : decide ((m : Int) < 256) = true := by simp; omega
          go_wp2_with fail
          refine (nextS (HSA.out.step HBD.out) (m : Int)).mono ?_
          rintro e w4 ⟨r, hr, rfl, z, hw4⟩
          have HB4 : Hid (Below W0.heap.size W0 w4) := by show Below _ _ _; rw [hw4]; exact below_drewN HBD.out z
          have HO4 : Hid (w4.ownsRow W0.heap.size 5 1 (.slice pu nu cu) nu ((heldL f m).map bv)) := by show World.ownsRow _ _ _ _ _ _ _; rw [hw4]; exact own_drewN HOW.out z
          have hmax : max (m : Int) 0 = (m : Int) := by omega
          rw [hmax] at hr
          clear hw4 HBD HOW hmax
          rcases hr with ⟨b, x, h1, h2, h3, h4, rfl⟩ | ⟨h1, rfl⟩
          · have hb1 : heldL f (b + 1) = heldL f m ++ [b] := heldL_next f m b x (by omega) h3 (fun c k1 k2 => h4 c k2 (by omega))
            have hget := getS (HSA.out.step HB4.out) b h1
            rw [h3] at hget
            have HGET := Lib.hid hget
            have HB1' := Lib.hid hb1
            have q0 : IntKind.i64.wrap (b : Int) = (b : Int) := IntWalk.i64_in _ (by omega)
            have q1 : IntKind.i64.wrap ((b : Int) + 1) = (b : Int) + 1 := IntWalk.i64_in _ (by omega)
            have d2 : decide ((b : Int) < (m : Int)) = false := by simp; omega
            have d3 : (x != x) = false := by simp
            clear h3 h4 hb1 hget
            simp only [tri]
            go_wp2_with fail
            simp only [valO, Option.getD, Option.isSome] at HGET
            refine HGET.out.mono ?_
            rintro e w5 ⟨rfl, z2, hw5⟩
            have HB5 : Hid (Below W0.heap.size W0 w5) := by show Below _ _ _; rw [hw5]; exact below_drewN HB4.out z2
            have HO5 : Hid (w5.ownsRow W0.heap.size 5 1 (.slice pu nu cu) nu ((heldL f m).map bv)) := by show World.ownsRow _ _ _ _ _ _ _; rw [hw5]; exact own_drewN HO4.out z2
            clear hw5 HB4 HO4 HGET
            go_wp2_with (at_builtin; refine stop ?_)
            refine unhid ?_
            refine wpList_append_one rfl _ _ (by rfl) b W0.heap.size pu nu cu (heldL f m) (by rfl) (by rfl) HO5.out hnu HB5.out.size ?_
            intro pu2 cu2 w6 hO6 hB6
            have HO6 : Hid (w6.ownsRow W0.heap.size 5 1 (.slice pu2 (nu + 1) cu2) (nu + 1) ((heldL f (b + 1)).map bv)) := by show World.ownsRow _ _ _ _ _ _ _; rw [HB1'.out]; exact hO6
            have HB6 := Lib.hid (HB5.out.trans hB6)
            clear hO6 hB6
            go_wp2_with fail
            go_roundw
            case rel => exact ⟨b + 1, pu2, nu + 1, cu2, rfl, by go_num, by omega, HO6, HB6⟩
            case measure => simp [intOf]; omega
          · obtain ⟨W1, hW1⟩ : ∃ W1, W1 = w4 := ⟨_, rfl⟩
            rw [← hW1] at HB4 HO4 ⊢
            have HUP := HO4
            have HUF : Hid (heldL f m = heldL f 256) := by show _ = _; exact (heldL_same f m 256 hm (fun c k1 k2 => h1 c k2 (by omega))).symm
            have HS0 : Hid (∀ W, Below W1.heap.size W1 W → SmE W g0 rm f) := fun W hW => (HSA.out.step HB4.out).step hW
            have HS1 : Hid (∀ W, Below W1.heap.size W1 W → SmE W g1 rm f) := fun W hW => (HSB.out.step HB4.out).step hW
            have HBW1 : Hid (Below w.heap.size w W1) := Below.step HBW0.out HB4.out
            have HLE1 : Hid (W0.heap.size ≤ W1.heap.size) := HB4.out.size
            clear h1 hW1 HO4 HB4
            rw [tri0]
            go_wp2_with fail
            have hnotx : True := trivial
            go_loopw [11, 18] (fun u t wr => ∃ (m : Nat) (l : List Nat) (pd : Option Addr) (nd cd : Nat), u = .slice pd nd cd ∧ t = .int .i64 ((m : Int) - 1) ∧ m ≤ 256 ∧ Hid (heldL f 256 = heldL f m ++ l) ∧ Hid (wr.ownsRow W1.heap.size 5 1 (.slice pd nd cd) nd (l.reverse.map bv)) ∧ Hid (Below W1.heap.size W1 wr)) (fun _ t _ => (intOf t + 1).toNat)
            case atStart => exact ⟨256, [], none, 0, 0, rfl, rfl, by omega, (by show _ = _; simp), World.ownsRow_nil _ _ _ _, Below.refl _ _⟩
            case round =>
              obtain ⟨m, l, pd, nd, cd, rfl, rfl, hm, HLF, HOW, HBD⟩ := hrel
              have hnd : nd ≤ 256 := by
                have h1 := own_len HOW.out
                have h2 := heldL_len f 256
                rw [HLF.out, List.length_append] at h2
                rw [List.length_reverse] at h1
                omega
              by_cases h0 : 0 ≤ (m : Int) - 1
              · have d0 : decide (0 ≤ (m : Int) - 1) = true := by simp; omega
                go_wp2_with fail
                refine (prevS (HS0.out wr HBD.out) ((m : Int) - 1)).mono ?_
                rintro e w4 ⟨r, hr, rfl, z, hw4⟩
                have HB4 : Hid (Below W1.heap.size W1 w4) := by show Below _ _ _; rw [hw4]; exact below_drewN HBD.out z
                have HO4 : Hid (w4.ownsRow W1.heap.size 5 1 (.slice pd nd cd) nd (l.reverse.map bv)) := by show World.ownsRow _ _ _ _ _ _ _; rw [hw4]; exact own_drewN HOW.out z
                have hmin : min ((m : Int) - 1) 255 = (m : Int) - 1 := by omega
                rw [hmin] at hr
                clear hw4 HBD HOW hmin
                rcases hr with ⟨b, x, h1, h2, h3, h4, rfl⟩ | ⟨h1, rfl⟩
                · have hb1 : heldL f 256 = heldL f b ++ (b :: l) := by
                    rw [HLF.out, heldL_same f (b + 1) m (by omega) (fun c k1 k2 => h4 c (by omega) (by omega) (by omega)), heldL_next f b b x (Nat.le_refl _) h3 (fun c k1 k2 => by omega)]
                    simp
                  have HB1 := Lib.hid hb1
                  have q0 : IntKind.i64.wrap (b : Int) = (b : Int) := IntWalk.i64_in _ (by omega)
                  have q1 : IntKind.i64.wrap ((b : Int) - 1) = (b : Int) - 1 := IntWalk.i64_in _ (by omega)
                  have d1 : decide ((m : Int) - 1 < (b : Int)) = false := by simp; omega
                  clear h3 h4 hb1
                  simp only [tri]
                  go_wp2_with (at_builtin; refine stop ?_)
                  refine unhid ?_
                  refine wpList_append_one rfl _ _ (by rfl) b W1.heap.size pd nd cd l.reverse (by rfl) (by rfl) HO4.out hnd HB4.out.size ?_
                  intro pd2 cd2 w5 hO5 hB5
                  have HO5 : Hid (w5.ownsRow W1.heap.size 5 1 (.slice pd2 (nd + 1) cd2) (nd + 1) ((b :: l).reverse.map bv)) := by show World.ownsRow _ _ _ _ _ _ _; rw [List.reverse_cons]; exact hO5
                  have HB5 := Lib.hid (HB4.out.trans hB5)
                  clear hO5 hB5
                  go_wp2_with fail
                  go_roundw
                  case rel => exact ⟨b, b :: l, pd2, nd + 1, cd2, rfl, rfl, by omega, HB1, HO5, HB5⟩
                  case measure => simp [intOf]; omega
                · have ht : heldL f 256 = l := by
                    rw [HLF.out, heldL_same f 0 m (by omega) (fun c k1 k2 => h1 c (by omega) (by omega)), heldL_zero]; rfl
                  have HT : Hid (l = heldL f 256) := ht.symm
                  obtain ⟨wd, hwd⟩ : ∃ wd, wd = w4 := ⟨_, rfl⟩
                  rw [← hwd] at HB4 HO4 ⊢
                  have HBD := HB4
                  have HOD := HO4
                  clear h1 ht hwd HB4 HO4 HLF
                  rw [tri0]
                  obtain ⟨L, hL⟩ : ∃ L, L = heldL f 256 := ⟨_, rfl⟩
                  have hpu : pu = pu := rfl
                  have HL := Lib.hid hL
                  have hu0 := own_exc (HUP.out) (Exc.ofBelow HBD.out []) (fun _ _ h => by cases h)
                  rw [HUF.out, ← hL] at hu0
                  have hd0 := HOD.out
                  rw [HT.out, ← hL] at hd0
                  have hln := own_len hu0
                  have hld := own_len hd0
                  have hl256 : L.length ≤ 256 := by rw [hL]; exact heldL_len f 256
                  have hcu : nu ≤ cu := by
                    rcases hu0.2 with ⟨e1, e2⟩ | ⟨_, _, _, e1, _, _, hc, _⟩
                    · cases e1; omega
                    · cases e1; exact hc
                  have hcd : nd ≤ cd := by
                    rcases hd0.2 with ⟨e1, e2⟩ | ⟨_, _, _, e1, _, _, hc, _⟩
                    · cases e1; omega
                    · cases e1; exact hc
                  rw [List.length_reverse] at hld
                  have hnu : nd = nu := by omega
                  have hcnt : cntF f = nu := by rw [heldL_cnt, ← hL, ← hln]
                  have HUW := Lib.hid hu0
                  have HDW := Lib.hid hd0
                  have r1 : ((nu : Int) != (nu : Int)) = false := by simp
                  have r2 : ((nu : Int) == (nu : Int)) = true := by simp
                  have hlen := lenS (HS0.out wd HBD.out)
                  rw [hcnt] at hlen
                  have HLEN := Lib.hid hlen
                  have HSC := Lib.hid (HS1.out wd HBD.out)
                  have HSR := Lib.hid (HS0.out wd HBD.out)
                  have HBWD : Hid (Below w.heap.size w wd) := Below.step HBW1.out HBD.out
                  have hg1u : ∀ k, (Value.slice pu nu cu).ownBlock = some k → k ≠ g1 := fun k hk e => by
                    have h1 := own_fits HUW.out k hk
                    have := HLT.out
                    omega
                  have hg1d : ∀ k, (Value.slice pd nd cd).ownBlock = some k → k ≠ g1 := fun k hk e => by
                    have h1 := own_fits HDW.out k hk
                    have := HLT.out
                    have := HLE1.out
                    omega
                  have HGU := Lib.hid hg1u
                  have HGD := Lib.hid hg1d
                  have HCNT := Lib.hid hcnt
                  have HLN := Lib.hid hln
                  have HNU := Lib.hid hnu
                  clear hL hu0 hd0 hln hld hlen hg1u hg1d hpu hcnt
                  subst hnu
                  go_wp2_with fail
                  refine HLEN.out.mono ?_
                  rintro e w' ⟨rfl, hw'⟩
                  rw [hw']; clear hw' w'
                  go_wp2_with fail
                  go_loopw [124] (fun t wr => ∃ (i : Nat), t = .int .i64 i ∧ i ≤ nd ∧ Hid (SmE wr g1 rm (remF f (L.take i))) ∧ Hid (Exc [g1] wd wr)) (fun t _ => nd - (intOf t).toNat)
                  case atStart => exact ⟨0, rfl, by omega, (by show SmE _ _ _ _; rw [List.take_zero, remF_nil]; exact HSC.out), Exc.refl _ _⟩
                  case round =>
                    obtain ⟨i, rfl, hi, hsm, hex⟩ := hrel
                    by_cases hlt : i < nd
                    · obtain ⟨b, hb⟩ : ∃ b, L[i]? = some b := ⟨L[i]'(by have := HLN.out; omega), List.getElem?_eq_getElem (by have := HLN.out; omega)⟩
                      have hmem : b ∈ heldL f 256 := by rw [← HL.out]; exact List.mem_of_getElem? hb
                      obtain ⟨hb256, hbf⟩ := (heldL_mem f 256 b).1 hmem
                      have hu1 := own_exc HUW.out hex.out (fun k hk hm => HGU.out k hk (by simpa using hm))
                      have hd1 := own_exc HDW.out hex.out (fun k hk hm => HGD.out k hk (by simpa using hm))
                      obtain ⟨bu, hbu, _, _, cu0⟩ := own_cell hu1 i b hb
                      have hrv := rev_at L i b hb
                      rw [← HLN.out] at hrv
                      obtain ⟨bd, hbd, _, _, cd0⟩ := own_cell hd1 (nd - 1 - i) b hrv
                      subst hbu hbd
                      have d0 : decide ((i : Int) < (nd : Int)) = true := by simp; omega
                      have b0 : (0 : Int) ≤ (i : Int) := by omega
                      have b1 : (i : Int) < (nd : Int) := by omega
                      have hnd1 : nd ≤ 256 := by have := HLN.out; omega
                      obtain ⟨j, hj⟩ : ∃ j, j = nd - 1 - i := ⟨_, rfl⟩
                      rw [← hj] at cd0
                      have q1 : IntKind.i64.wrap ((nd : Int) - 1) = ((nd - 1 : Nat) : Int) := by rw [IntWalk.i64_in _ (by omega)]; omega
                      have q2 : IntKind.i64.wrap (((nd - 1 : Nat) : Int) - (i : Int)) = (j : Int) := by rw [IntWalk.i64_in _ (by omega)]; omega
                      have b2 : (0 : Int) ≤ (j : Int) := by omega
                      have b3 : (j : Int) < (nd : Int) := by omega
                      have q3 : ((b : Int) != (b : Int)) = false := by simp
                      have q4 : IntKind.i64.wrap ((i : Int) + 1) = (i : Int) + 1 := IntWalk.i64_in _ (by omega)
                      have hjlt : j < nd := by omega
                      obtain ⟨m, hm⟩ : ∃ m, m = nd - 1 := ⟨_, rfl⟩
                      rw [← hm] at q1 q2
                      clear hj hm hu1 hd1 hrv hmem
                      have HSM := hsm
                      have HEX := hex
                      have HB := Lib.hid hb
                      have HBF := Lib.hid hbf
                      clear hsm hex hb hbf
                      go_wp2_with fail
                      refine (dropS HSM.out b hb256).mono ?_
                      rintro e w5 ⟨n1, rfl, hN, hS5, hX5⟩
                      have hn1 : n1 = 0 := by
                        rcases hN with ⟨_, h⟩ | ⟨h, _⟩
                        · exact h
                        · have := remF_has f L i b (by rw [HL.out]; exact heldL_nodup f 256) HB.out HBF.out
                          rw [h] at this; cases this
                      subst hn1
                      rw [remF_step f L i b HB.out] at hS5
                      have HS5 := Lib.hid hS5
                      have HX5 := Lib.hid (Exc.trans HEX.out hX5)
                      clear hS5 hX5 hN cu0 cd0
                      go_wp2_with fail
                      go_roundw
                      case rel => exact ⟨i + 1, by go_num, by omega, HS5, HX5⟩
                      case measure => simp [intOf]; omega
                    · obtain rfl : i = nd := by omega
                      have d0 : decide ((i : Int) < (i : Int)) = false := by simp
                      have hz := lenS hsm.out
                      rw [List.take_of_length_le (by have := HLN.out; omega), HL.out, remF_all] at hz
                      have HZ := Lib.hid hz
                      have HSR2 : Hid (SmE wr g0 rm f) := HSR.out.keep hex.out (fun hm => by simp at hm; exact HG01.out hm)
                      have hbl := Exc.below hex.out HBWD.out (fun x hx => by simp at hx; have := HLT0.out; omega) HBWD.out.size
                      have HBL := Lib.hid hbl
                      clear hz hbl
                      go_wp2_with fail
                      refine HZ.out.mono ?_
                      rintro e w' ⟨rfl, hw'⟩
                      rw [hw']; clear hw' w'
                      go_wp2_with fail
                      refine (lenS HSR2.out).mono ?_
                      rw [HCNT.out]
                      rintro e w' ⟨rfl, hw'⟩
                      rw [hw']; clear hw' w'
                      go_wp2_with fail
                      refine (alive42 _).mono ?_; rintro e w' ⟨rfl, hbel⟩
                      have HX := Lib.hid (Below.step HBL.out hbel)
                      clear hbel
                      go_wp2_with fail
                      go_ret
                      exact ⟨rfl, HX.out⟩
              · obtain rfl : m = 0 := by omega
                have ht : heldL f 256 = l := by rw [HLF.out, heldL_zero]; rfl
                have HT : Hid (l = heldL f 256) := ht.symm
                have d0 : decide (0 ≤ ((0 : Nat) : Int) - 1) = false := by decide
                have HOD := HOW
                obtain ⟨wd, hwd⟩ : ∃ wd, wd = wr := ⟨_, rfl⟩
                rw [← hwd] at HBD HOD ⊢
                clear ht hwd HLF HOW
                obtain ⟨L, hL⟩ : ∃ L, L = heldL f 256 := ⟨_, rfl⟩
                have hpu : pu = pu := rfl
                have HL := Lib.hid hL
                have hu0 := own_exc (HUP.out) (Exc.ofBelow HBD.out []) (fun _ _ h => by cases h)
                rw [HUF.out, ← hL] at hu0
                have hd0 := HOD.out
                rw [HT.out, ← hL] at hd0
                have hln := own_len hu0
                have hld := own_len hd0
                have hl256 : L.length ≤ 256 := by rw [hL]; exact heldL_len f 256
                have hcu : nu ≤ cu := by
                  rcases hu0.2 with ⟨e1, e2⟩ | ⟨_, _, _, e1, _, _, hc, _⟩
                  · cases e1; omega
                  · cases e1; exact hc
                have hcd : nd ≤ cd := by
                  rcases hd0.2 with ⟨e1, e2⟩ | ⟨_, _, _, e1, _, _, hc, _⟩
                  · cases e1; omega
                  · cases e1; exact hc
                rw [List.length_reverse] at hld
                have hnu : nd = nu := by omega
                have hcnt : cntF f = nu := by rw [heldL_cnt, ← hL, ← hln]
                have HUW := Lib.hid hu0
                have HDW := Lib.hid hd0
                have r1 : ((nu : Int) != (nu : Int)) = false := by simp
                have r2 : ((nu : Int) == (nu : Int)) = true := by simp
                have hlen := lenS (HS0.out wd HBD.out)
                rw [hcnt] at hlen
                have HLEN := Lib.hid hlen
                have HSC := Lib.hid (HS1.out wd HBD.out)
                have HSR := Lib.hid (HS0.out wd HBD.out)
                have HBWD : Hid (Below w.heap.size w wd) := Below.step HBW1.out HBD.out
                have hg1u : ∀ k, (Value.slice pu nu cu).ownBlock = some k → k ≠ g1 := fun k hk e => by
                  have h1 := own_fits HUW.out k hk
                  have := HLT.out
                  omega
                have hg1d : ∀ k, (Value.slice pd nd cd).ownBlock = some k → k ≠ g1 := fun k hk e => by
                  have h1 := own_fits HDW.out k hk
                  have := HLT.out
                  have := HLE1.out
                  omega
                have HGU := Lib.hid hg1u
                have HGD := Lib.hid hg1d
                have HCNT := Lib.hid hcnt
                have HLN := Lib.hid hln
                have HNU := Lib.hid hnu
                clear hL hu0 hd0 hln hld hlen hg1u hg1d hpu hcnt
                subst hnu
                go_wp2_with fail
                refine HLEN.out.mono ?_
                rintro e w' ⟨rfl, hw'⟩
                rw [hw']; clear hw' w'
                go_wp2_with fail
                go_loopw [124] (fun t wr => ∃ (i : Nat), t = .int .i64 i ∧ i ≤ nd ∧ Hid (SmE wr g1 rm (remF f (L.take i))) ∧ Hid (Exc [g1] wd wr)) (fun t _ => nd - (intOf t).toNat)
                case atStart => exact ⟨0, rfl, by omega, (by show SmE _ _ _ _; rw [List.take_zero, remF_nil]; exact HSC.out), Exc.refl _ _⟩
                case round =>
                  obtain ⟨i, rfl, hi, hsm, hex⟩ := hrel
                  by_cases hlt : i < nd
                  · obtain ⟨b, hb⟩ : ∃ b, L[i]? = some b := ⟨L[i]'(by have := HLN.out; omega), List.getElem?_eq_getElem (by have := HLN.out; omega)⟩
                    have hmem : b ∈ heldL f 256 := by rw [← HL.out]; exact List.mem_of_getElem? hb
                    obtain ⟨hb256, hbf⟩ := (heldL_mem f 256 b).1 hmem
                    have hu1 := own_exc HUW.out hex.out (fun k hk hm => HGU.out k hk (by simpa using hm))
                    have hd1 := own_exc HDW.out hex.out (fun k hk hm => HGD.out k hk (by simpa using hm))
                    obtain ⟨bu, hbu, _, _, cu0⟩ := own_cell hu1 i b hb
                    have hrv := rev_at L i b hb
                    rw [← HLN.out] at hrv
                    obtain ⟨bd, hbd, _, _, cd0⟩ := own_cell hd1 (nd - 1 - i) b hrv
                    subst hbu hbd
                    have d0 : decide ((i : Int) < (nd : Int)) = true := by simp; omega
                    have b0 : (0 : Int) ≤ (i : Int) := by omega
                    have b1 : (i : Int) < (nd : Int) := by omega
                    have hnd1 : nd ≤ 256 := by have := HLN.out; omega
                    obtain ⟨j, hj⟩ : ∃ j, j = nd - 1 - i := ⟨_, rfl⟩
                    rw [← hj] at cd0
                    have q1 : IntKind.i64.wrap ((nd : Int) - 1) = ((nd - 1 : Nat) : Int) := by rw [IntWalk.i64_in _ (by omega)]; omega
                    have q2 : IntKind.i64.wrap (((nd - 1 : Nat) : Int) - (i : Int)) = (j : Int) := by rw [IntWalk.i64_in _ (by omega)]; omega
                    have b2 : (0 : Int) ≤ (j : Int) := by omega
                    have b3 : (j : Int) < (nd : Int) := by omega
                    have q3 : ((b : Int) != (b : Int)) = false := by simp
                    have q4 : IntKind.i64.wrap ((i : Int) + 1) = (i : Int) + 1 := IntWalk.i64_in _ (by omega)
                    have hjlt : j < nd := by omega
                    obtain ⟨m, hm⟩ : ∃ m, m = nd - 1 := ⟨_, rfl⟩
                    rw [← hm] at q1 q2
                    clear hj hm hu1 hd1 hrv hmem
                    have HSM := hsm
                    have HEX := hex
                    have HB := Lib.hid hb
                    have HBF := Lib.hid hbf
                    clear hsm hex hb hbf
                    go_wp2_with fail
                    refine (dropS HSM.out b hb256).mono ?_
                    rintro e w5 ⟨n1, rfl, hN, hS5, hX5⟩
                    have hn1 : n1 = 0 := by
                      rcases hN with ⟨_, h⟩ | ⟨h, _⟩
                      · exact h
                      · have := remF_has f L i b (by rw [HL.out]; exact heldL_nodup f 256) HB.out HBF.out
                        rw [h] at this; cases this
                    subst hn1
                    rw [remF_step f L i b HB.out] at hS5
                    have HS5 := Lib.hid hS5
                    have HX5 := Lib.hid (Exc.trans HEX.out hX5)
                    clear hS5 hX5 hN cu0 cd0
                    go_wp2_with fail
                    go_roundw
                    case rel => exact ⟨i + 1, by go_num, by omega, HS5, HX5⟩
                    case measure => simp [intOf]; omega
                  · obtain rfl : i = nd := by omega
                    have d0 : decide ((i : Int) < (i : Int)) = false := by simp
                    have hz := lenS hsm.out
                    rw [List.take_of_length_le (by have := HLN.out; omega), HL.out, remF_all] at hz
                    have HZ := Lib.hid hz
                    have HSR2 : Hid (SmE wr g0 rm f) := HSR.out.keep hex.out (fun hm => by simp at hm; exact HG01.out hm)
                    have hbl := Exc.below hex.out HBWD.out (fun x hx => by simp at hx; have := HLT0.out; omega) HBWD.out.size
                    have HBL := Lib.hid hbl
                    clear hz hbl
                    go_wp2_with fail
                    refine HZ.out.mono ?_
                    rintro e w' ⟨rfl, hw'⟩
                    rw [hw']; clear hw' w'
                    go_wp2_with fail
                    refine (lenS HSR2.out).mono ?_
                    rw [HCNT.out]
                    rintro e w' ⟨rfl, hw'⟩
                    rw [hw']; clear hw' w'
                    go_wp2_with fail
                    refine (alive42 _).mono ?_; rintro e w' ⟨rfl, hbel⟩
                    have HX := Lib.hid (Below.step HBL.out hbel)
                    clear hbel
                    go_wp2_with fail
                    go_ret
                    exact ⟨rfl, HX.out⟩
        · have d1 : decide ((m : Int) < 256) = false := by simp; omega
          obtain ⟨W1, hW1⟩ : ∃ W1, W1 = wr := ⟨_, rfl⟩
          rw [← hW1] at HBD HOW ⊢
          have HB4 := HBD
          have HUP := HOW
          have HUF : Hid (heldL f m = heldL f 256) := by show _ = _; rw [show m = 256 by omega]
          have HS0 : Hid (∀ W, Below W1.heap.size W1 W → SmE W g0 rm f) := fun W hW => (HSA.out.step HB4.out).step hW
          have HS1 : Hid (∀ W, Below W1.heap.size W1 W → SmE W g1 rm f) := fun W hW => (HSB.out.step HB4.out).step hW
          have HBW1 : Hid (Below w.heap.size w W1) := Below.step HBW0.out HB4.out
          have HLE1 : Hid (W0.heap.size ≤ W1.heap.size) := HB4.out.size
          clear hW1 HOW HB4 HBD
          go_wp2_with fail
          have hnotx : True := trivial
          go_loopw [11, 18] (fun u t wr => ∃ (m : Nat) (l : List Nat) (pd : Option Addr) (nd cd : Nat), u = .slice pd nd cd ∧ t = .int .i64 ((m : Int) - 1) ∧ m ≤ 256 ∧ Hid (heldL f 256 = heldL f m ++ l) ∧ Hid (wr.ownsRow W1.heap.size 5 1 (.slice pd nd cd) nd (l.reverse.map bv)) ∧ Hid (Below W1.heap.size W1 wr)) (fun _ t _ => (intOf t + 1).toNat)
          case atStart => exact ⟨256, [], none, 0, 0, rfl, rfl, by omega, (by show _ = _; simp), World.ownsRow_nil _ _ _ _, Below.refl _ _⟩
          case round =>
            obtain ⟨m, l, pd, nd, cd, rfl, rfl, hm, HLF, HOW, HBD⟩ := hrel
            have hnd : nd ≤ 256 := by
              have h1 := own_len HOW.out
              have h2 := heldL_len f 256
              rw [HLF.out, List.length_append] at h2
              rw [List.length_reverse] at h1
              omega
            by_cases h0 : 0 ≤ (m : Int) - 1
            · have d0 : decide (0 ≤ (m : Int) - 1) = true := by simp; omega
              go_wp2_with fail
              refine (prevS (HS0.out wr HBD.out) ((m : Int) - 1)).mono ?_
              rintro e w4 ⟨r, hr, rfl, z, hw4⟩
              have HB4 : Hid (Below W1.heap.size W1 w4) := by show Below _ _ _; rw [hw4]; exact below_drewN HBD.out z
              have HO4 : Hid (w4.ownsRow W1.heap.size 5 1 (.slice pd nd cd) nd (l.reverse.map bv)) := by show World.ownsRow _ _ _ _ _ _ _; rw [hw4]; exact own_drewN HOW.out z
              have hmin : min ((m : Int) - 1) 255 = (m : Int) - 1 := by omega
              rw [hmin] at hr
              clear hw4 HBD HOW hmin
              rcases hr with ⟨b, x, h1, h2, h3, h4, rfl⟩ | ⟨h1, rfl⟩
              · have hb1 : heldL f 256 = heldL f b ++ (b :: l) := by
                  rw [HLF.out, heldL_same f (b + 1) m (by omega) (fun c k1 k2 => h4 c (by omega) (by omega) (by omega)), heldL_next f b b x (Nat.le_refl _) h3 (fun c k1 k2 => by omega)]
                  simp
                have HB1 := Lib.hid hb1
                have q0 : IntKind.i64.wrap (b : Int) = (b : Int) := IntWalk.i64_in _ (by omega)
                have q1 : IntKind.i64.wrap ((b : Int) - 1) = (b : Int) - 1 := IntWalk.i64_in _ (by omega)
                have d1 : decide ((m : Int) - 1 < (b : Int)) = false := by simp; omega
                clear h3 h4 hb1
                simp only [tri]
                go_wp2_with (at_builtin; refine stop ?_)
                refine unhid ?_
                refine wpList_append_one rfl _ _ (by rfl) b W1.heap.size pd nd cd l.reverse (by rfl) (by rfl) HO4.out hnd HB4.out.size ?_
                intro pd2 cd2 w5 hO5 hB5
                have HO5 : Hid (w5.ownsRow W1.heap.size 5 1 (.slice pd2 (nd + 1) cd2) (nd + 1) ((b :: l).reverse.map bv)) := by show World.ownsRow _ _ _ _ _ _ _; rw [List.reverse_cons]; exact hO5
                have HB5 := Lib.hid (HB4.out.trans hB5)
                clear hO5 hB5
                go_wp2_with fail
                go_roundw
                case rel => exact ⟨b, b :: l, pd2, nd + 1, cd2, rfl, rfl, by omega, HB1, HO5, HB5⟩
                case measure => simp [intOf]; omega
              · have ht : heldL f 256 = l := by
                  rw [HLF.out, heldL_same f 0 m (by omega) (fun c k1 k2 => h1 c (by omega) (by omega)), heldL_zero]; rfl
                have HT : Hid (l = heldL f 256) := ht.symm
                obtain ⟨wd, hwd⟩ : ∃ wd, wd = w4 := ⟨_, rfl⟩
                rw [← hwd] at HB4 HO4 ⊢
                have HBD := HB4
                have HOD := HO4
                clear h1 ht hwd HB4 HO4 HLF
                rw [tri0]
                obtain ⟨L, hL⟩ : ∃ L, L = heldL f 256 := ⟨_, rfl⟩
                have hpu : pu = pu := rfl
                have HL := Lib.hid hL
                have hu0 := own_exc (HUP.out) (Exc.ofBelow HBD.out []) (fun _ _ h => by cases h)
                rw [HUF.out, ← hL] at hu0
                have hd0 := HOD.out
                rw [HT.out, ← hL] at hd0
                have hln := own_len hu0
                have hld := own_len hd0
                have hl256 : L.length ≤ 256 := by rw [hL]; exact heldL_len f 256
                have hcu : nu ≤ cu := by
                  rcases hu0.2 with ⟨e1, e2⟩ | ⟨_, _, _, e1, _, _, hc, _⟩
                  · cases e1; omega
                  · cases e1; exact hc
                have hcd : nd ≤ cd := by
                  rcases hd0.2 with ⟨e1, e2⟩ | ⟨_, _, _, e1, _, _, hc, _⟩
                  · cases e1; omega
                  · cases e1; exact hc
                rw [List.length_reverse] at hld
                have hnu : nd = nu := by omega
                have hcnt : cntF f = nu := by rw [heldL_cnt, ← hL, ← hln]
                have HUW := Lib.hid hu0
                have HDW := Lib.hid hd0
                have r1 : ((nu : Int) != (nu : Int)) = false := by simp
                have r2 : ((nu : Int) == (nu : Int)) = true := by simp
                have hlen := lenS (HS0.out wd HBD.out)
                rw [hcnt] at hlen
                have HLEN := Lib.hid hlen
                have HSC := Lib.hid (HS1.out wd HBD.out)
                have HSR := Lib.hid (HS0.out wd HBD.out)
                have HBWD : Hid (Below w.heap.size w wd) := Below.step HBW1.out HBD.out
                have hg1u : ∀ k, (Value.slice pu nu cu).ownBlock = some k → k ≠ g1 := fun k hk e => by
                  have h1 := own_fits HUW.out k hk
                  have := HLT.out
                  omega
                have hg1d : ∀ k, (Value.slice pd nd cd).ownBlock = some k → k ≠ g1 := fun k hk e => by
                  have h1 := own_fits HDW.out k hk
                  have := HLT.out
                  have := HLE1.out
                  omega
                have HGU := Lib.hid hg1u
                have HGD := Lib.hid hg1d
                have HCNT := Lib.hid hcnt
                have HLN := Lib.hid hln
                have HNU := Lib.hid hnu
                clear hL hu0 hd0 hln hld hlen hg1u hg1d hpu hcnt
                subst hnu
                go_wp2_with fail
                refine HLEN.out.mono ?_
                rintro e w' ⟨rfl, hw'⟩
                rw [hw']; clear hw' w'
                go_wp2_with fail
                go_loopw [124] (fun t wr => ∃ (i : Nat), t = .int .i64 i ∧ i ≤ nd ∧ Hid (SmE wr g1 rm (remF f (L.take i))) ∧ Hid (Exc [g1] wd wr)) (fun t _ => nd - (intOf t).toNat)
                case atStart => exact ⟨0, rfl, by omega, (by show SmE _ _ _ _; rw [List.take_zero, remF_nil]; exact HSC.out), Exc.refl _ _⟩
                case round =>
                  obtain ⟨i, rfl, hi, hsm, hex⟩ := hrel
                  by_cases hlt : i < nd
                  · obtain ⟨b, hb⟩ : ∃ b, L[i]? = some b := ⟨L[i]'(by have := HLN.out; omega), List.getElem?_eq_getElem (by have := HLN.out; omega)⟩
                    have hmem : b ∈ heldL f 256 := by rw [← HL.out]; exact List.mem_of_getElem? hb
                    obtain ⟨hb256, hbf⟩ := (heldL_mem f 256 b).1 hmem
                    have hu1 := own_exc HUW.out hex.out (fun k hk hm => HGU.out k hk (by simpa using hm))
                    have hd1 := own_exc HDW.out hex.out (fun k hk hm => HGD.out k hk (by simpa using hm))
                    obtain ⟨bu, hbu, _, _, cu0⟩ := own_cell hu1 i b hb
                    have hrv := rev_at L i b hb
                    rw [← HLN.out] at hrv
                    obtain ⟨bd, hbd, _, _, cd0⟩ := own_cell hd1 (nd - 1 - i) b hrv
                    subst hbu hbd
                    have d0 : decide ((i : Int) < (nd : Int)) = true := by simp; omega
                    have b0 : (0 : Int) ≤ (i : Int) := by omega
                    have b1 : (i : Int) < (nd : Int) := by omega
                    have hnd1 : nd ≤ 256 := by have := HLN.out; omega
                    obtain ⟨j, hj⟩ : ∃ j, j = nd - 1 - i := ⟨_, rfl⟩
                    rw [← hj] at cd0
                    have q1 : IntKind.i64.wrap ((nd : Int) - 1) = ((nd - 1 : Nat) : Int) := by rw [IntWalk.i64_in _ (by omega)]; omega
                    have q2 : IntKind.i64.wrap (((nd - 1 : Nat) : Int) - (i : Int)) = (j : Int) := by rw [IntWalk.i64_in _ (by omega)]; omega
                    have b2 : (0 : Int) ≤ (j : Int) := by omega
                    have b3 : (j : Int) < (nd : Int) := by omega
                    have q3 : ((b : Int) != (b : Int)) = false := by simp
                    have q4 : IntKind.i64.wrap ((i : Int) + 1) = (i : Int) + 1 := IntWalk.i64_in _ (by omega)
                    have hjlt : j < nd := by omega
                    obtain ⟨m, hm⟩ : ∃ m, m = nd - 1 := ⟨_, rfl⟩
                    rw [← hm] at q1 q2
                    clear hj hm hu1 hd1 hrv hmem
                    have HSM := hsm
                    have HEX := hex
                    have HB := Lib.hid hb
                    have HBF := Lib.hid hbf
                    clear hsm hex hb hbf
                    go_wp2_with fail
                    refine (dropS HSM.out b hb256).mono ?_
                    rintro e w5 ⟨n1, rfl, hN, hS5, hX5⟩
                    have hn1 : n1 = 0 := by
                      rcases hN with ⟨_, h⟩ | ⟨h, _⟩
                      · exact h
                      · have := remF_has f L i b (by rw [HL.out]; exact heldL_nodup f 256) HB.out HBF.out
                        rw [h] at this; cases this
                    subst hn1
                    rw [remF_step f L i b HB.out] at hS5
                    have HS5 := Lib.hid hS5
                    have HX5 := Lib.hid (Exc.trans HEX.out hX5)
                    clear hS5 hX5 hN cu0 cd0
                    go_wp2_with fail
                    go_roundw
                    case rel => exact ⟨i + 1, by go_num, by omega, HS5, HX5⟩
                    case measure => simp [intOf]; omega
                  · obtain rfl : i = nd := by omega
                    have d0 : decide ((i : Int) < (i : Int)) = false := by simp
                    have hz := lenS hsm.out
                    rw [List.take_of_length_le (by have := HLN.out; omega), HL.out, remF_all] at hz
                    have HZ := Lib.hid hz
                    have HSR2 : Hid (SmE wr g0 rm f) := HSR.out.keep hex.out (fun hm => by simp at hm; exact HG01.out hm)
                    have hbl := Exc.below hex.out HBWD.out (fun x hx => by simp at hx; have := HLT0.out; omega) HBWD.out.size
                    have HBL := Lib.hid hbl
                    clear hz hbl
                    go_wp2_with fail
                    refine HZ.out.mono ?_
                    rintro e w' ⟨rfl, hw'⟩
                    rw [hw']; clear hw' w'
                    go_wp2_with fail
                    refine (lenS HSR2.out).mono ?_
                    rw [HCNT.out]
                    rintro e w' ⟨rfl, hw'⟩
                    rw [hw']; clear hw' w'
                    go_wp2_with fail
                    refine (alive42 _).mono ?_; rintro e w' ⟨rfl, hbel⟩
                    have HX := Lib.hid (Below.step HBL.out hbel)
                    clear hbel
                    go_wp2_with fail
                    go_ret
                    exact ⟨rfl, HX.out⟩
            · obtain rfl : m = 0 := by omega
              have ht : heldL f 256 = l := by rw [HLF.out, heldL_zero]; rfl
              have HT : Hid (l = heldL f 256) := ht.symm
              have d0 : decide (0 ≤ ((0 : Nat) : Int) - 1) = false := by decide
              have HOD := HOW
              obtain ⟨wd, hwd⟩ : ∃ wd, wd = wr := ⟨_, rfl⟩
              rw [← hwd] at HBD HOD ⊢
              clear ht hwd HLF HOW
              obtain ⟨L, hL⟩ : ∃ L, L = heldL f 256 := ⟨_, rfl⟩
              have hpu : pu = pu := rfl
              have HL := Lib.hid hL
              have hu0 := own_exc (HUP.out) (Exc.ofBelow HBD.out []) (fun _ _ h => by cases h)
              rw [HUF.out, ← hL] at hu0
              have hd0 := HOD.out
              rw [HT.out, ← hL] at hd0
              have hln := own_len hu0
              have hld := own_len hd0
              have hl256 : L.length ≤ 256 := by rw [hL]; exact heldL_len f 256
              have hcu : nu ≤ cu := by
                rcases hu0.2 with ⟨e1, e2⟩ | ⟨_, _, _, e1, _, _, hc, _⟩
                · cases e1; omega
                · cases e1; exact hc
              have hcd : nd ≤ cd := by
                rcases hd0.2 with ⟨e1, e2⟩ | ⟨_, _, _, e1, _, _, hc, _⟩
                · cases e1; omega
                · cases e1; exact hc
              rw [List.length_reverse] at hld
              have hnu : nd = nu := by omega
              have hcnt : cntF f = nu := by rw [heldL_cnt, ← hL, ← hln]
              have HUW := Lib.hid hu0
              have HDW := Lib.hid hd0
              have r1 : ((nu : Int) != (nu : Int)) = false := by simp
              have r2 : ((nu : Int) == (nu : Int)) = true := by simp
              have hlen := lenS (HS0.out wd HBD.out)
              rw [hcnt] at hlen
              have HLEN := Lib.hid hlen
              have HSC := Lib.hid (HS1.out wd HBD.out)
              have HSR := Lib.hid (HS0.out wd HBD.out)
              have HBWD : Hid (Below w.heap.size w wd) := Below.step HBW1.out HBD.out
              have hg1u : ∀ k, (Value.slice pu nu cu).ownBlock = some k → k ≠ g1 := fun k hk e => by
                have h1 := own_fits HUW.out k hk
                have := HLT.out
                omega
              have hg1d : ∀ k, (Value.slice pd nd cd).ownBlock = some k → k ≠ g1 := fun k hk e => by
                have h1 := own_fits HDW.out k hk
                have := HLT.out
                have := HLE1.out
                omega
              have HGU := Lib.hid hg1u
              have HGD := Lib.hid hg1d
              have HCNT := Lib.hid hcnt
              have HLN := Lib.hid hln
              have HNU := Lib.hid hnu
              clear hL hu0 hd0 hln hld hlen hg1u hg1d hpu hcnt
              subst hnu
              go_wp2_with fail
              refine HLEN.out.mono ?_
              rintro e w' ⟨rfl, hw'⟩
              rw [hw']; clear hw' w'
              go_wp2_with fail
              go_loopw [124] (fun t wr => ∃ (i : Nat), t = .int .i64 i ∧ i ≤ nd ∧ Hid (SmE wr g1 rm (remF f (L.take i))) ∧ Hid (Exc [g1] wd wr)) (fun t _ => nd - (intOf t).toNat)
              case atStart => exact ⟨0, rfl, by omega, (by show SmE _ _ _ _; rw [List.take_zero, remF_nil]; exact HSC.out), Exc.refl _ _⟩
              case round =>
                obtain ⟨i, rfl, hi, hsm, hex⟩ := hrel
                by_cases hlt : i < nd
                · obtain ⟨b, hb⟩ : ∃ b, L[i]? = some b := ⟨L[i]'(by have := HLN.out; omega), List.getElem?_eq_getElem (by have := HLN.out; omega)⟩
                  have hmem : b ∈ heldL f 256 := by rw [← HL.out]; exact List.mem_of_getElem? hb
                  obtain ⟨hb256, hbf⟩ := (heldL_mem f 256 b).1 hmem
                  have hu1 := own_exc HUW.out hex.out (fun k hk hm => HGU.out k hk (by simpa using hm))
                  have hd1 := own_exc HDW.out hex.out (fun k hk hm => HGD.out k hk (by simpa using hm))
                  obtain ⟨bu, hbu, _, _, cu0⟩ := own_cell hu1 i b hb
                  have hrv := rev_at L i b hb
                  rw [← HLN.out] at hrv
                  obtain ⟨bd, hbd, _, _, cd0⟩ := own_cell hd1 (nd - 1 - i) b hrv
                  subst hbu hbd
                  have d0 : decide ((i : Int) < (nd : Int)) = true := by simp; omega
                  have b0 : (0 : Int) ≤ (i : Int) := by omega
                  have b1 : (i : Int) < (nd : Int) := by omega
                  have hnd1 : nd ≤ 256 := by have := HLN.out; omega
                  obtain ⟨j, hj⟩ : ∃ j, j = nd - 1 - i := ⟨_, rfl⟩
                  rw [← hj] at cd0
                  have q1 : IntKind.i64.wrap ((nd : Int) - 1) = ((nd - 1 : Nat) : Int) := by rw [IntWalk.i64_in _ (by omega)]; omega
                  have q2 : IntKind.i64.wrap (((nd - 1 : Nat) : Int) - (i : Int)) = (j : Int) := by rw [IntWalk.i64_in _ (by omega)]; omega
                  have b2 : (0 : Int) ≤ (j : Int) := by omega
                  have b3 : (j : Int) < (nd : Int) := by omega
                  have q3 : ((b : Int) != (b : Int)) = false := by simp
                  have q4 : IntKind.i64.wrap ((i : Int) + 1) = (i : Int) + 1 := IntWalk.i64_in _ (by omega)
                  have hjlt : j < nd := by omega
                  obtain ⟨m, hm⟩ : ∃ m, m = nd - 1 := ⟨_, rfl⟩
                  rw [← hm] at q1 q2
                  clear hj hm hu1 hd1 hrv hmem
                  have HSM := hsm
                  have HEX := hex
                  have HB := Lib.hid hb
                  have HBF := Lib.hid hbf
                  clear hsm hex hb hbf
                  go_wp2_with fail
                  refine (dropS HSM.out b hb256).mono ?_
                  rintro e w5 ⟨n1, rfl, hN, hS5, hX5⟩
                  have hn1 : n1 = 0 := by
                    rcases hN with ⟨_, h⟩ | ⟨h, _⟩
                    · exact h
                    · have := remF_has f L i b (by rw [HL.out]; exact heldL_nodup f 256) HB.out HBF.out
                      rw [h] at this; cases this
                  subst hn1
                  rw [remF_step f L i b HB.out] at hS5
                  have HS5 := Lib.hid hS5
                  have HX5 := Lib.hid (Exc.trans HEX.out hX5)
                  clear hS5 hX5 hN cu0 cd0
                  go_wp2_with fail
                  go_roundw
                  case rel => exact ⟨i + 1, by go_num, by omega, HS5, HX5⟩
                  case measure => simp [intOf]; omega
                · obtain rfl : i = nd := by omega
                  have d0 : decide ((i : Int) < (i : Int)) = false := by simp
                  have hz := lenS hsm.out
                  rw [List.take_of_length_le (by have := HLN.out; omega), HL.out, remF_all] at hz
                  have HZ := Lib.hid hz
                  have HSR2 : Hid (SmE wr g0 rm f) := HSR.out.keep hex.out (fun hm => by simp at hm; exact HG01.out hm)
                  have hbl := Exc.below hex.out HBWD.out (fun x hx => by simp at hx; have := HLT0.out; omega) HBWD.out.size
                  have HBL := Lib.hid hbl
                  clear hz hbl
                  go_wp2_with fail
                  refine HZ.out.mono ?_
                  rintro e w' ⟨rfl, hw'⟩
                  rw [hw']; clear hw' w'
                  go_wp2_with fail
                  refine (lenS HSR2.out).mono ?_
                  rw [HCNT.out]
                  rintro e w' ⟨rfl, hw'⟩
                  rw [hw']; clear hw' w'
                  go_wp2_with fail
                  refine (alive42 _).mono ?_; rintro e w' ⟨rfl, hbel⟩
                  have HX := Lib.hid (Below.step HBL.out hbel)
                  clear hbel
                  go_wp2_with fail
                  go_ret
                  exact ⟨rfl, HX.out⟩

theorem walkSmallWalks (room : Int) (p : Option Addr) (n c : Nat) (w : World) (e0 : (Lit.int .i64 room).wf = true) (w0 : ∃ ss, RawS3 w p n c ss) :
    Calls Try.prog 10 #[.int .i64 room, .slice p n c] w fun e w' => e = .returned (.bool true) ∧ Below w.heap.size w w' := by
  obtain ⟨ss, h1⟩ := w0
  by_cases h : room < 1 ∨ 16 < room
  · exact swalks_bad room p n c w h
  · obtain ⟨rm, rfl⟩ := Int.eq_ofNat_of_zero_le (show 0 ≤ room by omega)
    exact swalks_good rm p n c w ss (by omega) h1

end Go.Proofs.Ythohpeinmkdfeaa
