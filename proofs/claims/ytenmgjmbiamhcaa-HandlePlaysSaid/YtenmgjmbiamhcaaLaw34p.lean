/-
  The walk of the statement HandlePlays.
-/
import Derived.Test.YtenmgjmbiamhcaaPly
import Derived.Test.YtenmgjmbiamhcaaLaw34n
namespace Go.Proofs.Ytenmgjmbiamhcaa
open Go.RowKit
set_option linter.unusedVariables false

set_option maxHeartbeats 800000 in
theorem plays_bad (room : Int) (p : Option Addr) (n c : Nat) (w : World) (hr : room < 1 ∨ 1024 < room) :
    Calls Try.prog 3 #[.int .i64 room, .slice p n c] w fun e w' => e = .returned (.bool true) ∧ Below w.heap.size w w' := by
  have H6 : Hid (Calls Try.prog 6 #[.int .i64 room] w fun e w' => e = .returned (.tuple #[.pointer none, .int .i64 1]) ∧ w' = w) := by
    show Calls _ _ _ _ _
    by_cases h1 : room < 1
    · exact new6_low room w h1
    · exact new6_high room w h1 (by omega)
  have H7 : Hid (Calls Try.prog 7 #[.int .i64 room] w fun e w' => e = .returned (.tuple #[.agg #[.int .i64 0, .slice none 0 0, .slice none 0 0], .int .i64 1]) ∧ Below w.heap.size w w') := by
    show Calls _ _ _ _ _
    by_cases h1 : room < 1
    · exact new7_low room w h1
    · exact new7_high room w h1 (by omega)
  clear hr
  go_enter Try.func3, Try.ntmps3
  go_wp2_with fail
  refine H6.out.mono ?_
  rintro e w' ⟨rfl, hw'⟩
  rw [hw']; clear hw' w'
  go_wp2_with fail
  refine H7.out.mono ?_
  rintro e w2 ⟨rfl, hB2⟩
  have HB2 := Lib.hid hB2
  clear hB2
  go_wp2_with fail
  refine (alive8 _).mono ?_; rintro e w3 ⟨rfl, hbel⟩
  have HX : Hid (Below w.heap.size w w3) := by
    show Below _ _ _
    have h1 := HB2.out.size
    refine Below.step (w1 := _) ?_ hbel
    exact HB2.out.alloc h1 _
  clear hbel
  go_wp2_with fail
  go_ret
  exact ⟨rfl, HX.out⟩

set_option maxRecDepth 100000 in
set_option maxHeartbeats 6400000 in
theorem plays_good (rm : Nat) (p : Option Addr) (n c : Nat) (w : World) (ss : List Stp3) (hr : 1 ≤ rm ∧ rm ≤ 1024) (w0 : RawS3 w p n c ss) :
    Calls Try.prog 3 #[.int .i64 rm, .slice p n c] w fun e w' => e = .returned (.bool true) ∧ Below w.heap.size w w' := by
  have hcap := w0.cap
  have hbig := w0.big
  have HRS := Lib.hid w0
  have hnot : ∀ (x : Bool) (w : World), (Op.unary .not (.bool x)).run Try.prog w = .ok (.bool (!x)) w := fun _ _ => rfl
  clear w0
  obtain ⟨k1, hk1, hk1n, hk1b⟩ : ∃ k1 : Nat, (if (80 : Int) < (n : Int) then (80 : Int) else (n : Int)) = (k1 : Int) ∧ k1 ≤ n ∧ k1 ≤ 80 := by
    by_cases h : n ≤ 80
    · exact ⟨n, by rw [if_neg (by omega)], by omega, h⟩
    · exact ⟨80, by rw [if_pos (by omega)]; rfl, by omega, by omega⟩
  have HK1 := Lib.hid hk1
  clear hk1
  go_enter Try.func3, Try.ntmps3
  go_wp2_with fail
  refine (new6_yes rm w ⟨by omega, by omega⟩).mono ?_
  rintro e w1 ⟨rfl, hT, hB⟩
  obtain ⟨g, hg⟩ : ∃ g, g = w.heap.size + 1 := ⟨_, rfl⟩
  obtain ⟨bm, hbm⟩ : ∃ bm, bm = w.heap.size := ⟨_, rfl⟩
  rw [← hg]
  rw [← hg, ← hbm] at hT
  have HT := Lib.hid hT
  have HB := Lib.hid hB
  have HG := Lib.hid hg
  have HBM := Lib.hid hbm
  clear hT hB hg hbm
  go_wp2_with fail
  refine (new7_yes rm w1 (by omega) (by omega)).mono ?_
  rintro e w2 ⟨rfl, hB2⟩
  have HB2 := Lib.hid hB2
  clear hB2
  obtain ⟨b7, hb7⟩ : ∃ b7, b7 = w2.heap.size := ⟨_, rfl⟩
  obtain ⟨W0, hW0⟩ : ∃ W0, W0 = w2.alloc (.cells #[.int .i64 rm, .slice none 0 0, .slice none 0 0] 30) := ⟨_, rfl⟩
  have hW0s : W0.heap.size = w2.heap.size + 1 := by rw [hW0, World.size_alloc]
  have HO0 : Hid (Pl3 w W0 W0.heap.size g bm b7 rm 0 (.map []) (fun _ => none) 0 0 none 0 none 0 [] [] (fun _ => none)) := by
    have hz1 := HB2.out.size
    have hgl := HT.out.lt
    have hbl := HT.out.map.own.lt
    have hB0 : Below w1.heap.size w1 W0 := by rw [hW0]; exact HB2.out.alloc hz1 _
    have hG := HG.out
    have hBM := HBM.out
    refine ⟨HT.out.step hB0, ⟨World.ownsRow_nil _ _ _ _, World.ownsRow_nil _ _ _ _, by omega, Nat.le_refl _, fun i b x h1 _ => by simp at h1, fun k hk => by simp at hk⟩, ?_, Below.step HB.out hB0, by omega, by omega, by omega, by omega, by omega, by omega, by omega, by omega⟩
    rw [hW0, hb7]; exact heap_alloc_new _ _
  have HW0 := Lib.hid hW0
  have HB7 := Lib.hid hb7
  clear hb7 hW0 hW0s HT HB HG HBM HB2 hr
  go_wp2_with (refine wpList_min rfl _ _ 3 (by rfl) n 80 k1 (by rfl) (by rfl) HK1.out ?_; refine stop ?_)
  refine unhid ?_
  rw [← HB7.out, ← HW0.out]
  clear HB7 HW0
  have hmz : (0 : Int) ≤ (k1 : Int) := by omega
  have hmc : (k1 : Int) ≤ (c : Int) := by omega
  go_wp2_with fail
  go_loopw [49] (fun t wr => ∃ (k last : Nat) (D : DataW Unit) (f : Int → Option Int) (nn : Nat) (ph : Option Addr) (ch : Nat) (pa : Option Addr) (ca : Nat) (hs : List Bool) (xs : List Int), t = .int .i64 k ∧ k ≤ k1 ∧ last ≤ k ∧ nn = cntB hs last ∧ Hid (Pl3 w wr W0.heap.size g bm b7 rm last D f nn last ph ch pa ca hs xs f)) (fun t _ => k1 - (intOf t).toNat)
  case atStart => exact ⟨0, 0, _, _, _, _, _, _, _, _, _, rfl, by omega, by omega, rfl, HO0⟩
  case round =>
    clear HO0
    obtain ⟨k, last, D, f, nn, ph, ch, pa, ca, hs, xs, rfl, hk, hlk, hcnt, hinv⟩ := hrel
    have HCNT := Lib.hid hcnt
    clear hcnt
    by_cases hlt : k < k1
    · obtain ⟨bs, o, rfl, hc⟩ := HRS.out.cells (by omega)
      obtain ⟨⟨sd, sh, sx⟩, hst⟩ : ∃ s, ss[k]? = some s := ⟨ss[k]'(by rw [HRS.out.len]; omega), List.getElem?_eq_getElem (by rw [HRS.out.len]; omega)⟩
      obtain ⟨g0', g1, g2⟩ := hc k _ hst
      obtain ⟨sm1, smh, smx⟩ := HRS.out.small _ (List.mem_of_getElem? hst)
      simp only at g0' g1 g2 sm1 smh smx
      have hbl : bs < w.heap.size := block_lt_of_cell g0'
      rw [← hinv.out.below.cell (p := ⟨bs, _, none⟩) hbl] at g0' g1 g2
      have d0 : decide ((k : Int) < (k1 : Int)) = true := by simp; omega
      have SMH := Lib.hid smh
      obtain ⟨b8, hb8⟩ : ∃ b8, b8 = wr.heap.size := ⟨_, rfl⟩
      obtain ⟨W2, hW2⟩ : ∃ W2, W2 = wr.alloc (.cells #[.int .u8 sd, .int .i64 sh, .int .i64 sx] 35) := ⟨_, rfl⟩
      have I2 : Hid (Pl3 w W2 W0.heap.size g bm b7 rm last D f nn last ph ch pa ca hs xs f) := by show Pl3 _ _ _ _ _ _ _ _ _ _ _ _ _ _ _ _ _ _ _; rw [hW2]; exact hinv.out.step ((Below.refl _ _).alloc (Nat.le_refl _) _)
      have hrow8 : W2.heap[b8]? = some (.cells #[.int .u8 sd, .int .i64 sh, .int .i64 sx] 35 (0, 0)) := by rw [hW2, hb8]; exact heap_alloc_new _ _
      have c0 : W2.cell? ⟨b8, 0, none⟩ = some (.int .u8 sd) := cell_of_row _ _ _ _ _ _ hrow8
      have c1 : W2.cell? ⟨b8, 1, none⟩ = some (.int .i64 sh) := cell_of_row _ _ _ _ _ _ hrow8
      have c2 : W2.cell? ⟨b8, 2, none⟩ = some (.int .i64 sx) := cell_of_row _ _ _ _ _ _ hrow8
      have R8 := Lib.hid hrow8
      have HB8L : Hid (W0.heap.size ≤ b8) := by show _ ≤ _; have := hinv.out.rt.fits; omega
      have HW2 := Lib.hid hW2
      have HB8 := Lib.hid hb8
      have HG8 : Hid (¬ b7 = b8) := fun e => by have := I2.out.sl; have := HB8L.out; omega
      have hc8 : ∀ w', Exc [g, bm] W2 w' → w'.heap[b8]? = some (.cells #[.int .u8 sd, .int .i64 sh, .int .i64 sx] 35 (0, 0)) := fun w' h2 => (h2.block b8 (blk_lt hrow8) (fun hm => by have := I2.out.gl; have := I2.out.bl; have := HB8L.out; simp at hm; omega)).trans hrow8
      have HC8 := Lib.hid hc8
      clear hc hst hW2 hinv hb8 smh smx hc8 hrow8
      by_cases h0 : (sd : Int) % 4 = 0
      · have e0 : ((sd : Int) % 4 == 0) = true := by simp [h0]
        clear h0
        by_cases hf : (f sh).isSome = true
        · have HF := Lib.hid hf
          clear hf
          go_wp2_with (rw [← HW2.out, ← HB8.out])
          refine (set9_some I2.out.tb sh sx SMH.out HF.out).mono ?_
          rintro e w3 ⟨rfl, ⟨D', hT3⟩, hX3'⟩
          have hX3 : Exc [g, bm] W2 w3 := hX3'.wide (fun x hx => by simp at hx; subst hx; simp)
          have I3 := Lib.hid (I2.out.turn hT3 hX3)
          have R83 := Lib.hid (HC8.out w3 hX3)
          have k1' : w3.cell? ⟨b8, 1, none⟩ = some (.int .i64 sh) := cell_of_row _ _ _ _ _ _ R83.out
          have k2' : w3.cell? ⟨b8, 2, none⟩ = some (.int .i64 sx) := cell_of_row _ _ _ _ _ _ R83.out
          have p0 := I3.out.c0
          have p1 := I3.out.c1
          have p2 := I3.out.c2
          clear hT3 hX3' hX3 c0 c1 c2
          go_wp2_with fail
          refine (set10_some I3.out.rt rm sh sx SMH.out HF.out).mono ?_
          rintro e w4 ⟨bx, cb, i, rfl, hki, him, hR, hB4⟩
          have hr84 := (hB4.block b8 (blk_lt R83.out)).trans R83.out
          have hBB : Below W0.heap.size w3 w4 := hB4.mono I3.out.rt.fits
          clear hB4 hki him
          have hbx4 := keep_row I3.out.box hBB I3.out.sl
          have t0 : w4.cell? ⟨b7, 0, none⟩ = some (.int .i64 rm) := cell_of_row _ _ _ _ _ _ hbx4
          have t1 : w4.cell? ⟨b7, 1, none⟩ = some (.slice ph last ch) := cell_of_row _ _ _ _ _ _ hbx4
          have t2 : w4.cell? ⟨b7, 2, none⟩ = some (.slice pa last ca) := cell_of_row _ _ _ _ _ _ hbx4
          have u0 : w4.frozen? ⟨b7, 0, none⟩ = false := frozen_of_row _ _ _ _ _ hbx4
          have u1 : w4.frozen? ⟨b7, 1, none⟩ = false := frozen_of_row _ _ _ _ _ hbx4
          have u2 : w4.frozen? ⟨b7, 2, none⟩ = false := frozen_of_row _ _ _ _ _ hbx4
          obtain ⟨w5, hw5⟩ : ∃ w5, w5 = ((w4.setCell ⟨b7, 0, none⟩ (.int .i64 rm)).setCell ⟨b7, 1, none⟩ (.slice ph last ch)).setCell ⟨b7, 2, none⟩ (.slice (some ⟨bx, 0, none⟩) last cb) := ⟨_, rfl⟩
          have hI5 := I3.out.doc hBB hR
          rw [← hw5] at hI5
          have I5 := Lib.hid hI5
          have v0 := hI5.c0
          have v1 := hI5.c1
          have v2 := hI5.c2
          have hr85 : w5.heap[b8]? = some (.cells #[.int .u8 sd, .int .i64 sh, .int .i64 sx] 35 (0, 0)) := by
            rw [hw5, heap_setCell_other _ _ _ _ (fun e => HG8.out e.symm), heap_setCell_other _ _ _ _ (fun e => HG8.out e.symm), heap_setCell_other _ _ _ _ (fun e => HG8.out e.symm)]; exact hr84
          have x1 : w5.cell? ⟨b8, 1, none⟩ = some (.int .i64 sh) := cell_of_row _ _ _ _ _ _ hr85
          have HW5 := Lib.hid hw5
          clear hbx4 hI5 hr84 hr85 hw5 hBB hR p0 p1 p2 k1' k2'
          go_wp2_with (rw [← HW5.out])
          clear t0 t1 t2 u0 u1 u2
          refine (as15 I5.out.tb I5.out.rt HCNT.out sh SMH.out).mono ?_
          rintro e w6 ⟨rfl, hB6⟩
          have I6 := Lib.hid (I5.out.step hB6)
          clear hB6 v0 v1 v2 x1
          go_wp2_with fail
          go_roundw
          case rel => exact ⟨k + 1, last, _, _, _, _, _, _, _, _, _, by go_num, by omega, by omega, HCNT.out, I6⟩
          case measure => simp [intOf]; omega
        · have HF : Hid (f sh = none) := by
            show _ = _
            cases hq : f sh with
            | none => rfl
            | some y => rw [hq] at hf; exact absurd rfl hf
          clear hf
          go_wp2_with (rw [← HW2.out, ← HB8.out])
          refine (set9_none I2.out.tb sh sx SMH.out HF.out).mono ?_
          rintro e w3 ⟨rfl, hB3⟩
          have hX3 : Exc [g, bm] W2 w3 := exc_below hB3 _
          have I3 := Lib.hid (I2.out.step hB3)
          have R83 := Lib.hid (HC8.out w3 hX3)
          have k1' : w3.cell? ⟨b8, 1, none⟩ = some (.int .i64 sh) := cell_of_row _ _ _ _ _ _ R83.out
          have k2' : w3.cell? ⟨b8, 2, none⟩ = some (.int .i64 sx) := cell_of_row _ _ _ _ _ _ R83.out
          have p0 := I3.out.c0
          have p1 := I3.out.c1
          have p2 := I3.out.c2
          clear hB3 hX3 c0 c1 c2
          go_wp2_with fail
          refine (set10_none I3.out.rt rm sh sx SMH.out HF.out).mono ?_
          rintro e w4 ⟨rfl, hB4⟩
          have hR := I3.out.rt.step hB4
          have hr84 := (hB4.block b8 (blk_lt R83.out)).trans R83.out
          have hBB : Below W0.heap.size w3 w4 := hB4.mono I3.out.rt.fits
          clear hB4
          have hbx4 := keep_row I3.out.box hBB I3.out.sl
          have t0 : w4.cell? ⟨b7, 0, none⟩ = some (.int .i64 rm) := cell_of_row _ _ _ _ _ _ hbx4
          have t1 : w4.cell? ⟨b7, 1, none⟩ = some (.slice ph last ch) := cell_of_row _ _ _ _ _ _ hbx4
          have t2 : w4.cell? ⟨b7, 2, none⟩ = some (.slice pa last ca) := cell_of_row _ _ _ _ _ _ hbx4
          have u0 : w4.frozen? ⟨b7, 0, none⟩ = false := frozen_of_row _ _ _ _ _ hbx4
          have u1 : w4.frozen? ⟨b7, 1, none⟩ = false := frozen_of_row _ _ _ _ _ hbx4
          have u2 : w4.frozen? ⟨b7, 2, none⟩ = false := frozen_of_row _ _ _ _ _ hbx4
          obtain ⟨w5, hw5⟩ : ∃ w5, w5 = ((w4.setCell ⟨b7, 0, none⟩ (.int .i64 rm)).setCell ⟨b7, 1, none⟩ (.slice ph last ch)).setCell ⟨b7, 2, none⟩ (.slice pa last ca) := ⟨_, rfl⟩
          have hI5 := I3.out.doc hBB hR
          rw [← hw5] at hI5
          have I5 := Lib.hid hI5
          have v0 := hI5.c0
          have v1 := hI5.c1
          have v2 := hI5.c2
          have hr85 : w5.heap[b8]? = some (.cells #[.int .u8 sd, .int .i64 sh, .int .i64 sx] 35 (0, 0)) := by
            rw [hw5, heap_setCell_other _ _ _ _ (fun e => HG8.out e.symm), heap_setCell_other _ _ _ _ (fun e => HG8.out e.symm), heap_setCell_other _ _ _ _ (fun e => HG8.out e.symm)]; exact hr84
          have x1 : w5.cell? ⟨b8, 1, none⟩ = some (.int .i64 sh) := cell_of_row _ _ _ _ _ _ hr85
          have HW5 := Lib.hid hw5
          clear hbx4 hI5 hr84 hr85 hw5 hBB hR p0 p1 p2 k1' k2'
          go_wp2_with (rw [← HW5.out])
          clear t0 t1 t2 u0 u1 u2
          refine (as15 I5.out.tb I5.out.rt HCNT.out sh SMH.out).mono ?_
          rintro e w6 ⟨rfl, hB6⟩
          have I6 := Lib.hid (I5.out.step hB6)
          clear hB6 v0 v1 v2 x1
          go_wp2_with fail
          go_roundw
          case rel => exact ⟨k + 1, last, _, _, _, _, _, _, _, _, _, by go_num, by omega, by omega, HCNT.out, I6⟩
          case measure => simp [intOf]; omega
      · have e0 : ((sd : Int) % 4 == 0) = false := by simp [h0]
        clear h0
        by_cases h1 : (sd : Int) % 4 = 1
        · have e1 : ((sd : Int) % 4 == 1) = true := by simp [h1]
          clear h1
          by_cases hf : (f sh).isSome = true
          · have HF := Lib.hid hf
            clear hf
            go_wp2_with (rw [← HW2.out, ← HB8.out])
            refine (drop11_some I2.out.tb sh SMH.out HF.out).mono ?_
            rintro e w3 ⟨rfl, ⟨D', hT3⟩, hX3'⟩
            have hX3 : Exc [g, bm] W2 w3 := hX3'.wide (fun x hx => by simp at hx; subst hx; simp)
            have I3 := Lib.hid (I2.out.turn hT3 hX3)
            have R83 := Lib.hid (HC8.out w3 hX3)
            have k1' : w3.cell? ⟨b8, 1, none⟩ = some (.int .i64 sh) := cell_of_row _ _ _ _ _ _ R83.out
            have k2' : w3.cell? ⟨b8, 2, none⟩ = some (.int .i64 sx) := cell_of_row _ _ _ _ _ _ R83.out
            have p0 := I3.out.c0
            have p1 := I3.out.c1
            have p2 := I3.out.c2
            clear hT3 hX3' hX3 c0 c1 c2
            go_wp2_with fail
            refine (drop12_some I3.out.rt rm sh SMH.out HF.out).mono ?_
            rintro e w4 ⟨bx, cb, i, rfl, hki, him, hR, hB4⟩
            have hr84 := (hB4.block b8 (blk_lt R83.out)).trans R83.out
            have hBB : Below W0.heap.size w3 w4 := hB4.mono I3.out.rt.fits
            have hcn : nn - 1 = cntB (hs.set i false) last := by
              have hl := I2.out.rt.lenH
              have hl2 := I2.out.rt.lenA
              obtain ⟨b, hb⟩ : ∃ b, hs[i]? = some b := ⟨hs[i]'(by omega), List.getElem?_eq_getElem (by omega)⟩
              obtain ⟨y, hy⟩ : ∃ y, xs[i]? = some y := ⟨xs[i]'(by omega), List.getElem?_eq_getElem (by omega)⟩
              have h1 := I2.out.rt.hit i b y hb hy
              have h2 := HF.out
              rw [hki, h1] at h2
              cases b with
              | false => simp at h2
              | true =>
                have := cntB_set hs i hb last him (by omega)
                have := HCNT.out
                omega
            have HCN := Lib.hid hcn
            clear hB4 hki him hcn
            have hbx4 := keep_row I3.out.box hBB I3.out.sl
            have t0 : w4.cell? ⟨b7, 0, none⟩ = some (.int .i64 rm) := cell_of_row _ _ _ _ _ _ hbx4
            have t1 : w4.cell? ⟨b7, 1, none⟩ = some (.slice ph last ch) := cell_of_row _ _ _ _ _ _ hbx4
            have t2 : w4.cell? ⟨b7, 2, none⟩ = some (.slice pa last ca) := cell_of_row _ _ _ _ _ _ hbx4
            have u0 : w4.frozen? ⟨b7, 0, none⟩ = false := frozen_of_row _ _ _ _ _ hbx4
            have u1 : w4.frozen? ⟨b7, 1, none⟩ = false := frozen_of_row _ _ _ _ _ hbx4
            have u2 : w4.frozen? ⟨b7, 2, none⟩ = false := frozen_of_row _ _ _ _ _ hbx4
            obtain ⟨w5, hw5⟩ : ∃ w5, w5 = ((w4.setCell ⟨b7, 0, none⟩ (.int .i64 rm)).setCell ⟨b7, 1, none⟩ (.slice (some ⟨bx, 0, none⟩) last cb)).setCell ⟨b7, 2, none⟩ (.slice pa last ca) := ⟨_, rfl⟩
            have hI5 := I3.out.doc hBB hR
            rw [← hw5] at hI5
            have I5 := Lib.hid hI5
            have v0 := hI5.c0
            have v1 := hI5.c1
            have v2 := hI5.c2
            have hr85 : w5.heap[b8]? = some (.cells #[.int .u8 sd, .int .i64 sh, .int .i64 sx] 35 (0, 0)) := by
              rw [hw5, heap_setCell_other _ _ _ _ (fun e => HG8.out e.symm), heap_setCell_other _ _ _ _ (fun e => HG8.out e.symm), heap_setCell_other _ _ _ _ (fun e => HG8.out e.symm)]; exact hr84
            have x1 : w5.cell? ⟨b8, 1, none⟩ = some (.int .i64 sh) := cell_of_row _ _ _ _ _ _ hr85
            have HW5 := Lib.hid hw5
            clear hbx4 hI5 hr84 hr85 hw5 hBB hR p0 p1 p2 k1' k2'
            go_wp2_with (rw [← HW5.out])
            clear t0 t1 t2 u0 u1 u2
            refine (as15 I5.out.tb I5.out.rt HCN.out sh SMH.out).mono ?_
            rintro e w6 ⟨rfl, hB6⟩
            have I6 := Lib.hid (I5.out.step hB6)
            clear hB6 v0 v1 v2 x1
            go_wp2_with fail
            go_roundw
            case rel => exact ⟨k + 1, last, _, _, _, _, _, _, _, _, _, by go_num, by omega, by omega, HCN.out, I6⟩
            case measure => simp [intOf]; omega
          · have HF : Hid (f sh = none) := by
              show _ = _
              cases hq : f sh with
              | none => rfl
              | some y => rw [hq] at hf; exact absurd rfl hf
            clear hf
            go_wp2_with (rw [← HW2.out, ← HB8.out])
            refine (drop11_none I2.out.tb sh SMH.out HF.out).mono ?_
            rintro e w3 ⟨rfl, hB3⟩
            have hX3 : Exc [g, bm] W2 w3 := exc_below hB3 _
            have I3 := Lib.hid (I2.out.step hB3)
            have R83 := Lib.hid (HC8.out w3 hX3)
            have k1' : w3.cell? ⟨b8, 1, none⟩ = some (.int .i64 sh) := cell_of_row _ _ _ _ _ _ R83.out
            have k2' : w3.cell? ⟨b8, 2, none⟩ = some (.int .i64 sx) := cell_of_row _ _ _ _ _ _ R83.out
            have p0 := I3.out.c0
            have p1 := I3.out.c1
            have p2 := I3.out.c2
            clear hB3 hX3 c0 c1 c2
            go_wp2_with fail
            refine (drop12_none I3.out.rt rm sh SMH.out HF.out).mono ?_
            rintro e w4 ⟨rfl, hB4⟩
            have hR := I3.out.rt.step hB4
            have hr84 := (hB4.block b8 (blk_lt R83.out)).trans R83.out
            have hBB : Below W0.heap.size w3 w4 := hB4.mono I3.out.rt.fits
            clear hB4
            have hbx4 := keep_row I3.out.box hBB I3.out.sl
            have t0 : w4.cell? ⟨b7, 0, none⟩ = some (.int .i64 rm) := cell_of_row _ _ _ _ _ _ hbx4
            have t1 : w4.cell? ⟨b7, 1, none⟩ = some (.slice ph last ch) := cell_of_row _ _ _ _ _ _ hbx4
            have t2 : w4.cell? ⟨b7, 2, none⟩ = some (.slice pa last ca) := cell_of_row _ _ _ _ _ _ hbx4
            have u0 : w4.frozen? ⟨b7, 0, none⟩ = false := frozen_of_row _ _ _ _ _ hbx4
            have u1 : w4.frozen? ⟨b7, 1, none⟩ = false := frozen_of_row _ _ _ _ _ hbx4
            have u2 : w4.frozen? ⟨b7, 2, none⟩ = false := frozen_of_row _ _ _ _ _ hbx4
            obtain ⟨w5, hw5⟩ : ∃ w5, w5 = ((w4.setCell ⟨b7, 0, none⟩ (.int .i64 rm)).setCell ⟨b7, 1, none⟩ (.slice ph last ch)).setCell ⟨b7, 2, none⟩ (.slice pa last ca) := ⟨_, rfl⟩
            have hI5 := I3.out.doc hBB hR
            rw [← hw5] at hI5
            have I5 := Lib.hid hI5
            have v0 := hI5.c0
            have v1 := hI5.c1
            have v2 := hI5.c2
            have hr85 : w5.heap[b8]? = some (.cells #[.int .u8 sd, .int .i64 sh, .int .i64 sx] 35 (0, 0)) := by
              rw [hw5, heap_setCell_other _ _ _ _ (fun e => HG8.out e.symm), heap_setCell_other _ _ _ _ (fun e => HG8.out e.symm), heap_setCell_other _ _ _ _ (fun e => HG8.out e.symm)]; exact hr84
            have x1 : w5.cell? ⟨b8, 1, none⟩ = some (.int .i64 sh) := cell_of_row _ _ _ _ _ _ hr85
            have HW5 := Lib.hid hw5
            clear hbx4 hI5 hr84 hr85 hw5 hBB hR p0 p1 p2 k1' k2'
            go_wp2_with (rw [← HW5.out])
            clear t0 t1 t2 u0 u1 u2
            refine (as15 I5.out.tb I5.out.rt HCNT.out sh SMH.out).mono ?_
            rintro e w6 ⟨rfl, hB6⟩
            have I6 := Lib.hid (I5.out.step hB6)
            clear hB6 v0 v1 v2 x1
            go_wp2_with fail
            go_roundw
            case rel => exact ⟨k + 1, last, _, _, _, _, _, _, _, _, _, by go_num, by omega, by omega, HCNT.out, I6⟩
            case measure => simp [intOf]; omega
        · have e1 : ((sd : Int) % 4 == 1) = false := by simp [h1]
          clear h1
          by_cases hfull : nn = rm
          · skip
            have HNF : Hid (nn = rm) := hfull
            subst hfull
            go_wp2_with (rw [← HW2.out, ← HB8.out])
            refine (add13_full I2.out.tb sx).mono ?_
            rintro e w3 ⟨rfl, z, hw3⟩
            have hX3 : Exc [g, bm] W2 w3 := by rw [hw3]; exact (Exc.refl _ _).drewN z
            have hp3 : Pl3 w w3 W0.heap.size g bm b7 nn last D f nn last ph ch pa ca hs xs f := by rw [hw3]; exact I2.out.drewN z
            have I3 := Lib.hid (hp3)
            have R83 := Lib.hid (HC8.out w3 hX3)
            have k1' : w3.cell? ⟨b8, 1, none⟩ = some (.int .i64 sh) := cell_of_row _ _ _ _ _ _ R83.out
            have k2' : w3.cell? ⟨b8, 2, none⟩ = some (.int .i64 sx) := cell_of_row _ _ _ _ _ _ R83.out
            have p0 := I3.out.c0
            have p1 := I3.out.c1
            have p2 := I3.out.c2
            clear hp3 hw3 hX3 c0 c1 c2
            go_wp2_with fail
            refine (add14_full I3.out.rt nn sx (by rw [← HCNT.out])).mono ?_
            rintro e w4 ⟨rfl, hB4⟩
            have hR := I3.out.rt.step hB4
            have hr84 := (hB4.block b8 (blk_lt R83.out)).trans R83.out
            have hBB : Below W0.heap.size w3 w4 := hB4.mono I3.out.rt.fits
            clear hB4
            have hbx4 := keep_row I3.out.box hBB I3.out.sl
            have t0 : w4.cell? ⟨b7, 0, none⟩ = some (.int .i64 nn) := cell_of_row _ _ _ _ _ _ hbx4
            have t1 : w4.cell? ⟨b7, 1, none⟩ = some (.slice ph last ch) := cell_of_row _ _ _ _ _ _ hbx4
            have t2 : w4.cell? ⟨b7, 2, none⟩ = some (.slice pa last ca) := cell_of_row _ _ _ _ _ _ hbx4
            have u0 : w4.frozen? ⟨b7, 0, none⟩ = false := frozen_of_row _ _ _ _ _ hbx4
            have u1 : w4.frozen? ⟨b7, 1, none⟩ = false := frozen_of_row _ _ _ _ _ hbx4
            have u2 : w4.frozen? ⟨b7, 2, none⟩ = false := frozen_of_row _ _ _ _ _ hbx4
            obtain ⟨w5, hw5⟩ : ∃ w5, w5 = ((w4.setCell ⟨b7, 0, none⟩ (.int .i64 nn)).setCell ⟨b7, 1, none⟩ (.slice ph last ch)).setCell ⟨b7, 2, none⟩ (.slice pa last ca) := ⟨_, rfl⟩
            have hI5 := I3.out.doc hBB hR
            rw [← hw5] at hI5
            have I5 := Lib.hid hI5
            have v0 := hI5.c0
            have v1 := hI5.c1
            have v2 := hI5.c2
            have hr85 : w5.heap[b8]? = some (.cells #[.int .u8 sd, .int .i64 sh, .int .i64 sx] 35 (0, 0)) := by
              rw [hw5, heap_setCell_other _ _ _ _ (fun e => HG8.out e.symm), heap_setCell_other _ _ _ _ (fun e => HG8.out e.symm), heap_setCell_other _ _ _ _ (fun e => HG8.out e.symm)]; exact hr84
            have x1 : w5.cell? ⟨b8, 1, none⟩ = some (.int .i64 sh) := cell_of_row _ _ _ _ _ _ hr85
            have HW5 := Lib.hid hw5
            clear hbx4 hI5 hr84 hr85 hw5 hBB hR p0 p1 p2 k1' k2'
            go_wp2_with (rw [← HW5.out])
            clear t0 t1 t2 u0 u1 u2
            refine (as15 I5.out.tb I5.out.rt HCNT.out sh SMH.out).mono ?_
            rintro e w6 ⟨rfl, hB6⟩
            have I6 := Lib.hid (I5.out.step hB6)
            clear hB6 v0 v1 v2 x1
            go_wp2_with fail
            go_roundw
            case rel => exact ⟨k + 1, last, _, _, _, _, _, _, _, _, _, by go_num, by omega, by omega, HCNT.out, I6⟩
            case measure => simp [intOf]; omega
          · skip
            have hnl : nn < rm := by have := I2.out.tb.le; omega
            have hne : ¬ (cntB hs last : Int) = (rm : Int) := by have := HCNT.out; omega
            have HNE := Lib.hid hne
            clear hfull hne
            go_wp2_with (rw [← HW2.out, ← HB8.out])
            refine (add13_yes I2.out.tb sx hnl (by omega)).mono ?_
            rintro e w3 ⟨rfl, ⟨D', hT3⟩, hX3⟩
            have I3 := Lib.hid (I2.out.turn hT3 hX3)
            have R83 := Lib.hid (HC8.out w3 hX3)
            have k1' : w3.cell? ⟨b8, 1, none⟩ = some (.int .i64 sh) := cell_of_row _ _ _ _ _ _ R83.out
            have k2' : w3.cell? ⟨b8, 2, none⟩ = some (.int .i64 sx) := cell_of_row _ _ _ _ _ _ R83.out
            have p0 := I3.out.c0
            have p1 := I3.out.c1
            have p2 := I3.out.c2
            clear hT3 hX3 c0 c1 c2 hnl
            go_wp2_with fail
            refine (add14_yes I3.out.rt rm sx HNE.out (by omega)).mono ?_
            rintro e w4 ⟨ph2, pa2, ch2, ca2, rfl, hR, hBB, hOT⟩
            have hr84 := hOT b8 _ 35 (by decide) (by decide) R83.out
            have hcn : nn + 1 = cntB (hs ++ [true]) (last + 1) := by rw [cntB_more hs last I2.out.rt.lenH, ← HCNT.out]
            have HCN := Lib.hid hcn
            have y0 : ((last : Int) + 1 != (last : Int) + 1) = false := by simp
            clear hOT hcn
            have hbx4 := keep_row I3.out.box hBB I3.out.sl
            have t0 : w4.cell? ⟨b7, 0, none⟩ = some (.int .i64 rm) := cell_of_row _ _ _ _ _ _ hbx4
            have t1 : w4.cell? ⟨b7, 1, none⟩ = some (.slice ph last ch) := cell_of_row _ _ _ _ _ _ hbx4
            have t2 : w4.cell? ⟨b7, 2, none⟩ = some (.slice pa last ca) := cell_of_row _ _ _ _ _ _ hbx4
            have u0 : w4.frozen? ⟨b7, 0, none⟩ = false := frozen_of_row _ _ _ _ _ hbx4
            have u1 : w4.frozen? ⟨b7, 1, none⟩ = false := frozen_of_row _ _ _ _ _ hbx4
            have u2 : w4.frozen? ⟨b7, 2, none⟩ = false := frozen_of_row _ _ _ _ _ hbx4
            obtain ⟨w5, hw5⟩ : ∃ w5, w5 = ((w4.setCell ⟨b7, 0, none⟩ (.int .i64 rm)).setCell ⟨b7, 1, none⟩ (.slice ph2 (last + 1 : Nat) ch2)).setCell ⟨b7, 2, none⟩ (.slice pa2 (last + 1 : Nat) ca2) := ⟨_, rfl⟩
            have hI5 := I3.out.doc hBB hR
            rw [← hw5] at hI5
            have I5 := Lib.hid hI5
            have v0 := hI5.c0
            have v1 := hI5.c1
            have v2 := hI5.c2
            have hr85 : w5.heap[b8]? = some (.cells #[.int .u8 sd, .int .i64 sh, .int .i64 sx] 35 (0, 0)) := by
              rw [hw5, heap_setCell_other _ _ _ _ (fun e => HG8.out e.symm), heap_setCell_other _ _ _ _ (fun e => HG8.out e.symm), heap_setCell_other _ _ _ _ (fun e => HG8.out e.symm)]; exact hr84
            have x1 : w5.cell? ⟨b8, 1, none⟩ = some (.int .i64 sh) := cell_of_row _ _ _ _ _ _ hr85
            have HW5 := Lib.hid hw5
            clear hbx4 hI5 hr84 hr85 hw5 hBB hR p0 p1 p2 k1' k2'
            go_wp2_with (rw [← HW5.out])
            clear t0 t1 t2 u0 u1 u2
            refine (as15 I5.out.tb I5.out.rt HCN.out sh SMH.out).mono ?_
            rintro e w6 ⟨rfl, hB6⟩
            have I6 := Lib.hid (I5.out.step hB6)
            clear hB6 v0 v1 v2 x1
            go_wp2_with fail
            go_roundw
            case rel => exact ⟨k + 1, last + 1, _, _, _, _, _, _, _, _, _, by go_num, by omega, by omega, HCN.out, I6⟩
            case measure => simp [intOf]; omega
    · obtain rfl : k = k1 := by omega
      have d0 : decide ((k : Int) < (k : Int)) = false := by simp
      have p0 := hinv.out.c0
      have p1 := hinv.out.c1
      have p2 := hinv.out.c2
      go_wp2_with fail
      refine (as15 hinv.out.tb hinv.out.rt HCNT.out 1 ⟨by omega, by omega⟩).mono ?_
      rintro e w3 ⟨rfl, hB3⟩
      have I3 := Lib.hid (hinv.out.step hB3)
      clear hB3 p0 p1 p2
      go_wp2_with fail
      refine (alive8 _).mono ?_; rintro e w' ⟨rfl, hbel⟩
      have HX := Lib.hid (Below.step I3.out.below hbel)
      clear hbel
      go_wp2_with fail
      go_ret
      exact ⟨rfl, HX.out⟩

theorem walkHandlePlays (room : Int) (p : Option Addr) (n c : Nat) (w : World) (e0 : (Lit.int .i64 room).wf = true) (w0 : ∃ ss, RawS3 w p n c ss) :
    Calls Try.prog 3 #[.int .i64 room, .slice p n c] w fun e w' => e = .returned (.bool true) ∧ Below w.heap.size w w' := by
  obtain ⟨ss, h1⟩ := w0
  by_cases hr : room < 1 ∨ 1024 < room
  · exact plays_bad room p n c w hr
  · obtain ⟨rn, rfl⟩ := Int.eq_ofNat_of_zero_le (show 0 ≤ room by omega)
    exact plays_good rn p n c w ss (by omega) h1

end Go.Proofs.Ytenmgjmbiamhcaa
