/-
  For the statement TopOwners: TopOwners: the walk.
-/
import Derived.Test.YtbihlmkjoplkoaaGreatDoorM48
namespace Go.Proofs.YtbihlmkjoplkoaaGreatDoor
open Go.RowKit
set_option linter.unusedVariables false

theorem RawB.gw {w w' : World} {p : Option Addr} {n c : Nat} (h : RawB w p n c) (k : Gw w w') : RawB w' p n c := let ⟨h1, xs, h2⟩ := h; ⟨h1, xs, fun hn => (h2 hn).below k⟩
theorem Pin.gw {w w' : World} {p : Option Addr} {n c : Nat} {hs : List (Hd × Int)} (h : Pin w p n c hs) (k : Gw w w') : Pin w' p n c hs :=
  ⟨h.len, h.cap, h.big, fun h0 => by
    obtain ⟨b, o, e, hc⟩ := h.cells h0
    exact ⟨b, o, e, fun i x hx => ⟨k.cell (hc i x hx).1, k.cell (hc i x hx).2⟩⟩, fun x hx => ⟨(h.raw x hx).1.gw k, (h.raw x hx).2⟩⟩

/-- slices of bytes that came in -/
structure Din (w : World) (p : Option Addr) (n c : Nat) (hs : List Hd) : Prop where
  len : hs.length = n
  cap : n ≤ c
  big : c ≤ maxLen
  cells : 0 < n → ∃ b o, p = some ⟨b, o, none⟩ ∧ ∀ i x, hs[i]? = some x → w.cell? ⟨b, o + i, none⟩ = some x.val
  raw : ∀ x : Hd, x ∈ hs → RawB w x.1 x.2.1 x.2.2

/-- one of them, in a world that has grown: its header; its bytes, where it is short -/
theorem Din.at {w wr : World} {p : Option Addr} {n c : Nat} {hs : List Hd} (h : Din w p n c hs) (k : Gw w wr) {i : Nat} (hi : i < n) :
    ∃ b o q m d, p = some ⟨b, o, none⟩ ∧ wr.cell? ⟨b, o + i, none⟩ = some (.slice q m d) ∧ m ≤ maxLen ∧ (m ≤ 300 → ∃ xs, Kb w.heap.size wr q m d xs) := by
  obtain ⟨b, o, e, hc⟩ := h.cells (by omega)
  obtain ⟨⟨q, m, d⟩, hx⟩ : ∃ x, hs[i]? = some x := ⟨hs[i]'(by rw [h.len]; exact hi), List.getElem?_eq_getElem (by rw [h.len]; exact hi)⟩
  have hraw := h.raw _ (List.mem_of_getElem? hx)
  refine ⟨b, o, q, m, d, e, k.cell (hc i _ hx), hraw.1, fun hm => ?_⟩
  obtain ⟨_, xs, hxs⟩ := hraw
  exact ⟨xs, (Kb.came (hxs (by simp only; omega)) (Nat.le_refl _)).step k⟩

theorem Ott.low' {B wb tb : Nat} {w w' : World} (h : Ott B wb tb w w') {b j : Nat} (hb : b < B) : w'.cell? ⟨b, j, none⟩ = w.cell? ⟨b, j, none⟩ := World.cell?_of_block (h.low b hb)

section
variable {w : World} {p0 p1 p2 : Option Addr} {n0 c0 n1 c1 n2 c2 : Nat} {hs0 hs1 : List (Hd × Int)} {hs2 : List Hd}

set_option maxRecDepth 100000 in
set_option maxHeartbeats 6400000 in
theorem walk3 (htab : Tab w) (h0 : Pin w p0 n0 c0 hs0) (h1 : Pin w p1 n1 c1 hs1) (h2 : Din w p2 n2 c2 hs2) :
    Calls Tryz.prog 3 #[.slice p0 n0 c0, .slice p1 n1 c1, .slice p2 n2 c2] w fun e w' => e = .returned (.bool true) ∧ Gw w w' := by
  have HTAB := Lib.hid htab
  have HP0 := Lib.hid h0
  have HP1 := Lib.hid h1
  have HD := Lib.hid h2
  have F0 := Lib.hid (far4 h0 60)
  have F1 : Hid (∀ w', Gw w w' → Calls Tryz.prog 4 #[.slice p1 n1 c1, .int .i64 (40 : Nat)] w' fun e w'' => ∃ r, e = .returned (.bool r) ∧ Gw w' w'' ∧ (r = false → n1 ≤ 40 ∧ ∀ x ∈ hs1, x.1.2.1 ≤ 300)) := fun w' k => far4 (h1.gw k) 40
  have HM : Hid (n2 ≤ 9223372036854775807) := by
    show _ ≤ _
    have := h2.cap; have := h2.big; unfold maxLen at this; omega
  have HAL : Hid (∀ w', Gw w w' → Calls Tryz.prog 5 #[] w' fun e w'' => e = .returned (.bool true) ∧ Gw w w'') := fun w' k => (alive5 (htab.gw k)).mono fun e w'' ⟨a, b⟩ => ⟨a, k.trans b⟩
  clear htab h0 h1 h2
  go_enter Tryz.func3, Tryz.ntmps3
  go_wp2_with fail
  refine F0.out.mono ?_; rintro e w1 ⟨r, rfl, hg1, hr⟩
  have G1 := Lib.hid hg1
  cases r with
  | true =>
    clear hr hg1
    go_wp2_with fail
    refine (HAL.out _ G1.out).mono ?_; rintro e w2 ⟨rfl, hg2⟩
    have G2 := Lib.hid hg2
    clear hg2
    go_wp2_with fail
    go_ret
    exact ⟨rfl, G2.out⟩
  | false =>
    have N0 := Lib.hid (hr rfl)
    clear hr hg1
    go_wp2_with fail
    refine (F1.out _ G1.out).mono ?_; rintro e w2 ⟨r, rfl, hg2, hr⟩
    have G2 := Lib.hid (G1.out.trans hg2)
    cases r with
    | true =>
      clear hr hg2
      go_wp2_with fail
      refine (HAL.out _ G2.out).mono ?_; rintro e w3 ⟨rfl, hg3⟩
      have G3 := Lib.hid hg3
      clear hg3
      go_wp2_with fail
      go_ret
      exact ⟨rfl, G3.out⟩
    | false =>
      have N1 := Lib.hid (hr rfl)
      clear hr hg2
      by_cases h40 : 40 < n2
      · have d1 : decide (40 < (n2 : Int)) = true := by simp; omega
        go_wp2_with fail
        refine (HAL.out _ G2.out).mono ?_; rintro e w3 ⟨rfl, hg3⟩
        have G3 := Lib.hid hg3
        clear hg3
        go_wp2_with fail
        go_ret
        exact ⟨rfl, G3.out⟩
      · have d1 : decide (40 < (n2 : Int)) = false := by simp; omega
        have N2 : Hid (n2 ≤ 40) := by show n2 ≤ 40; omega
        clear h40
        obtain ⟨l0, hl0⟩ := HP0.out.near (by have := N0.out.1; omega) N0.out.2
        obtain ⟨l1, hl1⟩ := HP1.out.near (by have := N1.out.1; omega) N1.out.2
        have L0 := Lib.hid hl0
        have L1 := Lib.hid hl1
        clear hl0 hl1
        go_wp2_with fail
        refine (new6 w2).mono ?_; rintro e w3 ⟨rfl, hw3, hg3⟩
        have G3 := Lib.hid (G2.out.trans hg3)
        have E3 : Hid (Env w.heap.size w2.heap.size 0 w3 noStore) := ⟨sto_none _ _, hw3, G2.out.size⟩
        obtain ⟨wb, hwb⟩ : ∃ wb, wb = w2.heap.size := ⟨_, rfl⟩
        rw [← hwb] at E3 ⊢
        clear hw3 hg3 hwb
        go_wp2_with fail
        refine (sort9 (L0.out.step G3.out)).mono ?_; rintro e w4 ⟨q4, n4, c4, l4, rfl, hp4, hn4, hrise, hg4⟩
        have G4 := Lib.hid (G3.out.trans hg4)
        have E4 := Lib.hid (E3.out.below hg4)
        have P4 := Lib.hid (And.intro hp4 (And.intro hn4 hrise))
        clear hp4 hn4 hrise hg4
        go_wp2_with fail
        refine (pairs8 P4.out.1).mono ?_; rintro e w5 ⟨q5, c5, rfl, hp5, hg5⟩
        have G5 := Lib.hid (G4.out.trans hg5)
        have E5 := Lib.hid (E4.out.below hg5)
        have P5 := Lib.hid hp5
        clear hp5 hg5
        go_wp2_with fail
        refine (From7 E5.out (by omega) (by omega) P5.out P4.out.2.2).mono ?_; rintro e w6 ⟨tv, S6, v, rfl, he6, ho6, htr6, hv6, hb6⟩
        have G6 := Lib.hid (gw_oth G5.out ho6 (Nat.le_refl _))
        have E6 := Lib.hid he6
        have TV : Hid (TvOk tv) := ⟨htr6.sep, htr6.full, htr6.all, by have := htr6.cnt; have := N0.out.1; have := P4.out.2.1; omega⟩
        have R6 := Lib.hid htr6.rep
        have V6 := Lib.hid (And.intro hv6 hb6)
        clear he6 ho6 htr6 hv6 hb6
        go_wp2_with fail
        refine (Edit10 E6.out (by omega) (by omega) V6.out.1 V6.out.2 R6.out (good_short TV.out.all) (by have := TV.out.cnt; omega)).mono ?_; rintro e w7 ⟨tb, m, rfl, he7, ho7, ht7, hv7, hb7⟩
        have I7 : Hid (I1 w wb v tb tv w7 S6 tv m 0) := ⟨ho7.gw G6.out (Nat.le_refl _), he7, ht7, hv7, R6.out, R6.out, TOk.start TV.out⟩
        have HB7 : Hid (w.heap.size ≤ tb) := hb7
        clear he7 ho7 ht7 hv7 hb7
        have k1 := run_eql_pointer_nil (P := Tryz.prog) w7 28 (some ⟨v, 0, none⟩) (by kernel_rfl)
        have k2 := run_eql_pointer_nil (P := Tryz.prog) w7 35 (some ⟨tb, 0, none⟩) (by kernel_rfl)
        have T7 := Lib.hid (owner11 I7.out.tr)
        go_wp2_with fail
        refine T7.out.mono ?_; rintro e w8 ⟨rfl, hg8⟩
        have I8 := Lib.hid (I7.out.step hg8)
        clear hg8 T7 I7 k1 k2 G1 F0 F1 G2 G3 G4 G5 G6 E3 E4 E5 E6 P4 P5 R6 V6 d1
        obtain ⟨N, hN, hN1, hN2, hN3⟩ : ∃ N : Nat, (if (n2 : Int) > (n1 : Int) then (n2 : Int) else (n1 : Int)) = (N : Int) ∧ n1 ≤ N ∧ n2 ≤ N ∧ N ≤ 40 := by
          have a1 := N1.out.1
          have a2 := N2.out
          by_cases h : n1 < n2
          · exact ⟨n2, by rw [if_pos (by omega)], by omega, Nat.le_refl _, a2⟩
          · exact ⟨n1, by rw [if_neg (by omega)], Nat.le_refl _, by omega, a1⟩
        have HN := Lib.hid hN
        have HN' := Lib.hid (And.intro hN1 hN2)
        clear hN hN1 hN2
        go_wp2_with (refine wpList_max rfl _ _ 3 (by rfl) n1 n2 N (by rfl) (by rfl) HN.out ?_; refine stop ?_)
        refine unhid ?_
        have hmz : (0 : Int) ≤ (N : Int) := by omega
        go_wp2_with fail
        go_loopw [71] (fun t wr => ∃ (i : Nat) (S : Store) (u : T) (m : Int), t = .int .i64 i ∧ i ≤ N ∧ Hid (I1 w wb v tb tv wr S u m i)) (fun t _ => N - (intOf t).toNat)
        case atStart => exact ⟨0, _, _, _, rfl, by omega, I8⟩
        case round =>
          clear I8
          obtain ⟨i, S, u, m, rfl, hi, hI⟩ := hrel
          by_cases hlt : i < N
          · by_cases h1 : i < n1
            · obtain ⟨y, hy⟩ : ∃ y, l1[i]? = some y := ⟨l1[i]'(by rw [L1.out.len]; exact h1), List.getElem?_eq_getElem (by rw [L1.out.len]; exact h1)⟩
              obtain ⟨b, o, q, nk, d, rfl, g0, g1, hk⟩ := (L1.out.step hI.out.gw).at hy
              have hs := L1.out.small y (List.mem_of_getElem? hy)
              have HKS := Lib.hid (And.intro hk hs)
              have HBI : Hid (b < w.heap.size) := by
                obtain ⟨_, _, _, _, _, e, h5, _⟩ := L1.out.at hy
                cases e
                exact block_lt_of_cell h5
              clear hk hs hy
              go_wp2_with fail
              go_region_held3 (fun W' : World => W'.cell? ⟨b, o + i * 2, none⟩ = some (.slice q nk d) ∧ W'.cell? ⟨b, o + i * 2 + 1, none⟩ = some (.int .u64 y.2))
                (first
                  | exact ⟨g0, g1⟩
                  | exact X)
                (first
                  | (go_at_call 12
                     have G : Gw wr (wr.drewN 1) := (Gw.refl wr).drewN 1
                     refine (Put12 (hI.out.env.below G) (hI.out.tr.gw G) HB7.out (hI.out.ver.step G) (by omega) hI.out.rt hI.out.tok.sep (HKS.out.1.step G) (by have := HKS.out.1.bs.len; have := HKS.out.2.1; omega) y.2 HKS.out.2.2).mono ?_
                     rintro e V ⟨u', S', m', rfl, he, ho, ht, hr, hx, hp⟩
                     have II : Hid (I1 w wb v tb tv V S' u' m' (i + 1)) := (hI.out.step G).put TV.out he ho ht hr hx HKS.out.2.1 hp
                     have X : V.cell? ⟨b, o + i * 2, none⟩ = some (.slice q nk d) ∧ V.cell? ⟨b, o + i * 2 + 1, none⟩ = some (.int .u64 y.2) := ⟨(ho.low' HBI.out).trans g0, (ho.low' HBI.out).trans g1⟩))
              clear he ho ht hr hx hp G X g0 g1 hI
              by_cases h2 : i < n2
              · obtain ⟨b3, o3, q3, nk3, d3, rfl, g3, hn3, hk3⟩ := HD.out.at II.out.gw h2
                by_cases h300 : nk3 ≤ 300
                · obtain ⟨xs, hxs⟩ := hk3 h300
                  have HXS := Lib.hid hxs
                  clear hk3 hxs
                  have d1 : decide ((nk3 : Int) ≤ 300) = true := by simp; omega
                  go_wp2_with fail
                  refine (Del13 II.out.env II.out.tr HB7.out II.out.ver (by omega) II.out.rt II.out.tok.sep II.out.tok.full (good_short II.out.tok.all) HXS.out (by omega)).mono ?_
                  rintro e V2 ⟨u', S', m', bb, rfl, he, ho, ht, hr, hx, hp⟩
                  have I3 : Hid (I1 w wb v tb tv V2 S' u' m' (i + 1)) := II.out.del TV.out he ho ht hr hx hp
                  clear he ho ht hr hx hp II
                  go_wp2_with fail
                  go_roundw
                  case rel => exact ⟨i + 1, _, _, _, by go_num, by omega, I3⟩
                  case measure => simp [intOf]; omega
                · have d1 : decide ((nk3 : Int) ≤ 300) = false := by simp; omega
                  unfold maxLen at hn3
                  clear hk3
                  go_wp2_with fail
                  go_roundw
                  case rel => exact ⟨i + 1, _, _, _, by go_num, by omega, II⟩
                  case measure => simp [intOf]; omega
              · go_wp2_with fail
                go_roundw
                case rel => exact ⟨i + 1, _, _, _, by go_num, by omega, II⟩
                case measure => simp [intOf]; omega
            · have II := Lib.hid hI.out.more
              clear hI
              by_cases h2 : i < n2
              · obtain ⟨b3, o3, q3, nk3, d3, rfl, g3, hn3, hk3⟩ := HD.out.at II.out.gw h2
                by_cases h300 : nk3 ≤ 300
                · obtain ⟨xs, hxs⟩ := hk3 h300
                  have HXS := Lib.hid hxs
                  clear hk3 hxs
                  have d1 : decide ((nk3 : Int) ≤ 300) = true := by simp; omega
                  go_wp2_with fail
                  refine (Del13 II.out.env II.out.tr HB7.out II.out.ver (by omega) II.out.rt II.out.tok.sep II.out.tok.full (good_short II.out.tok.all) HXS.out (by omega)).mono ?_
                  rintro e V2 ⟨u', S', m', bb, rfl, he, ho, ht, hr, hx, hp⟩
                  have I3 : Hid (I1 w wb v tb tv V2 S' u' m' (i + 1)) := II.out.del TV.out he ho ht hr hx hp
                  clear he ho ht hr hx hp II
                  go_wp2_with fail
                  go_roundw
                  case rel => exact ⟨i + 1, _, _, _, by go_num, by omega, I3⟩
                  case measure => simp [intOf]; omega
                · have d1 : decide ((nk3 : Int) ≤ 300) = false := by simp; omega
                  unfold maxLen at hn3
                  clear hk3
                  go_wp2_with fail
                  go_roundw
                  case rel => exact ⟨i + 1, _, _, _, by go_num, by omega, II⟩
                  case measure => simp [intOf]; omega
              · go_wp2_with fail
                go_roundw
                case rel => exact ⟨i + 1, _, _, _, by go_num, by omega, II⟩
                case measure => simp [intOf]; omega
          · obtain rfl : i = N := by omega
            have TK := Lib.hid hI.out.tok
            go_wp2_with fail
            refine (Freeze14 hI.out.env hI.out.tr HB7.out hI.out.ver hI.out.rt hI.out.rv).mono ?_
            rintro e w9 ⟨x, rfl, he, ho, ht, hx, hv⟩
            have J9 : Hid (I2 w wb v tb x tv u w9 S 2) := ⟨ho.gw hI.out.gw (Nat.le_refl _), he, ⟨_, _, ht⟩, hv, hx, hI.out.rv, hI.out.rt⟩
            clear he ho ht hx hv hI
            have k1 := run_eql_pointer_nil (P := Tryz.prog) w9 28 (some ⟨x, 0, none⟩) (by kernel_rfl)
            have R9 := Lib.hid (root16 J9.out.vv)
            go_wp2_with fail
            refine R9.out.mono ?_; rintro e w10 ⟨rfl, hw10⟩
            rw [hw10]; clear hw10 w10 R9
            have O9 := Lib.hid (owned15 2 tv w9 J9.out.env.sto J9.out.rv)
            rw [TV.out.none] at O9
            have q0 : wrap64 ((0 : Nat) : Int) = 0 := IntWalk.wrap64_in _ (by omega)
            rw [q0] at O9
            clear q0
            go_wp2_with fail
            refine O9.out.mono ?_; rintro e w10 ⟨rfl, z, hw10⟩
            have J10 : Hid (I2 w wb v tb x tv u w10 S 2) := by rw [hw10]; exact J9.out.step ((Gw.refl _).drewN z)
            clear hw10 O9 J9 k1
            have R10 := Lib.hid (root16 J10.out.vx)
            have R11 := Lib.hid (root16 J10.out.vv)
            have O10 := Lib.hid (owned15 2 u w10 J10.out.env.sto J10.out.rt)
            have SU : Hid (u.All Short []) := good_short TK.out.all
            have SV : Hid (tv.All Short []) := good_short TV.out.all
            have CU : Hid (u.cnt (fun _ => true) ≤ 18140) := by have := TK.out.cnt; show _ ≤ _; omega
            have CV : Hid (tv.cnt (fun _ => true) ≤ 18060) := TV.out.cnt
            have HTOLD := Lib.hid (TK.out.told TV.out J10.out.env.sto.fit J10.out.rv J10.out.rt)
            obtain ⟨A, hA⟩ : ∃ A, wrap64 ((u.cnt (fun x => x == 2) : Nat) : Int) = A := ⟨_, rfl⟩
            rw [hA] at O10 HTOLD
            clear hA
            go_wp2_with fail
            refine R10.out.mono ?_; rintro e w11 ⟨rfl, hw11⟩
            rw [hw11]; clear hw11 w11
            go_wp2_with fail
            refine O10.out.mono ?_; rintro e w11 ⟨rfl, z, hw11⟩
            have J11 : Hid (I2 w wb v tb x tv u w11 S 2) := by rw [hw11]; exact J10.out.step ((Gw.refl _).drewN z)
            clear hw11 O10 J10 R10 R11
            have R10 := Lib.hid (root16 J11.out.vx)
            have R11 := Lib.hid (root16 J11.out.vv)
            have S11 := Lib.hid (SharedAll J11.out.env.sto J11.out.env.size J11.out.rv J11.out.rt SV.out SU.out (by have := CV.out; omega))
            obtain ⟨C, hC⟩ : ∃ C, wrap64 ((sh (tv.cnt (fun _ => true) + u.cnt (fun _ => true)) tv 0 u 0 : Nat) : Int) = C := ⟨_, rfl⟩
            rw [hC] at S11 HTOLD
            clear hC
            go_wp2_with fail
            refine R11.out.mono ?_; rintro e w12 ⟨rfl, hw12⟩
            rw [hw12]; clear hw12 w12
            go_wp2_with fail
            refine R10.out.mono ?_; rintro e w12 ⟨rfl, hw12⟩
            rw [hw12]; clear hw12 w12
            go_wp2_with fail
            refine S11.out.mono ?_; rintro e w12 ⟨rfl, hw12⟩
            have J12 : Hid (I2 w wb v tb x tv u w12 S 2) := J11.out.step hw12
            clear hw12 S11 J11 R10 R11
            have R10 := Lib.hid (root16 J12.out.vx)
            have O12 := Lib.hid (Of19 J12.out.env.sto J12.out.env.size J12.out.rt SU.out (by have := CU.out; omega))
            go_wp2_with fail
            refine R10.out.mono ?_; rintro e w13 ⟨rfl, hw13⟩
            rw [hw13]; clear hw13 w13
            go_wp2_with fail
            refine O12.out.mono ?_; rintro e w13 ⟨a0, a1, i0, i1, i2, i3, a3, a4, a5, a6, a7, rfl, hsum, hw13⟩
            have J13 : Hid (I2 w wb v tb x tv u w13 S 2) := J12.out.step hw13
            have HND := Lib.hid (Nodes18 w13 _ a0 a1 i0 i1 i2 i3 a3 a4 a5 a6 a7 hsum)
            rw [← HTOLD.out] at HND
            clear hw13 O12 J12 R10 hsum
            go_wp2_with fail
            refine HND.out.mono ?_; rintro e w14 ⟨rfl, hw14⟩
            have J14 : Hid (I2 w wb v tb x tv u w14 S 2) := J13.out.step hw14
            clear hw14 J13 HND
            have HSH : Hid (∀ W S o, I2 w wb v tb x tv u W S o → Calls Tryz.prog 20 #[.pointer (some ⟨x, 0, none⟩)] W fun e w' => Says W w' u.txt e) := fun W S o J => Shape20 ⟨J.env.sto, HTAB.out.gw J.gw, J.env.size⟩ J.vx J.rt SU.out (by have := CU.out; omega)
            generalize u.txt = tx at HSH
            go_wp2_with fail
            refine (HSH.out _ _ _ J14.out).mono ?_; rintro e w15 ⟨rfl, hw15⟩
            have J15 : Hid (I2 w wb v tb x tv u w15 S 2) := J14.out.step hw15
            clear hw15 J14 SU SV CU CV HTOLD HD N2 N0 L0 HN HN'
            go_wp2_with fail
            go_loopw [146] (fun t wr => ∃ (j : Nat) (S : Store) (o : Int), t = .int .i64 j ∧ j ≤ n1 ∧ o = 2 + 2 * (j : Int) ∧ Hid (I2 w wb v tb x tv u wr S o)) (fun t _ => n1 - (intOf t).toNat)
            case atStart => exact ⟨0, _, _, rfl, by omega, by omega, J15⟩
            case round =>
              clear J15
              obtain ⟨j, S, o, rfl, hj, ho, hJ⟩ := hrel
              by_cases hlt : j < n1
              · obtain ⟨y, hy⟩ : ∃ y, l1[j]? = some y := ⟨l1[j]'(by rw [L1.out.len]; exact hlt), List.getElem?_eq_getElem (by rw [L1.out.len]; exact hlt)⟩
                obtain ⟨b, o2, q, nk, d, rfl, g0, g1, hk⟩ := (L1.out.step hJ.out.gw).at hy
                have hs := L1.out.small y (List.mem_of_getElem? hy)
                obtain ⟨yv, hyv⟩ : ∃ yv, y.2 = yv := ⟨_, rfl⟩
                rw [hyv] at g1 hs
                obtain ⟨uu, huu, hur⟩ : ∃ uu, IntKind.u64.wrap (yv + 1) = uu ∧ 0 ≤ uu ∧ uu < 18446744073709551616 := ⟨_, rfl, by rw [IntKind.wrap_u64]; omega, by rw [IntKind.wrap_u64]; omega⟩
                have ga : Gw wr (wr.alloc (.cells #[.slice q nk d, .int .u64 yv] 43)) := (Gw.refl _).alloc _
                have HKS := Lib.hid (And.intro (hk.step ga) (And.intro (show nk ≤ 65535 by have := hk.bs.len; have := hs.1; omega) hur))
                have HB1 := Lib.hid (heap_alloc_new wr (.cells #[.slice q nk d, .int .u64 yv] 43))
                have hpos : 2 ≤ o := by omega
                have HPOS := Lib.hid (And.intro hpos (show o + 2 < 18446744073709551616 by have := N1.out.1; omega))
                have HJ1 : Hid (I2 w wb v tb x tv u (wr.alloc (.cells #[.slice q nk d, .int .u64 yv] 43)) S o) := hJ.out.step ga
                have HPUT := Lib.hid (Put21 HJ1.out.env (by omega) (by have := HPOS.out; omega) HJ1.out.vx HJ1.out.rt TK.out.sep HKS.out.1 HKS.out.2.1 uu HKS.out.2.2)
                have HWB : Hid (wr.heap.size ≠ wb) := by
                  have := hJ.out.env.wld.lt
                  show _ ≠ _; omega
                have HXL := Lib.hid HJ1.out.vx.lt
                clear ga hk hs hyv hy hur hJ hpos
                go_wp2_with fail
                refine HPUT.out.mono ?_; rintro e V1 ⟨u1, S1, y1, rfl, he, hoo, hy1, _, hr1, hx1, hp1, hyy⟩
                have BX1 := Lib.hid (hoo.keep HB1.out (by simp [stT]) HWB.out)
                have J2 := Lib.hid (HJ1.out.next TV.out TK.out HPOS.out.1 he hoo hx1)
                have K2 := Lib.hid (HKS.out.1.oth hoo HJ1.out.env.wld)
                have P1 : Hid (Ver V1 y1 wb (pt u1.ptr) ∧ (u1.ptr ≠ u.ptr → ∃ id d, u1.ptr = some id ∧ S1 id = some d ∧ d.own = o + 1)) := ⟨hy1, fun hne => by
                  obtain ⟨id, part, val, has, leaf, kid, e1⟩ := put_root hp1 hne
                  rw [e1] at hr1 ⊢
                  exact ⟨id, _, rfl, hr1.1, rfl⟩⟩
                have YY := Lib.hid hyy
                clear he hoo hy1 hr1 hx1 hp1 hyy HJ1 HPUT HB1 g0 g1
                have e0 : V1.cell? ⟨wr.heap.size, 0, none⟩ = some (.slice q nk d) := cell_row BX1.out 0
                go_wp2_with fail
                refine (Del22 J2.out.env (by have := HPOS.out; omega) (by have := HPOS.out; omega) J2.out.vv J2.out.rv TV.out.sep TV.out.full (good_short TV.out.all) K2.out HKS.out.2.1).mono ?_
                rintro e V2 ⟨u2, S2, y2, bb, rfl, he2, hoo2, hy2, _, hr2, hx2, hp2⟩
                have BX2 := Lib.hid (hoo2.keep BX1.out (by simp [stT]) HWB.out)
                have J3 := Lib.hid (J2.out.next TV.out TK.out (by have := HPOS.out; omega) he2 hoo2 hx2)
                have P2 : Hid (Ver V2 y1 wb (pt u1.ptr) ∧ (u1.ptr ≠ u.ptr → ∃ id d, u1.ptr = some id ∧ S2 id = some d ∧ d.own = o + 1)) := ⟨P1.out.1.oth hoo2 J2.out.env.wld, fun hne => by
                  obtain ⟨id, d, e1, e2, e3⟩ := P1.out.2 hne
                  exact ⟨id, d, e1, hx2.1 id d e2 (Or.inl (by rw [e3]; omega)), e3⟩⟩
                have O3 := Lib.hid (owned15 2 u2 V2 he2.sto hr2)
                rw [del_none TV.out (by have := HPOS.out; omega) hp2] at O3
                have q0 : wrap64 ((0 : Nat) : Int) = 0 := IntWalk.wrap64_in _ (by omega)
                rw [q0] at O3
                have RY2 := Lib.hid (root16 hy2)
                have k2 := run_eql_pointer_nil (P := Tryz.prog) V2 28 (some ⟨y2, 0, none⟩) (by kernel_rfl)
                have k1 := run_eql_pointer_nil (P := Tryz.prog) V2 28 (some ⟨y1, 0, none⟩) (by kernel_rfl)
                clear he2 hoo2 hy2 hr2 hx2 hp2 J2 K2 P1 e0 BX1 q0
                obtain ⟨yp, hyp⟩ : ∃ yp, pt u2.ptr = yp := ⟨_, rfl⟩
                rw [hyp] at O3 RY2
                clear hyp
                rcases YY.out with ⟨_, hyx⟩ | ⟨hne, hyl⟩
                · subst hyx
                  have k3 := neq28_same y1 V2
                  clear YY
                  go_wp2_with fail
                  refine RY2.out.mono ?_; rintro e w' ⟨rfl, hw'⟩
                  rw [hw']; clear hw' w'
                  go_wp2_with fail
                  refine O3.out.mono ?_; rintro e V3 ⟨rfl, z, hV3⟩
                  have J4 := Lib.hid (J3.out.step ((Gw.refl V2).drewN z))
                  rw [← hV3] at J4
                  have BX4 : Hid (V3.heap[wr.heap.size]? = some (.cells #[.slice q nk d, .int .u64 yv] 43 (0, 0))) := by rw [hV3]; exact BX2.out
                  clear hV3 k1 k2 k3 J3 BX2 O3
                  have e0 : V3.cell? ⟨wr.heap.size, 0, none⟩ = some (.slice q nk d) := cell_row BX4.out 0
                  obtain ⟨r4, m4, ht4⟩ := J4.out.tr
                  have HT4 := Lib.hid ht4
                  clear ht4
                  go_wp2_with fail
                  refine (Put12_frozen HT4.out _ _).mono ?_; rintro e w' ⟨rfl, hw'⟩
                  rw [hw']; clear hw' w'
                  have hnb := N1.out.1
                  go_wp2_with fail
                  go_roundw
                  case rel => exact ⟨j + 1, S2, o + 1 + 1, by go_num, by omega, by omega, J4⟩
                  case measure => simp [intOf]; omega
                · have k3 := neq28_other (a := y1) (b := x) (w := V2) (by have := HXL.out; omega) P2.out.1.cellsy J3.out.vx.cellsy
                  obtain ⟨id, dd, e1, e2, e3⟩ := P2.out.2 hne
                  have RY1 := Lib.hid (root16 P2.out.1)
                  rw [e1, pt_some] at RY1
                  have OY1 := Lib.hid (owner23 J3.out.env.sto e2)
                  rw [e3] at OY1
                  have d2 : (o + 1 == (2 : Int)) = false := by have := HPOS.out; simp; omega
                  clear e1 e2 e3 hne hyl YY
                  go_wp2_with fail
                  refine RY1.out.mono ?_; rintro e w' ⟨rfl, hw'⟩
                  rw [hw']; clear hw' w'
                  go_wp2_with fail
                  refine OY1.out.mono ?_; rintro e w' ⟨rfl, hw'⟩
                  rw [hw']; clear hw' w'
                  go_wp2_with fail
                  refine RY2.out.mono ?_; rintro e w' ⟨rfl, hw'⟩
                  rw [hw']; clear hw' w'
                  go_wp2_with fail
                  refine O3.out.mono ?_; rintro e V3 ⟨rfl, z, hV3⟩
                  have J4 := Lib.hid (J3.out.step ((Gw.refl V2).drewN z))
                  rw [← hV3] at J4
                  have BX4 : Hid (V3.heap[wr.heap.size]? = some (.cells #[.slice q nk d, .int .u64 yv] 43 (0, 0))) := by rw [hV3]; exact BX2.out
                  clear hV3 k1 k2 k3 J3 BX2 O3
                  have e0 : V3.cell? ⟨wr.heap.size, 0, none⟩ = some (.slice q nk d) := cell_row BX4.out 0
                  obtain ⟨r4, m4, ht4⟩ := J4.out.tr
                  have HT4 := Lib.hid ht4
                  clear ht4
                  go_wp2_with fail
                  refine (Put12_frozen HT4.out _ _).mono ?_; rintro e w' ⟨rfl, hw'⟩
                  rw [hw']; clear hw' w'
                  have hnb := N1.out.1
                  go_wp2_with fail
                  go_roundw
                  case rel => exact ⟨j + 1, S2, o + 1 + 1, by go_num, by omega, by omega, J4⟩
                  case measure => simp [intOf]; omega
              · obtain rfl : j = n1 := by omega
                go_wp2_with fail
                refine (HSH.out _ _ _ hJ.out).mono ?_; rintro e w16 ⟨rfl, hw16⟩
                have hg16 := HAL.out _ (hJ.out.gw.trans hw16)
                have H16 := Lib.hid hg16
                clear hw16 hg16
                go_wp2_with fail
                refine H16.out.mono ?_; rintro e w17 ⟨rfl, hw17⟩
                have H17 := Lib.hid hw17
                clear hw17
                go_wp2_with fail
                go_ret
                exact ⟨rfl, H17.out⟩
end
end Go.Proofs.YtbihlmkjoplkoaaGreatDoor
