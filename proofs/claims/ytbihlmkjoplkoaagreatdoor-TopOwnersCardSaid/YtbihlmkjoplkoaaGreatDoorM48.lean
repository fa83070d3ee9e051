/-
  For the statement TopOwners: Sort; TopOwners: what its two loops keep.
-/
import Derived.Test.YtbihlmkjoplkoaaGreatDoorM47
/-
  Sort.
-/
namespace Go.Proofs.YtbihlmkjoplkoaaGreatDoor
open Go.RowKit
set_option linter.unusedVariables false

/-- what the sort knows between two items -/
structure Ls (B : Nat) (w wr : World) (pv : Option Addr) (cv k : Nat) (os : List It) : Prop where
  lp : Lp w wr 43 (.slice pv k cv) k os
  kb : Kbs B w os
  rise : RiseI os
  small : SmallI os

theorem Ls.drewN {B : Nat} {w wr : World} {pv : Option Addr} {cv k : Nat} {os : List It} (h : Ls B w wr pv cv k os) (z : Nat) : Ls B w (wr.drewN z) pv cv k os := ⟨h.lp.drewN z, h.kb, h.rise, h.small⟩

/-- what the sort knows of the item that it puts in -/
structure Lx (B : Nat) (w : World) (b o i : Nat) (q : Option Addr) (m d : Nat) (y : List Int) (u : Int) : Prop where
  lt : b < w.heap.size
  c0 : w.cell? ⟨b, o + i * 2, none⟩ = some (.slice q m d)
  c1 : w.cell? ⟨b, o + i * 2 + 1, none⟩ = some (.int .u64 u)
  kb : Kb B w q m d y
  small : y.length ≤ 300 ∧ 0 ≤ u ∧ u < 18446744073709551616
theorem Lx.at {B : Nat} {w wr : World} {b o i : Nat} {q : Option Addr} {m d : Nat} {y : List Int} {u : Int} (h : Lx B w b o i q m d y u) (k : Below w.heap.size w wr) :
    wr.cell? ⟨b, o + i * 2, none⟩ = some (.slice q m d) ∧ wr.cell? ⟨b, o + i * 2 + 1, none⟩ = some (.int .u64 u) ∧ ∀ j, Bs (wr.drewN j) q m d y :=
  ⟨(k.cell h.lt).trans h.c0, (k.cell h.lt).trans h.c1, fun j => (h.kb.bs.below k).drewN j⟩

/-- the value of a key that is there already -/
theorem Ls.setVal {B : Nat} {w V : World} {g cv k : Nat} {os : List It} (h : Ls B w V (some ⟨g, 0, none⟩) cv k os) {j : Nat} {x : It} (hx : os[j]? = some x) (u : Int) (hu : 0 ≤ u ∧ u < 18446744073709551616) (hg : w.heap.size ≤ g) :
    Ls B w (V.setCell ⟨g, j * 2 + 1, none⟩ (.int .u64 u)) (some ⟨g, 0, none⟩) cv k (os.set j (x.1, (x.2.1, u))) :=
  ⟨⟨owns_val h.lp.own j x hx u, h.lp.below.grown (h.lp.own.stored (j * 2 + 1) _).2 h.lp.below.size (fun i hi => by cases hi; exact hg)⟩,
    h.kb.set (h.kb x (List.mem_of_getElem? hx)), h.rise.set hx rfl, h.small.set ⟨(h.small x (List.mem_of_getElem? hx)).1, hu⟩⟩
/-- an item is stored -/
theorem Lp.setPair {w V : World} {g cap n : Nat} {os : List It} (h : Lp w V 43 (.slice (some ⟨g, 0, none⟩) n cap) n os) {j : Nat} (hj : j < n) (x : It) (hg : w.heap.size ≤ g) :
    Lp w ((V.setCell ⟨g, j * 2, none⟩ x.1.val).setCell ⟨g, j * 2 + 1, none⟩ (.int .u64 x.2.2)) 43 (.slice (some ⟨g, 0, none⟩) n cap) n (os.set j x) :=
  ⟨owns_pair h.own j hj x, by
    have h1 := h.own.stored (j * 2) x.1.val
    have h2 := h1.1.stored (j * 2 + 1) (.int .u64 x.2.2)
    have b1 := h.below.grown h1.2 h.below.size (fun i hi => by cases hi; exact hg)
    exact b1.grown h2.2 b1.size (fun i hi => by cases hi; exact hg)⟩

section
variable {B : Nat} {w : World} {p : Option Addr} {n c : Nat} {l : List KV}

set_option maxRecDepth 100000 in
set_option maxHeartbeats 3200000 in
theorem sort9 (h : Pr B w p n c l) : Calls Tryz.prog 9 #[.slice p n c] w fun e w' => ∃ p' n' c' l', e = .returned (.slice p' n' c') ∧ Pr B w' p' n' c' l' ∧ n' ≤ n ∧ Rise l' ∧ Below w.heap.size w w' := by
  obtain ⟨hs, rfl, hks, hcells⟩ := h.items
  have hlen : hs.length = n := by have := h.len; rwa [List.length_map] at this
  have HLEN := Lib.hid hlen
  have HKS := Lib.hid hks
  have HSM : Hid (SmallI hs) := (smallI_iff hs).2 h.small
  have hn := h.few
  have HC := Lib.hid hcells
  clear h hks hcells hlen
  go_enter Tryz.func9, Tryz.ntmps9
  go_wp2_with fail
  go_loopw [3, 4] (fun v t wr => ∃ (i k : Nat) (pv : Option Addr) (cv : Nat) (os : List It), t = .int .i64 i ∧ i ≤ n ∧ k ≤ i ∧ v = .slice pv k cv ∧ Hid (Ls B w wr pv cv k os)) (fun _ t _ => n - (intOf t).toNat)
  case atStart => exact ⟨0, 0, none, 0, [], rfl, by omega, by omega, rfl, ⟨⟨World.ownsRow_nil _ _ _ _, Below.refl _ _⟩, fun x hx => (by cases hx), List.Pairwise.nil, fun x hx => (by cases hx)⟩⟩
  case round =>
    obtain ⟨i, k, pv, cv, os, rfl, hi, hki, rfl, hl⟩ := hrel
    by_cases hlt : i < n
    · obtain ⟨b, o, rfl, hblt, hc⟩ := HC.out (by omega)
      obtain ⟨⟨⟨q, m, d⟩, y, u⟩, hx⟩ : ∃ x, hs[i]? = some x := ⟨hs[i]'(by rw [HLEN.out]; exact hlt), List.getElem?_eq_getElem (by rw [HLEN.out]; exact hlt)⟩
      have LX : Hid (Lx B w b o i q m d y u) := ⟨hblt, (hc i _ hx).1, (hc i _ hx).2, HKS.out _ (List.mem_of_getElem? hx), HSM.out _ (List.mem_of_getElem? hx)⟩
      have hos : os.length = k := by have := hl.out.lp.own.1; rw [length_pc] at this; omega
      have HOS := Lib.hid hos
      have HLS := hl
      clear hc hx hblt hos hl
      go_wp2_with fail
      go_loopw [5] (fun t wr => ∃ j : Nat, t = .int .i64 j ∧ j ≤ k ∧ Hid (∀ x ∈ os.take j, cmpL x.2.1 y < 0) ∧ Hid (Ls B w wr pv cv k os)) (fun t _ => k - (intOf t).toNat)
      case atStart => exact ⟨0, rfl, by omega, fun x hx => by simp at hx, HLS⟩
      case round =>
        clear HLS
        obtain ⟨j, rfl, hj, hbef, hl⟩ := hrel
        obtain ⟨g0, g1, hbs⟩ := LX.out.at hl.out.lp.below
        by_cases hjk : j < k
        · obtain ⟨g, rfl, hbg, hglt, hkc⟩ := owns_some hl.out.lp.own (by omega)
          obtain ⟨⟨⟨q2, m2, d2⟩, y2, u2⟩, hx2⟩ : ∃ x, os[j]? = some x := ⟨os[j]'(by rw [HOS.out]; exact hjk), List.getElem?_eq_getElem (by rw [HOS.out]; exact hjk)⟩
          obtain ⟨e0, e1⟩ := owns_at hl.out.lp.own hx2
          simp only [Hd.val] at e0 e1
          have hbs2 : ∀ j, Bs (wr.drewN j) q2 m2 d2 y2 := fun j => ((hl.out.kb _ (List.mem_of_getElem? hx2)).bs.below hl.out.lp.below).drewN j
          have H28 : Hid (∀ j, Calls Tryz.prog 28 #[.slice q2 m2 d2, .slice q m d] (wr.drewN j) fun e w' => e = .returned (.int .i64 (cmpL y2 y)) ∧ ∃ k, w' = (wr.drewN j).drewN k) := fun j => cmp16 _ _ _ _ _ _ _ _ _ (hbs2 j) (hbs j)
          obtain ⟨r, hr⟩ : ∃ r, cmpL y2 y = r := ⟨_, rfl⟩
          rw [hr] at H28
          have HX2 := Lib.hid hx2
          have HR := Lib.hid hr
          have HBG : Hid (w.heap.size ≤ g) := hbg
          clear hbs2 hx2 hr hbg
          by_cases hr0 : r < 0
          · have d1 : decide (r < 0) = true := by simp; omega
            have HR0 : Hid (r < 0) := hr0
            clear hr0 hbs
            go_wp2_with fail
            go_quiet ((go_at_call 28; exact Calls.quiet_of (H28.out _)))
            go_wp2_with fail
            go_roundw
            case rel =>
              refine ⟨j + 1, by go_num, by omega, fun x hx => ?_, hl.out.drewN nq⟩
              rw [List.take_add_one, HX2.out] at hx
              rcases List.mem_append.1 hx with hx | hx
              · exact hbef.out x hx
              · simp at hx; subst hx; rw [HR.out]; exact HR0.out
            case measure => simp [intOf]; omega
          · have d1 : decide (r < 0) = false := by simp; omega
            have HR0 : Hid (¬ r < 0) := hr0
            clear hr0 hbs
            go_wp2_with fail
            go_quiet ((go_at_call 28; exact Calls.quiet_of (H28.out _)))
            obtain ⟨W, hW⟩ : ∃ W, W = wr.drewN nq := ⟨_, rfl⟩
            rw [← hW]
            have LW : Hid (Ls B w W (some ⟨g, 0, none⟩) cv k os) := by rw [hW]; exact hl.out.drewN nq
            clear hW H28 hl e0 e1 g0 g1
            obtain ⟨g0, g1, hbs⟩ := LX.out.at LW.out.lp.below
            obtain ⟨e0, e1⟩ := owns_at LW.out.lp.own HX2.out
            simp only [Hd.val] at e0 e1
            have hbs2 : ∀ j, Bs (W.drewN j) q2 m2 d2 y2 := fun j => ((LW.out.kb _ (List.mem_of_getElem? HX2.out)).bs.below LW.out.lp.below).drewN j
            have H29 : Hid (∀ j, Calls Tryz.prog 29 #[.slice q2 m2 d2, .slice q m d] (W.drewN j) fun e w' => e = .returned (.bool (cmpL y2 y == 0)) ∧ ∃ k, w' = (W.drewN j).drewN k) := fun j => same18 _ _ _ _ _ _ _ _ _ (hbs2 j) (hbs j)
            rw [HR.out] at H29
            clear hbs hbs2
            by_cases hr1 : r = 0
            · have d2 : (r == 0) = true := by simp; omega
              rw [d2] at H29
              clear d2
              go_wp2_with fail
              go_quiet ((go_at_call 29; exact Calls.quiet_of (H29.out _)))
              obtain ⟨V, hV⟩ : ∃ V, V = W.drewN nq := ⟨_, rfl⟩
              rw [← hV]
              have LV : Hid (Ls B w V (some ⟨g, 0, none⟩) cv k os) := by rw [hV]; exact LW.out.drewN nq
              clear hV H29 LW e0 e1 g0 g1
              obtain ⟨g0, g1, _⟩ := LX.out.at LV.out.lp.below
              obtain ⟨e0, e1⟩ := owns_at LV.out.lp.own HX2.out
              simp only [Hd.val] at e0 e1
              have f0 := LV.out.lp.own.frozenAt (j * 2)
              have f1 := LV.out.lp.own.frozenAt (j * 2 + 1)
              have LE := Lib.hid (LV.out.setVal HX2.out u LX.out.small.2 HBG.out)
              clear LV
              go_wp2_with fail
              go_roundw
              case rel => exact ⟨i + 1, k, some ⟨g, 0, none⟩, cv, _, by go_num, by omega, by omega, rfl, LE⟩
              case measure => simp [intOf]; omega
            · have d2 : (r == 0) = false := by simp; omega
              rw [d2] at H29
              have HA : Hid (∀ x, os[j]? = some x → 0 ≤ cmpL x.2.1 y ∧ cmpL x.2.1 y ≠ 0) := fun x hx => by
                rw [HX2.out] at hx; cases hx
                rw [HR.out]
                exact ⟨by have := HR0.out; omega, hr1⟩
              clear d2 hr1 HR HR0 d1
              go_wp2_with fail
              go_quiet ((go_at_call 29; exact Calls.quiet_of (H29.out _)))
              obtain ⟨V, hV⟩ : ∃ V, V = W.drewN nq := ⟨_, rfl⟩
              rw [← hV]
              have LV : Hid (Ls B w V (some ⟨g, 0, none⟩) cv k os) := by rw [hV]; exact LW.out.drewN nq
              clear hV H29 LW e0 e1 g0 g1 HX2
              obtain ⟨g0, g1, _⟩ := LX.out.at LV.out.lp.below
              go_wp2_with (at_builtin; refine stop ?_)
              refine unhid ?_
              obtain ⟨i0, hi0, hz0, hz1, hz2⟩ := info_parts info43
              refine wpList_append_lies _ rfl _ _ 22 (by rfl) w.heap.size 43 i0 (.agg #[.slice none 0 0, .int .u64 0]) 2 32 Tryz.underlying22 hi0 hz0 hz1 hz2 rfl (by decide) _ k _ (by rfl) (LV.out.lp.own.alloc _) ⟨V.heap.size, 0, none⟩ 1 1 [.slice none 0 0, .int .u64 0] (by rfl) (by rfl) (World.news_of_block (heap_alloc_new V _)) (by intro z hz; rcases List.mem_cons.1 hz with rfl | hz; rfl; rcases List.mem_cons.1 hz with rfl | hz; rfl; cases hz) (by decide) (by unfold maxLen; omega) (by omega) (by have := LV.out.lp.below.size; rw [World.size_alloc]; omega) _ rfl ?_
              intro G cap w3 hown3 hgrow _ _
              have L3 : Hid (Lp w w3 43 (.slice (some ⟨G, 0, none⟩) (k + 1) cap) (k + 1) (os.take k ++ ((none, 0, 0), [], 0) :: os.drop k)) := by
                have hsz := LV.out.lp.below.size
                refine ⟨?_, ?_⟩
                · rw [List.take_of_length_le (by rw [HOS.out]; exact Nat.le_refl _), List.drop_of_length_le (by rw [HOS.out]; exact Nat.le_refl _), List.flatMap_append]
                  exact hown3
                · exact (LV.out.lp.below.alloc hsz _).grown hgrow (by rw [World.size_alloc]; omega) (fun j hj => (LV.out.lp.own.lt j hj).1)
              have HG3 : Hid (w.heap.size ≤ G) := (hown3.lt G rfl).1
              have KB := Lib.hid LV.out.kb
              have RI := Lib.hid LV.out.rise
              have SM := Lib.hid LV.out.small
              clear hown3 hgrow hi0 hz0 hz1 hz2 LV g0 g1
              have qk : IntKind.i64.wrap ((k : Int) + 1 - 1) = (k : Int) := by rw [Int.add_sub_cancel]; exact IntWalk.i64_in _ (by omega)
              go_wp2_with fail
              go_loopw [6] (fun t wr => ∃ (f : Nat) (z : It), t = .int .i64 f ∧ j ≤ f ∧ f ≤ k ∧ Hid (Lp w wr 43 (.slice (some ⟨G, 0, none⟩) (k + 1) cap) (k + 1) (os.take f ++ z :: os.drop f))) (fun t _ => (intOf t).toNat - j)
              case atStart => exact ⟨k, ((none, 0, 0), [], 0), rfl, hj, Nat.le_refl _, L3⟩
              case round =>
                clear L3 qk
                obtain ⟨f, z, rfl, hjf, hfk, hl⟩ := hrel
                by_cases hlt2 : j < f
                · obtain ⟨⟨⟨q3, m3, d3⟩, y3, u3⟩, hx3⟩ : ∃ x, os[f - 1]? = some x := ⟨os[f - 1]'(by rw [HOS.out]; omega), List.getElem?_eq_getElem (by rw [HOS.out]; omega)⟩
                  have hx4 : (os.take f ++ z :: os.drop f)[f - 1]? = some ((q3, m3, d3), y3, u3) := by rw [gap_before os z f (by omega) (by rw [HOS.out]; exact hfk)]; exact hx3
                  obtain ⟨e0, e1⟩ := owns_at hl.out.own hx4
                  have hz : (os.take f ++ z :: os.drop f)[f]? = some z := by
                    rw [List.getElem?_append_right (by rw [List.length_take]; omega), List.length_take, HOS.out, Nat.min_eq_left hfk, Nat.sub_self]; rfl
                  obtain ⟨z0, z1⟩ := owns_at hl.out.own hz
                  simp only [Hd.val] at e0 e1 z0 z1
                  have f0 := hl.out.own.frozenAt (f * 2)
                  have f1 := hl.out.own.frozenAt (f * 2 + 1)
                  have hw : IntKind.i64.wrap ((f : Int) - 1) = (f : Int) - 1 := IntWalk.i64_in _ (by omega)
                  have hw2 : (0 : Int) ≤ (f : Int) - 1 := by omega
                  have hw4 : (f : Int) - 1 < (k : Int) + 1 := by omega
                  have hw5 : ((f : Int) - 1).toNat = f - 1 := by omega
                  have hw6 : (f : Int) < (k : Int) + 1 := by omega
                  have hdd : decide ((j : Int) < (f : Int)) = true := by simp; omega
                  have LE : Hid (Lp w ((wr.setCell ⟨G, f * 2, none⟩ (.slice q3 m3 d3)).setCell ⟨G, f * 2 + 1, none⟩ (.int .u64 u3)) 43 (.slice (some ⟨G, 0, none⟩) (k + 1) cap) (k + 1) (os.take (f - 1) ++ ((q3, m3, d3), y3, u3) :: os.drop (f - 1))) := by
                    have := hl.out.setPair (j := f) (by omega) ((q3, m3, d3), y3, u3) HG3.out
                    rw [gap_step os z _ f (by omega) (by rw [HOS.out]; exact hfk) hx3] at this
                    exact this
                  clear hx3 hx4 hz hl
                  go_wp2_with fail
                  go_roundw
                  case rel => exact ⟨f - 1, ((q3, m3, d3), y3, u3), by rw [← hw5, Int.toNat_of_nonneg hw2], by omega, by omega, LE⟩
                  case measure => simp [intOf]; omega
                · obtain rfl : f = j := by omega
                  have hdd : decide ((f : Int) < (f : Int)) = false := by simp
                  obtain ⟨g0, g1, _⟩ := LX.out.at hl.out.below
                  have hz : (os.take f ++ z :: os.drop f)[f]? = some z := by
                    rw [List.getElem?_append_right (by rw [List.length_take]; omega), List.length_take, HOS.out, Nat.min_eq_left hfk, Nat.sub_self]; rfl
                  obtain ⟨z0, z1⟩ := owns_at hl.out.own hz
                  simp only [Hd.val] at z0 z1
                  have f0 := hl.out.own.frozenAt (f * 2)
                  have f1 := hl.out.own.frozenAt (f * 2 + 1)
                  have hw6 : (f : Int) < (k : Int) + 1 := by omega
                  have LE : Hid (Ls B w ((wr.setCell ⟨G, f * 2, none⟩ (.slice q m d)).setCell ⟨G, f * 2 + 1, none⟩ (.int .u64 u)) (some ⟨G, 0, none⟩) cap (k + 1) (os.take f ++ ((q, m, d), y, u) :: os.drop f)) := by
                    have := hl.out.setPair (j := f) (by omega) ((q, m, d), y, u) HG3.out
                    rw [gap_fill os z _ f (by rw [HOS.out]; exact hfk)] at this
                    exact ⟨this, KB.out.ins LX.out.kb, RI.out.ins rfl hbef.out HA.out, SM.out.ins LX.out.small⟩
                  clear hz hl
                  go_wp2_with fail
                  go_roundw
                  case rel => exact ⟨i + 1, k + 1, some ⟨G, 0, none⟩, cap, _, by go_num, by omega, by omega, rfl, LE⟩
                  case measure => simp [intOf]; omega
        · have hdj : decide ((j : Int) < (k : Int)) = false := by simp; omega
          have HA : Hid (∀ x, os[j]? = some x → 0 ≤ cmpL x.2.1 y ∧ cmpL x.2.1 y ≠ 0) := fun x hx => by
            rw [List.getElem?_eq_none (by rw [HOS.out]; omega)] at hx; cases hx
          clear hbs
          go_wp2_with fail
          go_quiet (fail)
          obtain ⟨W, hW⟩ : ∃ W, W = wr.drewN nq := ⟨_, rfl⟩
          rw [← hW]
          have LW : Hid (Ls B w W pv cv k os) := by rw [hW]; exact hl.out.drewN nq
          clear hW hl g0 g1
          go_wp2_with fail
          go_quiet (fail)
          obtain ⟨V, hV⟩ : ∃ V, V = W.drewN nq := ⟨_, rfl⟩
          rw [← hV]
          have LV : Hid (Ls B w V pv cv k os) := by rw [hV]; exact LW.out.drewN nq
          clear hV LW hdj hjk
          obtain ⟨g0, g1, _⟩ := LX.out.at LV.out.lp.below
          go_wp2_with (at_builtin; refine stop ?_)
          refine unhid ?_
          obtain ⟨i0, hi0, hz0, hz1, hz2⟩ := info_parts info43
          refine wpList_append_lies _ rfl _ _ 22 (by rfl) w.heap.size 43 i0 (.agg #[.slice none 0 0, .int .u64 0]) 2 32 Tryz.underlying22 hi0 hz0 hz1 hz2 rfl (by decide) _ k _ (by rfl) (LV.out.lp.own.alloc _) ⟨V.heap.size, 0, none⟩ 1 1 [.slice none 0 0, .int .u64 0] (by rfl) (by rfl) (World.news_of_block (heap_alloc_new V _)) (by intro z hz; rcases List.mem_cons.1 hz with rfl | hz; rfl; rcases List.mem_cons.1 hz with rfl | hz; rfl; cases hz) (by decide) (by unfold maxLen; omega) (by omega) (by have := LV.out.lp.below.size; rw [World.size_alloc]; omega) _ rfl ?_
          intro G cap w3 hown3 hgrow _ _
          have L3 : Hid (Lp w w3 43 (.slice (some ⟨G, 0, none⟩) (k + 1) cap) (k + 1) (os.take k ++ ((none, 0, 0), [], 0) :: os.drop k)) := by
            have hsz := LV.out.lp.below.size
            refine ⟨?_, ?_⟩
            · rw [List.take_of_length_le (by rw [HOS.out]; exact Nat.le_refl _), List.drop_of_length_le (by rw [HOS.out]; exact Nat.le_refl _), List.flatMap_append]
              exact hown3
            · exact (LV.out.lp.below.alloc hsz _).grown hgrow (by rw [World.size_alloc]; omega) (fun j hj => (LV.out.lp.own.lt j hj).1)
          have HG3 : Hid (w.heap.size ≤ G) := (hown3.lt G rfl).1
          have KB := Lib.hid LV.out.kb
          have RI := Lib.hid LV.out.rise
          have SM := Lib.hid LV.out.small
          clear hown3 hgrow hi0 hz0 hz1 hz2 LV g0 g1
          have qk : IntKind.i64.wrap ((k : Int) + 1 - 1) = (k : Int) := by rw [Int.add_sub_cancel]; exact IntWalk.i64_in _ (by omega)
          go_wp2_with fail
          go_loopw [6] (fun t wr => ∃ (f : Nat) (z : It), t = .int .i64 f ∧ j ≤ f ∧ f ≤ k ∧ Hid (Lp w wr 43 (.slice (some ⟨G, 0, none⟩) (k + 1) cap) (k + 1) (os.take f ++ z :: os.drop f))) (fun t _ => (intOf t).toNat - j)
          case atStart => exact ⟨k, ((none, 0, 0), [], 0), rfl, hj, Nat.le_refl _, L3⟩
          case round =>
            clear L3 qk
            obtain ⟨f, z, rfl, hjf, hfk, hl⟩ := hrel
            by_cases hlt2 : j < f
            · obtain ⟨⟨⟨q3, m3, d3⟩, y3, u3⟩, hx3⟩ : ∃ x, os[f - 1]? = some x := ⟨os[f - 1]'(by rw [HOS.out]; omega), List.getElem?_eq_getElem (by rw [HOS.out]; omega)⟩
              have hx4 : (os.take f ++ z :: os.drop f)[f - 1]? = some ((q3, m3, d3), y3, u3) := by rw [gap_before os z f (by omega) (by rw [HOS.out]; exact hfk)]; exact hx3
              obtain ⟨e0, e1⟩ := owns_at hl.out.own hx4
              have hz : (os.take f ++ z :: os.drop f)[f]? = some z := by
                rw [List.getElem?_append_right (by rw [List.length_take]; omega), List.length_take, HOS.out, Nat.min_eq_left hfk, Nat.sub_self]; rfl
              obtain ⟨z0, z1⟩ := owns_at hl.out.own hz
              simp only [Hd.val] at e0 e1 z0 z1
              have f0 := hl.out.own.frozenAt (f * 2)
              have f1 := hl.out.own.frozenAt (f * 2 + 1)
              have hw : IntKind.i64.wrap ((f : Int) - 1) = (f : Int) - 1 := IntWalk.i64_in _ (by omega)
              have hw2 : (0 : Int) ≤ (f : Int) - 1 := by omega
              have hw4 : (f : Int) - 1 < (k : Int) + 1 := by omega
              have hw5 : ((f : Int) - 1).toNat = f - 1 := by omega
              have hw6 : (f : Int) < (k : Int) + 1 := by omega
              have hdd : decide ((j : Int) < (f : Int)) = true := by simp; omega
              have LE : Hid (Lp w ((wr.setCell ⟨G, f * 2, none⟩ (.slice q3 m3 d3)).setCell ⟨G, f * 2 + 1, none⟩ (.int .u64 u3)) 43 (.slice (some ⟨G, 0, none⟩) (k + 1) cap) (k + 1) (os.take (f - 1) ++ ((q3, m3, d3), y3, u3) :: os.drop (f - 1))) := by
                have := hl.out.setPair (j := f) (by omega) ((q3, m3, d3), y3, u3) HG3.out
                rw [gap_step os z _ f (by omega) (by rw [HOS.out]; exact hfk) hx3] at this
                exact this
              clear hx3 hx4 hz hl
              go_wp2_with fail
              go_roundw
              case rel => exact ⟨f - 1, ((q3, m3, d3), y3, u3), by rw [← hw5, Int.toNat_of_nonneg hw2], by omega, by omega, LE⟩
              case measure => simp [intOf]; omega
            · obtain rfl : f = j := by omega
              have hdd : decide ((f : Int) < (f : Int)) = false := by simp
              obtain ⟨g0, g1, _⟩ := LX.out.at hl.out.below
              have hz : (os.take f ++ z :: os.drop f)[f]? = some z := by
                rw [List.getElem?_append_right (by rw [List.length_take]; omega), List.length_take, HOS.out, Nat.min_eq_left hfk, Nat.sub_self]; rfl
              obtain ⟨z0, z1⟩ := owns_at hl.out.own hz
              simp only [Hd.val] at z0 z1
              have f0 := hl.out.own.frozenAt (f * 2)
              have f1 := hl.out.own.frozenAt (f * 2 + 1)
              have hw6 : (f : Int) < (k : Int) + 1 := by omega
              have LE : Hid (Ls B w ((wr.setCell ⟨G, f * 2, none⟩ (.slice q m d)).setCell ⟨G, f * 2 + 1, none⟩ (.int .u64 u)) (some ⟨G, 0, none⟩) cap (k + 1) (os.take f ++ ((q, m, d), y, u) :: os.drop f)) := by
                have := hl.out.setPair (j := f) (by omega) ((q, m, d), y, u) HG3.out
                rw [gap_fill os z _ f (by rw [HOS.out]; exact hfk)] at this
                exact ⟨this, KB.out.ins LX.out.kb, RI.out.ins rfl hbef.out HA.out, SM.out.ins LX.out.small⟩
              clear hz hl
              go_wp2_with fail
              go_roundw
              case rel => exact ⟨i + 1, k + 1, some ⟨G, 0, none⟩, cap, _, by go_num, by omega, by omega, rfl, LE⟩
              case measure => simp [intOf]; omega
    · obtain rfl : i = n := by omega
      go_wp2_with fail
      go_ret
      exact ⟨pv, k, cv, os.map Prod.snd, rfl, Pr.of_row (Or.inl rfl) hl.out.lp.own (hl.out.kb.step hl.out.lp.below) ((smallI_iff os).1 hl.out.small) (by omega), by omega, hl.out.rise, hl.out.lp.below⟩
end
end Go.Proofs.YtbihlmkjoplkoaaGreatDoor
/-
  TopOwners: what its two loops keep.
-/
namespace Go.Proofs.YtbihlmkjoplkoaaGreatDoor
open Go.RowKit
set_option linter.unusedVariables false

/-- the version's tree: all its nodes are owner 1's -/
structure TvOk (tv : T) : Prop where
  sep : tv.Sep
  full : tv.Full
  all : tv.All (Good 1 Nobody 300) []
  cnt : tv.cnt (fun _ => true) ≤ 18060

/-- a node of the version's tree, where it stands there -/
def Qv (tv : T) : List Int → Nat → Int → Prop := fun h id ow => ow = 1 ∧ tv.At [] h id

/-- the transient's tree -/
structure TOk (tv t : T) (i : Nat) : Prop where
  sep : t.Sep
  full : t.Full
  all : t.All (Good 2 (Qv tv) 300) []
  cnt : t.cnt (fun _ => true) ≤ 18060 + 2 * i

section
variable {tv t t' : T} {i : Nat}

theorem good_short {q : Int} {Q : List Int → Nat → Int → Prop} {t : T} {hd : List Int} (h : t.All (Good q Q 300) hd) : t.All Short hd :=
  h.mono fun h id own part k => by have := k.2; show part.length ≤ 65536; omega
/-- a version's put, a version's deletion: the owners -/
theorem owners_of {q : Int} {Q : List Int → Nat → Int → Prop} {p : Int → Prop} {t : T} {hd : List Int} (h : t.All (Good q Q 300) hd) (hq : p q) (hQ : ∀ h id ow, Q h id ow → p ow) : t.All (fun _ _ own _ => p own) hd :=
  h.mono fun h id own part k => by
    rcases k.1 with rfl | k
    · exact hq
    · exact hQ _ _ _ k
theorem TvOk.own (h : TvOk tv) : tv.All (fun _ _ own _ => own = 1) [] := owners_of h.all rfl (fun _ _ _ h => h.elim)
theorem TvOk.not (h : TvOk tv) {q : Int} (hq : q ≠ 1) : tv.All (fun _ _ own _ => own ≠ q) [] := h.own.mono fun _ _ _ _ k => by rw [k]; exact fun e => hq e.symm
theorem TvOk.good (h : TvOk tv) (q : Int) : tv.All (Good q (fun _ _ ow => ow = 1) 300) [] := h.all.mono fun h id own part k => ⟨by
  rcases k.1 with k1 | k1
  · exact Or.inr k1
  · exact k1.elim, k.2⟩
theorem TOk.own (h : TOk tv t i) : t.All (fun _ _ own _ => own = 1 ∨ own = 2) [] := owners_of h.all (Or.inr rfl) (fun _ _ _ h => Or.inl h.1)
theorem TOk.not (h : TOk tv t i) {q : Int} (h1 : q ≠ 1) (h2 : q ≠ 2) : t.All (fun _ _ own _ => own ≠ q) [] := h.own.mono fun _ _ _ _ k => by
  rcases k with k | k <;> rw [k]
  · exact fun e => h1 e.symm
  · exact fun e => h2 e.symm
theorem TOk.first (h : TOk tv t i) : t.All (InFirst 2 tv []) [] := h.all.mono fun h id own part k => by
  rcases k.1 with k1 | k1
  · exact Or.inl k1
  · exact Or.inr k1.2
theorem TOk.start (h : TvOk tv) : TOk tv tv 0 :=
  ⟨h.sep, h.full, ((h.all.and h.own).and (T.All.self tv [])).mono fun q id own part k => ⟨Or.inr ⟨k.1.2, k.2⟩, k.1.1.2⟩, by have := h.cnt; omega⟩
theorem TOk.more (h : TOk tv t i) : TOk tv t (i + 1) := ⟨h.sep, h.full, h.all, by have := h.cnt; omega⟩
theorem TOk.put (h : TOk tv t i) {S : Store} {k : List Int} {u : Int} (hr : Rep S t) (hk : k.length ≤ 300) (hp : (t' = t ∧ Path t k) ∨ PutR 2 u (newIn S) k t t') : TOk tv t' (i + 1) := by
  rcases hp with ⟨rfl, _⟩ | hp
  · exact h.more
  · exact ⟨hp.sep h.sep (fun a ha hn => hr.in ha hn), hp.full h.full, hp.all [] (by simpa using hk) h.all, by have := hp.cnt; have := h.cnt; omega⟩
theorem TOk.del (h : TOk tv t i) {S : Store} (hr : Rep S t) (hf : t.Fit) (hp : t' = t ∨ DelR 2 (newIn S) t t') : TOk tv t' i := by
  rcases hp with rfl | hp
  · exact h
  · exact ⟨hp.sep h.sep (fun a ha hn => hr.in ha hn), hp.full h.full, hp.all [] h.all, by have := hp.cnt hf; have := h.cnt; omega⟩
/-- what is the transient's own, and what the two share, are all -/
theorem TOk.told (h : TOk tv t i) (hv : TvOk tv) {S : Store} (hF : FitS S) (rv : Rep S tv) (rt : Rep S t) :
    wrap64 (wrap64 (t.cnt (fun x => x == 2)) + wrap64 (sh (tv.cnt (fun _ => true) + t.cnt (fun _ => true)) tv 0 t 0)) = wrap64 (t.cnt (fun _ => true)) := by
  rw [wrap_addL, Int.add_comm, wrap_addL, Int.add_comm]
  have := all_told hF rv rt (hv.not (by omega)) h.first _ (Nat.le_refl _)
  exact congrArg wrap64 (by omega)
theorem TvOk.none (h : TvOk tv) : tv.cnt (fun x => x == 2) = 0 := cnt_none (fun _ _ own _ k => by rw [k]; rfl) tv [] h.own
/-- what a version's put makes has another root, or the same -/
theorem put_root {S : Store} {k : List Int} {q u : Int} (hp : (t' = t ∧ Path t k) ∨ PutR q u (newIn S) k t t') (hne : t'.ptr ≠ t.ptr) : ∃ id part val has leaf kid, t' = .node id q part val has leaf kid := by
  rcases hp with ⟨rfl, _⟩ | hp
  · exact absurd rfl hne
  · obtain ⟨h1, h2⟩ := hp.root
    cases t' with
    | nil => exact absurd rfl h1
    | node id own part val has leaf kid =>
      rcases h2 with h2 | h2
      · exact absurd h2 hne
      · cases h2; exact ⟨_, _, _, _, _, _, rfl⟩
/-- what a version's deletion makes has no node of the transient's -/
theorem del_none (h : TvOk tv) {S : Store} {q : Int} (hq : q ≠ 2) (hp : t' = tv ∨ DelR q (newIn S) tv t') : t'.cnt (fun x => x == 2) = 0 := by
  rcases hp with rfl | hp
  · exact h.none
  · refine cnt_none (P := fun _ _ own _ => own = q ∨ own = 1) (fun _ _ own _ k => ?_) t' [] ((hp.all [] (h.good q)).mono fun _ _ _ _ k => k.1)
    rcases k with rfl | rfl
    · simpa using hq
    · rfl
end

/-- what the first loop keeps -/
structure I1 (W : World) (wb v tb : Nat) (tv : T) (wr : World) (S : Store) (t : T) (m : Int) (i : Nat) : Prop where
  gw : Gw W wr
  env : Env W.heap.size wb 2 wr S
  tr : TrB wr tb v 2 (pt t.ptr) m false
  ver : Ver wr v wb (pt tv.ptr)
  rv : Rep S tv
  rt : Rep S t
  tok : TOk tv t i
section
variable {W wr w' : World} {wb v tb : Nat} {tv t : T} {S : Store} {m : Int} {i : Nat}
theorem I1.more (h : I1 W wb v tb tv wr S t m i) : I1 W wb v tb tv wr S t m (i + 1) := ⟨h.gw, h.env, h.tr, h.ver, h.rv, h.rt, h.tok.more⟩
theorem I1.step (h : I1 W wb v tb tv wr S t m i) (k : Gw wr w') : I1 W wb v tb tv w' S t m i := ⟨h.gw.trans k, h.env.below k, h.tr.gw k, h.ver.step k, h.rv, h.rt, h.tok⟩
theorem I1.put (h : I1 W wb v tb tv wr S t m i) (hv : TvOk tv) {S' : Store} {t' : T} {m' : Int} {k : List Int} {u : Int} (e : Env W.heap.size wb 2 w' S') (o : Ott W.heap.size wb tb wr w') (tr : TrB w' tb v 2 (pt t'.ptr) m' false) (rt : Rep S' t') (x : Ext 2 S S' t)
    (hk : k.length ≤ 300) (hp : (t' = t ∧ Path t k) ∨ PutR 2 u (newIn S) k t t') : I1 W wb v tb tv w' S' t' m' (i + 1) :=
  ⟨o.gw h.gw (Nat.le_refl _), e, tr, h.ver.ott o (h.ver.neWld h.env.wld) (h.ver.neTr h.tr), h.rv.frozen x (hv.not (by omega)), rt, h.tok.put h.rt hk hp⟩
theorem I1.del (h : I1 W wb v tb tv wr S t m i) (hv : TvOk tv) {S' : Store} {t' : T} {m' : Int} (e : Env W.heap.size wb 2 w' S') (o : Ott W.heap.size wb tb wr w') (tr : TrB w' tb v 2 (pt t'.ptr) m' false) (rt : Rep S' t') (x : Ext 2 S S' t)
    (hp : t' = t ∨ DelR 2 (newIn S) t t') : I1 W wb v tb tv w' S' t' m' i :=
  ⟨o.gw h.gw (Nat.le_refl _), e, tr, h.ver.ott o (h.ver.neWld h.env.wld) (h.ver.neTr h.tr), h.rv.frozen x (hv.not (by omega)), rt, h.tok.del h.rt (h.rt.fit h.env.sto.fit) hp⟩
end

/-- what the second loop keeps -/
structure I2 (W : World) (wb v tb x : Nat) (tv t : T) (wr : World) (S : Store) (o : Int) : Prop where
  gw : Gw W wr
  env : Env W.heap.size wb o wr S
  tr : ∃ r m, TrB wr tb v 2 r m true
  vv : Ver wr v wb (pt tv.ptr)
  vx : Ver wr x wb (pt t.ptr)
  rv : Rep S tv
  rt : Rep S t
section
variable {W wr w' : World} {wb v tb x : Nat} {tv t : T} {S : Store} {o : Int} {i : Nat}
theorem I2.step (h : I2 W wb v tb x tv t wr S o) (k : Gw wr w') : I2 W wb v tb x tv t w' S o :=
  ⟨h.gw.trans k, h.env.below k, let ⟨r, m, ht⟩ := h.tr; ⟨r, m, ht.gw k⟩, h.vv.step k, h.vx.step k, h.rv, h.rt⟩
theorem I2.next (h : I2 W wb v tb x tv t wr S o) (hv : TvOk tv) (ht : TOk tv t i) (ho : 2 ≤ o) {S' : Store} {t0 : T} (e : Env W.heap.size wb (o + 1) w' S') (k : Oth W.heap.size wb wr w') (xt : Ext (o + 1) S S' t0) : I2 W wb v tb x tv t w' S' (o + 1) :=
  ⟨gw_oth h.gw k (Nat.le_refl _), e, let ⟨r, m, ht⟩ := h.tr; ⟨r, m, ht.oth k h.env.wld⟩, h.vv.oth k h.env.wld, h.vx.oth k h.env.wld, h.rv.frozen xt (hv.not (by omega)), h.rt.frozen xt (ht.not (by omega) (by omega))⟩
end
end Go.Proofs.YtbihlmkjoplkoaaGreatDoor
