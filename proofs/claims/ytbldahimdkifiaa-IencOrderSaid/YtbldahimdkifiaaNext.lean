/-
  Contracts of the seat's two functions that tell the next one of a prefix.
-/
import Derived.Test.YtbldahimdkifiaaCmp
import Derived.Deep.AppendLies
namespace Go.Proofs.Ytbldahimdkifiaa
open Go.RowKit

theorem Below.step {w w1 w2 : World} (h : Below w.heap.size w w1) (k : Below w1.heap.size w1 w2) : Below w.heap.size w w2 := h.trans (k.mono h.size)

theorem Bs.below {w w' : World} {p : Option Addr} {n c : Nat} {xs : List Int} (h : Bs w p n c xs) (hb : Below w.heap.size w w') : Bs w' p n c xs :=
  ⟨h.len, h.cap, h.big, h.byte, fun hn => by
    obtain ⟨b, o, e, hc⟩ := h.cells.at hn
    refine ⟨b, o, e, fun i hi => ?_⟩
    have hcell := hc i hi
    rw [hb.cell (p := ⟨b, o + i, none⟩) (block_lt_of_cell hcell)]
    exact hcell⟩

theorem Bs.owned {w : World} {base g n cap : Nat} {xs : List Int} (h : w.ownsRow base 5 1 (.slice (some ⟨g, 0, none⟩) n cap) n (xs.map (Value.int .u8)))
    (hb : n ≤ 140737488351232) (hx : ∀ x ∈ xs, 0 ≤ x ∧ x < 256) : Bs w (some ⟨g, 0, none⟩) n cap xs := by
  have hl : xs.length = n := by have := h.1; simpa using this
  refine ⟨hl, ?_, hb, hx, fun _ => ⟨g, 0, rfl, fun i hi => ?_⟩⟩
  · rcases h.2 with ⟨e, _⟩ | ⟨g', cap', cur, e, _, _, hc, _⟩
    · cases e
    · cases e; exact hc
  · rw [Nat.zero_add, h.cellAt i (by omega)]
    simp [List.getD_eq_getElem?_getD, hl, hi]

/-- a new slice of bytes: it lies in memory of the call's own, and may be written -/
def NewB (w w' : World) (v : Value) (l : List Int) : Prop :=
  ∃ p c, v = .slice p l.length c ∧ Bs w' p l.length c l ∧ (0 < l.length → ∃ g, p = some ⟨g, 0, none⟩ ∧ w.heap.size ≤ g ∧ ∀ i, w'.frozen? ⟨g, i, none⟩ = false) ∧ Below w.heap.size w w'

theorem Bs.setCell {w : World} {g n c : Nat} {xs : List Int} (h : Bs w (some ⟨g, 0, none⟩) n c xs) (i : Nat) (v : Int) (hv : 0 ≤ v ∧ v < 256) :
    Bs (w.setCell ⟨g, i, none⟩ (.int .u8 v)) (some ⟨g, 0, none⟩) n c (xs.set i v) := by
  refine ⟨by rw [List.length_set]; exact h.len, h.cap, h.big, ?_, fun hn => ⟨g, 0, rfl, fun j hj => ?_⟩⟩
  · intro x hx
    rcases List.mem_or_eq_of_mem_set hx with hx | hx
    · exact h.byte x hx
    · subst hx; exact hv
  · obtain ⟨b, o, e, hc⟩ := h.cells.at hn
    cases e
    by_cases e : i = j
    · subst e
      have := hc i hj
      rw [Nat.zero_add] at this ⊢
      rw [World.cell?_setCell_same _ _ _ this, List.getD_eq_getElem?_getD, List.getElem?_set, if_pos rfl, if_pos (by rw [h.len]; exact hj)]
      rfl
    · have := hc j hj
      rw [Nat.zero_add] at this ⊢
      rw [World.cell?_setCell_other _ _ _ _ (fun f => e (by cases f; rfl)), this, List.getD_eq_getElem?_getD, List.getD_eq_getElem?_getD, List.getElem?_set, if_neg e]

theorem NewB.owned {w w' : World} {v : Value} {l : List Int} {n : Nat} (hl : l.length = n) (hn : n ≤ 140737488351232) (hb : ∀ x ∈ l, 0 ≤ x ∧ x < 256)
    (h : w'.ownsRow w.heap.size 5 1 v n (l.map (Value.int .u8))) (hbel : Below w.heap.size w w') : NewB w w' v l := by
  subst hl
  rcases h.2 with ⟨rfl, e⟩ | ⟨g, cap, cur, rfl, hg, hh, hc, _⟩
  · refine ⟨none, 0, by rw [e], ?_, fun h0 => by omega, hbel⟩
    rw [e]
    exact ⟨e, by omega, by omega, hb, Lib.BytesIn.nil _ _ _⟩
  · exact ⟨_, _, rfl, Bs.owned h hn hb, fun _ => ⟨g, rfl, hg, fun i => h.frozenAt i⟩, hbel⟩

theorem NewB.none {w : World} : NewB w w (.slice none 0 0) [] := ⟨_, _, rfl, ⟨rfl, Nat.le_refl _, by simp, by simp, Lib.BytesIn.nil _ _ _⟩, fun h => by simp at h, Below.refl _ _⟩

theorem clone62 (p : Option Addr) (n c : Nat) (xs : List Int) (w : World) (h1 : Bs w p n c xs) :
    Calls Try.prog 62 #[.slice p n c] w fun e w' => ∃ v, e = .returned v ∧ NewB w w' v xs := by
  cases p with
  | none =>
    have : xs = [] := by
      by_cases hn : 0 < n
      · obtain ⟨_, _, e, _⟩ := h1.cells.at hn; cases e
      · exact List.length_eq_zero_iff.1 (by rw [h1.len]; omega)
    subst this
    exact (Try.bytes_Clone_nil n c w).mono fun e w' ⟨he, hw⟩ => ⟨_, he, by rw [hw]; exact NewB.none⟩
  | some a =>
    refine (Try.bytes_Clone_at a n c xs w h1.len (by have := h1.big; omega) ?_).mono ?_
    · intro i hi
      obtain ⟨b, o, e, hc⟩ := h1.cells.at (by omega)
      cases e
      have e : (⟨b, o, none⟩ : Addr).add i = ⟨b, o + i, none⟩ := by unfold Addr.add; split <;> simp_all
      rw [e]
      exact hc i hi
    · rintro e w' ⟨v, he, hown, _, hbel⟩
      exact ⟨v, he, NewB.owned h1.len h1.big h1.byte hown hbel⟩

theorem Bs.take {w : World} {b o n c : Nat} {xs : List Int} (h : Bs w (some ⟨b, o, none⟩) n c xs) (k : Nat) (hk : k ≤ n) : Bs w (some ⟨b, o, none⟩) k c (xs.take k) :=
  ⟨by rw [List.length_take, h.len]; omega, by have := h.cap; omega, by have := h.big; omega, fun x hx => h.byte x (List.mem_of_mem_take hx),
   fun hk' => by
    obtain ⟨b', o', e, hc⟩ := h.cells.at (by omega)
    refine ⟨b', o', e, fun i hi => ?_⟩
    rw [hc i (by omega)]
    simp [List.getD_eq_getElem?_getD, hi]⟩

theorem stop {p : Prop} (h : Hid p) : p := h
theorem unhid {p : Prop} (h : p) : Hid p := h

/-- what 'Next' hands back -/
def NextB (w w' : World) (e : Ending) (xs : List Int) : Prop :=
  (lastN xs xs.length = 0 ∧ e = .returned (.tuple #[.slice none 0 0, .bool false]) ∧ w' = w) ∨
  (0 < lastN xs xs.length ∧ ∃ v, e = .returned (.tuple #[v, .bool true]) ∧ NewB w w' v (bump xs (lastN xs xs.length)))

set_option maxRecDepth 100000 in
set_option maxHeartbeats 400000 in
theorem next23 (p : Option Addr) (n c : Nat) (xs : List Int) (w : World) (h1 : Bs w p n c xs) :
    Calls Try.prog 23 #[.slice p n c] w fun e w' => NextB w w' e xs := by
  have hn := h1.big
  have hcp := h1.cap
  have H1 := Lib.hid h1
  clear h1
  go_enter Try.func23, Try.ntmps23
  go_wp2
  go_loop [4] (fun i => ∃ k : Nat, i = .int .i64 k ∧ k ≤ n ∧ Hid (lastN xs k = lastN xs xs.length)) (fun i => (intOf i).toNat)
  case atStart => exact ⟨n, rfl, by omega, by rw [H1.out.len]; exact rfl⟩
  case round =>
    obtain ⟨k, rfl, hk1, hs⟩ := hrel
    by_cases hl : 0 < k
    · obtain ⟨b, o, rfl, hc1⟩ := H1.out.cells.at (by omega)
      have g1 : w.cell? ⟨b, o + (k - 1), none⟩ = some (.int .u8 (xs.getD (k - 1) 0)) := hc1 (k - 1) (by omega)
      have hb := H1.out.get (k - 1)
      obtain ⟨x, hx⟩ : ∃ x, xs.getD (k - 1) 0 = x := ⟨_, rfl⟩
      rw [hx] at g1 hb
      have HX := Lib.hid hx
      have HC := Lib.hid hc1
      clear hx hc1
      by_cases e : x = 255
      · have e1 : (x == 255) = true := by simp [e]
        have E := Lib.hid e
        clear e
        go_wp2
        go_round
        case rel =>
          refine ⟨k - 1, by go_num, by omega, ?_⟩
          show lastN xs (k - 1) = _
          rw [← lastN_step xs k hl (by rw [HX.out, E.out])]; exact hs.out
        case measure => simp [intOf]; omega
      · have e1 : (x == 255) = false := by simp [e]
        have hx1 : x < 255 := by omega
        clear e
        have tk : ((k : Int) == 0) = false := by simp; omega
        have hk0 : lastN xs xs.length = k := by
          rw [← hs.out]; exact lastN_fix xs k (fun _ => by rw [HX.out]; omega)
        have HK := Lib.hid hk0
        clear hk0
        go_wp2_with fail
        refine (clone62 _ _ _ (xs.take k) _ (H1.out.take k hk1)).mono ?_
        rintro e w1 ⟨v, rfl, p1, c1, rfl, hb1, hf1, hbel⟩
        have hl1 : (xs.take k).length = k := by rw [List.length_take, H1.out.len]; omega
        rw [hl1] at hb1 hf1
        rw [hl1]
        obtain ⟨g, rfl, hg, hfr⟩ := hf1 hl
        clear hf1
        have f1 := hfr (k - 1)
        have g2 : w1.cell? ⟨g, k - 1, none⟩ = some (.int .u8 x) := by
          obtain ⟨_, _, e, hc⟩ := hb1.cells.at hl
          cases e
          have := hc (k - 1) (by omega)
          rw [Nat.zero_add] at this
          rw [this, List.getD_eq_getElem?_getD, List.getElem?_take, if_pos (by omega), ← List.getD_eq_getElem?_getD, HX.out]
        have HB := Lib.hid hb1
        have HF := Lib.hid hfr
        have HBEL := Lib.hid hbel
        clear hb1 hfr hbel hl1
        go_wp2_with fail
        go_ret2
        right
        refine ⟨by rw [HK.out]; exact hl, .slice (some ⟨g, 0, none⟩) k c1, rfl, ?_⟩
        have hx0 : 0 ≤ x := hb.1
        rw [HK.out]
        refine ⟨some ⟨g, 0, none⟩, c1, ?_, ?_, fun _ => ⟨g, rfl, hg, fun i => ?_⟩, ?_⟩
        · rw [length_bump xs k (by rw [H1.out.len]; exact hk1)]
        · rw [length_bump xs k (by rw [H1.out.len]; exact hk1)]
          have := HB.out.setCell (k - 1) (x + 1) (by omega)
          unfold bump
          rw [HX.out]
          exact this
        · have := HF.out i
          simpa using this
        · exact HBEL.out.setCell hg _
    · obtain rfl : k = 0 := by omega
      go_wp2
      go_ret2
      exact .inl ⟨hs.out.symm, rfl, rfl⟩
theorem info5 : (Try.prog.info? 5).map (fun i => (i.zero, i.size, i.bytes)) = some (some (.int .u8 0), 1, 1) := by kernel_rfl

set_option maxRecDepth 100000 in
set_option maxHeartbeats 400000 in
theorem next24 (p : Option Addr) (n c : Nat) (xs : List Int) (w : World) (h1 : Bs w p n c xs) :
    Calls Try.prog 24 #[.slice p n c] w fun e w' => NextB w w' e xs := by
  have hn := h1.big
  have hcp := h1.cap
  have H1 := Lib.hid h1
  clear h1
  go_enter Try.func24, Try.ntmps24
  go_wp2
  go_loop [4] (fun i => ∃ k : Nat, i = .int .i64 k ∧ k ≤ n ∧ Hid (lastN xs k = lastN xs xs.length)) (fun i => (intOf i).toNat)
  case atStart => exact ⟨n, rfl, by omega, by rw [H1.out.len]; exact rfl⟩
  case round =>
    obtain ⟨k, rfl, hk1, hs⟩ := hrel
    by_cases hl : 0 < k
    · obtain ⟨b, o, rfl, hc1⟩ := H1.out.cells.at (by omega)
      have g1 : w.cell? ⟨b, o + (k - 1), none⟩ = some (.int .u8 (xs.getD (k - 1) 0)) := hc1 (k - 1) (by omega)
      have hb := H1.out.get (k - 1)
      obtain ⟨x, hx⟩ : ∃ x, xs.getD (k - 1) 0 = x := ⟨_, rfl⟩
      rw [hx] at g1 hb
      have HX := Lib.hid hx
      have HC := Lib.hid hc1
      clear hx hc1
      by_cases e : x = 255
      · have e1 : (x == 255) = true := by simp [e]
        have E := Lib.hid e
        clear e
        go_wp2
        go_round
        case rel =>
          refine ⟨k - 1, by go_num, by omega, ?_⟩
          show lastN xs (k - 1) = _
          rw [← lastN_step xs k hl (by rw [HX.out, E.out])]; exact hs.out
        case measure => simp [intOf]; omega
      · have e1 : (x == 255) = false := by simp [e]
        have hx1 : x < 255 := by omega
        clear e
        have tk : ((k : Int) == 0) = false := by simp; omega
        have hk0 : lastN xs xs.length = k := by
          rw [← hs.out]; exact lastN_fix xs k (fun _ => by rw [HX.out]; omega)
        have HK := Lib.hid hk0
        clear hk0
        go_wp2_with (at_builtin; refine stop ?_)
        refine unhid ?_
        have hl1 : (xs.take k).length = k := by rw [List.length_take, H1.out.len]; omega
        have hcells : ∀ j u, ((xs.take k).map (Value.int .u8))[j]? = some u → w.cell? ((⟨b, o, none⟩ : Addr).add j) = some u := by
          intro j u hj
          have hjl : j < k := by
            have := (List.getElem?_eq_some_iff.1 hj).1
            rw [List.length_map, hl1] at this; exact this
          have e : (⟨b, o, none⟩ : Addr).add j = ⟨b, o + j, none⟩ := by unfold Addr.add; split <;> simp_all
          rw [e, HC.out j (by omega), ← hj]
          have : j < xs.length := by rw [H1.out.len]; omega
          simp [List.getD_eq_getElem?_getD, hjl, this]
        have hone : ∀ u ∈ (xs.take k).map (Value.int .u8), u.oneCell' = true := by
          intro u hu
          obtain ⟨x, _, rfl⟩ := List.mem_map.1 hu
          rfl
        obtain ⟨i0, hi, hz0, hz1, hz2⟩ := info_parts info5
        refine wpList_append_lies _ rfl _ _ 22 (by rfl) w.heap.size 5 i0 (.int .u8 0) 1 1 Try.underlying22 hi hz0 hz1 hz2 rfl (by decide) _ 0 [] (by rfl) (World.ownsRow_nil _ _ _ _) ⟨b, o, none⟩ k c ((xs.take k).map (Value.int .u8)) (by rfl) (by rw [List.length_map, hl1]; omega) hcells hone hl (by unfold maxLen; omega) (by omega) (Nat.le_refl _) w.heap.size rfl ?_
        intro g c1 w1 hown hgrow hgH hlt
        simp only [Nat.zero_add, List.nil_append] at hown ⊢
        have hbel : Below w.heap.size w w1 := (Below.refl _ _).grown hgrow (Nat.le_refl _) (fun k hk => by simp [Value.ownBlock] at hk)
        have hb1 := Bs.owned hown (by omega) (fun x hx => H1.out.byte x (List.mem_of_mem_take hx))
        have hg : w.heap.size ≤ g := by
          rcases hgH with h | h
          · simp [Value.ownBlock] at h
          · omega
        have hfr : ∀ i, w1.frozen? ⟨g, i, none⟩ = false := fun i => hown.frozenAt i
        clear hown hgrow hgH hcells hone hi hz0 hz1 hz2 hlt
        have f1 := hfr (k - 1)
        have g2 : w1.cell? ⟨g, k - 1, none⟩ = some (.int .u8 x) := by
          obtain ⟨_, _, e, hc⟩ := hb1.cells.at hl
          cases e
          have := hc (k - 1) (by omega)
          rw [Nat.zero_add] at this
          rw [this, List.getD_eq_getElem?_getD, List.getElem?_take, if_pos (by omega), ← List.getD_eq_getElem?_getD, HX.out]
        have HB := Lib.hid hb1
        have HF := Lib.hid hfr
        have HBEL := Lib.hid hbel
        clear hb1 hfr hbel hl1
        go_wp2_with fail
        go_ret2
        right
        refine ⟨by rw [HK.out]; exact hl, .slice (some ⟨g, 0, none⟩) k c1, rfl, ?_⟩
        have hx0 : 0 ≤ x := hb.1
        rw [HK.out]
        refine ⟨some ⟨g, 0, none⟩, c1, ?_, ?_, fun _ => ⟨g, rfl, hg, fun i => ?_⟩, ?_⟩
        · rw [length_bump xs k (by rw [H1.out.len]; exact hk1)]
        · rw [length_bump xs k (by rw [H1.out.len]; exact hk1)]
          have := HB.out.setCell (k - 1) (x + 1) (by omega)
          unfold bump
          rw [HX.out]
          exact this
        · have := HF.out i
          simpa using this
        · exact HBEL.out.setCell hg _
    · obtain rfl : k = 0 := by omega
      go_wp2
      go_ret2
      exact .inl ⟨hs.out.symm, rfl, rfl⟩
end Go.Proofs.Ytbldahimdkifiaa
