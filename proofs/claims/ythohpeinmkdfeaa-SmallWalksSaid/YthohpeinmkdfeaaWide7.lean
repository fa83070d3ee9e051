/-
  The board as a whole: what Drop leaves; Len, Room, Used, Get, Next, Prev of a board.
-/
import Derived.Test.YthohpeinmkdfeaaWide6
namespace Go.Proofs.Ythohpeinmkdfeaa
open Go.RowKit
set_option linter.unusedVariables false

/-- what Drop tells, and leaves -/
def DropR (w w' : World) (base g room : Nat) (f : Nat → Option Int) (U : Nat) (fp : List Nat) (b : Nat) (e : Ending) : Prop :=
  (f b = none ∧ e = .returned (.int .i64 6) ∧ w' = w) ∨
  (f b ≠ none ∧ e = .returned (.int .i64 0) ∧ ∃ fp', BdE w' base g room (updF f b none) U fp' ∧ Exc fp w w' ∧ (∀ k ∈ fp', k ∈ fp ∨ w.heap.size ≤ k))

theorem held_drop {A : Nat → Nat} {X : List Int} {f : Nat → Option Int} {room b j : Nat} {F : List Nat} (hf : ∀ c, c < 256 → heldA A X c = f c) (hp : Plc room A X F) (hb : b < 256) (hj : A b = j + 1) :
    ∀ c, c < 256 → heldA (upd A b 0) (X.set j 0) c = updF f b none c := fun c hc => by
  unfold updF
  by_cases e : c = b
  · rw [if_pos e]
    unfold heldA
    rw [if_pos (by rw [e, upd_same])]
  · rw [if_neg e, ← hf c hc]
    unfold heldA
    rw [upd_ne _ _ _ e]
    by_cases h0 : A c = 0
    · rw [if_pos h0, if_pos h0]
    · rw [if_neg h0, if_neg h0, List.getD_eq_getElem?_getD, List.getD_eq_getElem?_getD, List.getElem?_set, if_neg (fun h => e (hp.inj1 hb hj c hc (by omega)))]

theorem dropBd {w : World} {base g room : Nat} {f : Nat → Option Int} {U : Nat} {fp : List Nat} (h : BdE w base g room f U fp) (hbase : base ≤ w.heap.size) (b : Nat) (hb : b < 256) :
    Calls Try.prog 13 #[.pointer (some ⟨g, 0, none⟩), .int .u8 b] w fun e w' => DropR w w' base g room f U fp b e := by
  obtain ⟨A, X, F, px, cx, pf, cf, h, hf, rfl, rfl⟩ := h
  have hmost := h.plc.most
  by_cases h0 : A b = 0
  · have hfb : f b = none := by rw [← hf b hb]; unfold heldA; rw [if_pos h0]
    exact (drop13_no g room _ b A _ _ w h.blk h.rooms.1 hb h0).mono fun e w' ⟨he, hw⟩ => Or.inl ⟨hfb, he, hw⟩
  · obtain ⟨j, hj⟩ : ∃ j, A b = j + 1 := ⟨A b - 1, by omega⟩
    have hfn : f b ≠ none := by rw [← hf b hb]; unfold heldA; rw [if_neg h0]; simp
    have hle := h.plc.le b hb
    have hcnt := cnt_drop hb h0
    have hcl := h.plc.cnt_le
    have hfl : F.length ≤ 65535 := by have := h.plc.sum; omega
    rcases h.ownX.2 with ⟨e, e2⟩ | ⟨bx, cap, cur, e, _⟩
    · omega
    cases e
    have hc := h.ownX.cellAt j (by omega)
    rw [List.getElem?_map, List.getElem?_eq_getElem (show j < X.length by omega)] at hc
    have hv : Var w bx j (.int .i64 (X[j]'(by omega))) := ⟨hc, h.ownX.frozenAt j⟩
    have hne : bx ≠ g := h.apX _ rfl
    refine (drop13_yes base g room (cntA A) b j X.length cx bx F.length cf _ A F pf w h.blk h.rooms.1 hb hj (by omega) hmost (by omega) hcl hv hne hfl rfl h.ownF (fun a ha e => h.apart _ _ rfl ha e.symm) h.apF hbase).mono ?_
    rintro e w' ⟨he, w1, w2, bf, cap', hw1, happ, hw⟩
    have hB1 : Bd w1 base g room A (X.set j 0) F (some ⟨bx, 0, none⟩) cx pf cf := by rw [hw1]; exact (h.lay j 0).drewN 1
    have hsz : w1.heap.size = w.heap.size := by rw [hw1]; simp
    have hgl := hB1.blk.vN.lt
    have hxl : bx < w1.heap.size := (own_lt hB1.ownX _ rfl).2
    have hnf : bf ≠ g := by
      rcases happ.new with e | e
      · exact h.apF _ e
      · omega
    have hxf : bx ≠ bf := by
      rcases happ.new with e | e
      · exact h.apart _ _ rfl e
      · omega
    have hP := h.plc.drop hb hj
    have oX : w2.ownsRow base 3 1 (.slice (some ⟨bx, 0, none⟩) (X.set j 0).length cx) (X.set j 0).length ((X.set j 0).map (Value.int .i64)) := by
      refine own_exc hB1.ownX (happ.exc (pf.toList.map (·.block)) (fun a ha => by subst ha; simp)) (fun k hk => ?_)
      have hk' : bx = k := by simpa [Value.ownBlock] using hk
      intro hm
      simp at hm
      obtain ⟨q, hq, e⟩ := hm
      exact h.apart _ _ rfl hq (by rw [e]; exact hk')
    have hlf : (F ++ [j + 1]).length = F.length + 1 := by simp
    have oF : w2.ownsRow base 38 1 (.slice (some ⟨bf, 0, none⟩) (F ++ [j + 1]).length cap') (F ++ [j + 1]).length ((F ++ [j + 1]).map fun i : Nat => Value.int .u16 (i : Int)) := by
      rw [hlf, List.map_append]
      have := happ.own
      simpa using this
    have b3 : Bc w2 g room (cntA A) A (.slice (some ⟨bx, 0, none⟩) (X.set j 0).length cx) (.slice pf F.length cf) := hB1.blk.same happ.same
    have kx : (Value.slice (some ⟨bx, 0, none⟩) (X.set j 0).length cx).ownBlock ≠ some g := by simpa [Value.ownBlock] using hne
    have kf : (Value.slice (some ⟨bf, 0, none⟩) (F ++ [j + 1]).length cap').ownBlock ≠ some g := by simpa [Value.ownBlock] using hnf
    have hb4 : Bd w' base g room (upd A b 0) (X.set j 0) (F ++ [j + 1]) (some ⟨bx, 0, none⟩) cx (some ⟨bf, 0, none⟩) cap' := by
      rw [hw]
      refine ⟨?_, ?_, ?_, hP, h.base, h.apX, ?_, ?_, h.rooms⟩
      · have := ((b3.setF (.slice (some ⟨bf, 0, none⟩) (F.length + 1) cap')).setAt b 0 hb).setN (cntA A - 1)
        rw [show cntA (upd A b 0) = cntA A - 1 by omega, hlf]
        rw [show ((cntA A - 1 : Nat) : Int) = (cntA A : Int) - 1 by omega] at this
        exact this
      · exact own_set (a := ⟨g, 1, none⟩) (own_set (a := ⟨g, 2 + b, none⟩) (own_set (a := ⟨g, 259, none⟩) oX kx) kx) kx
      · exact own_set (a := ⟨g, 1, none⟩) (own_set (a := ⟨g, 2 + b, none⟩) (own_set (a := ⟨g, 259, none⟩) oF kf) kf) kf
      · intro a e; cases e; exact hnf
      · intro a c e1 e2; cases e1; cases e2; exact hxf
    refine Or.inr ⟨hfn, he, fpOf g (some ⟨bx, 0, none⟩) (some ⟨bf, 0, none⟩), ⟨_, _, _, _, _, _, _, hb4, held_drop hf h.plc hb hj, List.length_set, rfl⟩, ?_, ?_⟩
    · rw [hw]
      have e1 : Exc (fpOf g (some ⟨bx, 0, none⟩) pf) w w1 := by rw [hw1]; exact ((Exc.refl _ w).set (p := ⟨bx, j, none⟩) (fp_x g ⟨bx, 0, none⟩ pf) _).drewN 1
      have e2 : Exc (fpOf g (some ⟨bx, 0, none⟩) pf) w1 w2 := happ.exc _ (fun a ha => by subst ha; exact fp_f _ _ _)
      exact (((e1.trans e2).set (p := ⟨g, 259, none⟩) (fp_g _ _ _) _).set (p := ⟨g, 2 + b, none⟩) (fp_g _ _ _) _).set (p := ⟨g, 1, none⟩) (fp_g _ _ _) _
    · intro k hk
      unfold fpOf at hk ⊢
      simp at hk ⊢
      rcases hk with e | e | e
      · exact Or.inl (Or.inl e)
      · exact Or.inl (Or.inr (Or.inl e))
      · rcases happ.new with q | q
        · left; right; right; exact ⟨_, q, e.symm⟩
        · right; omega

theorem lenE {w : World} {base g room : Nat} {f : Nat → Option Int} {U : Nat} {fp : List Nat} (h : BdE w base g room f U fp) :
    Calls Try.prog 17 #[.pointer (some ⟨g, 0, none⟩)] w fun e w' => e = .returned (.int .i64 (cntF f)) ∧ w' = w := by
  obtain ⟨A, X, F, px, cx, pf, cf, h, hf, rfl, rfl⟩ := h
  rw [← cnt_held A X f hf]
  exact len17 g room _ A _ _ w h.blk h.rooms.1
theorem roomE {w : World} {base g room : Nat} {f : Nat → Option Int} {U : Nat} {fp : List Nat} (h : BdE w base g room f U fp) :
    Calls Try.prog 34 #[.pointer (some ⟨g, 0, none⟩)] w fun e w' => e = .returned (.int .i64 room) ∧ w' = w := by
  obtain ⟨A, X, F, px, cx, pf, cf, h, hf, rfl, rfl⟩ := h
  exact room34 g room w h.blk.vRoom.cell h.rooms.1
theorem usedE {w : World} {base g room : Nat} {f : Nat → Option Int} {U : Nat} {fp : List Nat} (h : BdE w base g room f U fp) :
    Calls Try.prog 30 #[.pointer (some ⟨g, 0, none⟩)] w fun e w' => e = .returned (.int .i64 U) ∧ w' = w := by
  obtain ⟨A, X, F, px, cx, pf, cf, h, hf, rfl, rfl⟩ := h
  exact used30 g room _ A px X.length cx _ w h.blk h.rooms.1
theorem getE {w : World} {base g room : Nat} {f : Nat → Option Int} {U : Nat} {fp : List Nat} (h : BdE w base g room f U fp) (b : Nat) (hb : b < 256) :
    Calls Try.prog 16 #[.pointer (some ⟨g, 0, none⟩), .int .u8 b] w fun e w' => e = .returned (.tuple #[.int .i64 (valO (f b)), .bool (f b).isSome]) ∧ ∃ z, w' = w.drewN z := by
  obtain ⟨A, X, F, px, cx, pf, cf, h, hf, rfl, rfl⟩ := h
  rw [← hf b hb]
  exact getBd h b hb
theorem BdE.drewN {w : World} {base g room : Nat} {f : Nat → Option Int} {U : Nat} {fp : List Nat} (h : BdE w base g room f U fp) (z : Nat) : BdE (w.drewN z) base g room f U fp := by
  obtain ⟨A, X, F, px, cx, pf, cf, h, hf, e1, e2⟩ := h
  exact ⟨A, X, F, px, cx, pf, cf, h.drewN z, hf, e1, e2⟩
theorem okE {w : World} {base g room : Nat} {f : Nat → Option Int} {U : Nat} {fp : List Nat} (h : BdE w base g room f U fp) :
    Calls Try.prog 52 #[.pointer (some ⟨g, 0, none⟩)] w fun e w' => e = .returned (.bool true) ∧ w' = w := by
  obtain ⟨A, X, F, px, cx, pf, cf, h, hf, e1, e2⟩ := h
  exact okBd h
theorem nextE {w : World} {base g room : Nat} {f : Nat → Option Int} {U : Nat} {fp : List Nat} (h : BdE w base g room f U fp) (from' : Int) :
    Calls Try.prog 32 #[.pointer (some ⟨g, 0, none⟩), .int .i64 from'] w fun e w' => ∃ r, NextR f (max from' 0) r ∧ e = .returned (tri r) ∧ ∃ z, w' = w.drewN z :=
  next32_loop g from' _ f w (by omega) rfl (fun z => okE (h.drewN z)) (fun b z hb => getE (h.drewN z) b hb)
theorem prevE {w : World} {base g room : Nat} {f : Nat → Option Int} {U : Nat} {fp : List Nat} (h : BdE w base g room f U fp) (from' : Int) :
    Calls Try.prog 33 #[.pointer (some ⟨g, 0, none⟩), .int .i64 from'] w fun e w' => ∃ r, PrevR f (min from' 255) r ∧ e = .returned (tri r) ∧ ∃ z, w' = w.drewN z :=
  prev33_loop g from' _ f w (by omega) rfl (fun z => okE (h.drewN z)) (fun b z hb => getE (h.drewN z) b hb)

end Go.Proofs.Ythohpeinmkdfeaa
