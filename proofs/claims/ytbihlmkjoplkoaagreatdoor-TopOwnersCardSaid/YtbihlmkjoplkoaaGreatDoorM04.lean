/-
  For the statement TopOwners: The board as a whole: what Set leaves.
-/
import Derived.Test.YtbihlmkjoplkoaaGreatDoorM03
namespace Go.Proofs.YtbihlmkjoplkoaaGreatDoor
open Go.RowKit
set_option linter.unusedVariables false

def fpOf (g : Nat) (px pf : Option Addr) : List Nat := g :: ((px.toList ++ pf.toList).map (·.block))
def updF (f : Nat → Option Th) (b : Nat) (v : Option Th) : Nat → Option Th := fun i => if i = b then v else f i
def cntF (f : Nat → Option Th) : Nat := ((List.range 256).filter fun b => (f b).isSome).length

/-- a board that holds what f says; it has U places; its blocks are fp -/
def BdE (w : World) (base g room : Nat) (f : Nat → Option Th) (U : Nat) (fp : List Nat) : Prop :=
  ∃ A X F px cx pf cf, Bd w base g room A X F px cx pf cf ∧ (∀ b, b < 256 → heldA A X b = f b) ∧ X.length = U ∧ fp = fpOf g px pf

theorem cnt_held (A : Nat → Nat) (X : List Th) (f : Nat → Option Th) (h : ∀ b, b < 256 → heldA A X b = f b) : cntA A = cntF f := by
  unfold cntA cntF
  congr 1
  refine List.filter_congr fun b hb => ?_
  rw [← h b (List.mem_range.1 hb)]
  unfold heldA
  by_cases h0 : A b = 0
  · simp [h0]
  · simp [h0]

theorem Bd.fp_lt {w : World} {base g room : Nat} {A : Nat → Nat} {X : List Th} {F : List Nat} {px : Option Addr} {cx : Nat} {pf : Option Addr} {cf : Nat} (h : Bd w base g room A X F px cx pf cf) : ∀ k ∈ fpOf g px pf, base ≤ k ∧ k < w.heap.size := by
  intro k hk
  unfold fpOf at hk
  rcases List.mem_cons.1 hk with rfl | hk
  · exact ⟨h.base, h.blk.vN.lt⟩
  · simp at hk
    rcases hk with ⟨a, ha, rfl⟩ | ⟨a, ha, rfl⟩
    · subst ha; exact own_lt h.ownX _ rfl
    · subst ha; exact own_lt h.ownF _ rfl

/-- the board behind a thing that is laid at a place -/
theorem Bd.lay {w : World} {base g room : Nat} {A : Nat → Nat} {X : List Th} {F : List Nat} {bx cx : Nat} {pf : Option Addr} {cf : Nat} (h : Bd w base g room A X F (some ⟨bx, 0, none⟩) cx pf cf) (j : Nat) (x : Th) :
    Bd (w.setCell ⟨bx, j, none⟩ (.pointer x)) base g room A (X.set j x) F (some ⟨bx, 0, none⟩) cx pf cf := by
  have hne : bx ≠ g := h.apX _ rfl
  have hs := h.ownX.stored j (.pointer x)
  refine ⟨?_, ?_, own_set h.ownF (fun e => ?_), h.plc.old j x, h.base, h.apX, h.apF, h.apart, h.rooms⟩
  · rw [List.length_set]
    exact h.blk.same (heap_setCell_other _ _ _ _ (fun e => hne e.symm))
  · rw [List.length_set, List.map_set]
    exact hs.1
  · cases pf with
    | none => cases e
    | some a =>
      have : a.block = bx := by simpa [Value.ownBlock] using e
      exact h.apart _ _ rfl rfl this.symm

theorem own_take {w : World} {base bf m cf : Nat} {e : TypeId} {xs : List Value} (h : w.ownsRow base e 1 (.slice (some ⟨bf, 0, none⟩) (m + 1) cf) (m + 1) xs) : w.ownsRow base e 1 (.slice (some ⟨bf, 0, none⟩) m cf) m (xs.take m) := by
  have hl := h.1
  refine ⟨by rw [List.length_take]; omega, ?_⟩
  rcases h.2 with ⟨e1, _⟩ | ⟨g, cap, cur, e1, hb, hg, hn, hc, hs, ht⟩
  · cases e1
  · cases e1
    refine .inr ⟨_, _, cur, rfl, hb, hg, by omega, hc, hs, ?_⟩
    rw [← ht, List.take_take]
    congr 1
    omega

/-- the board behind a place that is given to a byte -/
theorem Bd.given {w : World} {base g room n b j : Nat} {A : Nat → Nat} {X : List Th} {F : List Nat} {bx cx : Nat} {pf : Option Addr} {cf : Nat}
    (hc : n = cntA A) (blk : Bc w g room n A (.slice (some ⟨bx, 0, none⟩) X.length cx) (.slice pf F.length cf))
    (ownX : w.ownsRow base 48 1 (.slice (some ⟨bx, 0, none⟩) X.length cx) X.length (X.map Value.pointer))
    (ownF : w.ownsRow base 197 1 (.slice pf F.length cf) F.length (F.map fun i : Nat => Value.int .u16 (i : Int)))
    (hb : b < 256) (ha : A b = 0) (plc : Plc room (upd A b (j + 1)) X F) (hg : base ≤ g) (hx : bx ≠ g) (hf : ∀ a, pf = some a → a.block ≠ g) (hap : ∀ c, pf = some c → bx ≠ c.block) (hr : 0 < room ∧ room ≤ 256) (z : Nat) :
    Bd (((w.setCell ⟨g, 2 + b, none⟩ (.int .u16 ((j : Int) + 1))).setCell ⟨g, 1, none⟩ (.int .i64 ((n : Int) + 1))).drewN z) base g room (upd A b (j + 1)) X F (some ⟨bx, 0, none⟩) cx pf cf := by
  have hF : ∀ k, (Value.slice pf F.length cf).ownBlock = some k → k ≠ g := fun k hk => by
    cases pf with
    | none => cases hk
    | some a =>
      have : a.block = k := by simpa [Value.ownBlock] using hk
      rw [← this]; exact hf a rfl
  refine ⟨?_, ?_, ?_, plc, hg, ?_, hf, ?_, hr⟩
  · rw [cnt_new hb ha (by omega), ← hc]
    have := (blk.setAt b (j + 1) hb).setN (n + 1)
    push_cast at this ⊢
    exact this
  · have k : (Value.slice (some ⟨bx, 0, none⟩) X.length cx).ownBlock ≠ some g := by simpa [Value.ownBlock] using hx
    exact own_set (a := ⟨g, 1, none⟩) (own_set (a := ⟨g, 2 + b, none⟩) ownX k) k
  · have k : (Value.slice pf F.length cf).ownBlock ≠ some g := fun e => hF g e rfl
    exact own_set (a := ⟨g, 1, none⟩) (own_set (a := ⟨g, 2 + b, none⟩) ownF k) k
  · intro a e; cases e; exact hx
  · intro a c e1 e2; cases e1; exact hap c e2

theorem updF_same (f : Nat → Option Th) (b : Nat) (v : Option Th) : updF f b v b = v := by simp [updF]

theorem held_upd {A : Nat → Nat} {X : List Th} {f : Nat → Option Th} {b j : Nat} (hf : ∀ c, c < 256 → heldA A X c = f c) (x : Th) (hj : j < X.length) (hu : ∀ c, c < 256 → upd A b (j + 1) c = j + 1 → c = b) :
    ∀ c, c < 256 → heldA (upd A b (j + 1)) (X.set j x) c = updF f b (some x) c := fun c hc => by
  rw [heldA_set b j x (upd_same _ _ _) hj hu c hc]
  unfold updF
  by_cases e : c = b
  · rw [if_pos e, if_pos e]
  · rw [if_neg e, if_neg e, ← hf c hc]
    unfold heldA
    rw [upd_ne _ _ _ e]

theorem held_app {A : Nat → Nat} {X : List Th} {room : Nat} {F : List Nat} (h : Plc room A X F) (c : Nat) (hc : c < 256) : heldA A (X ++ [none]) c = heldA A X c := by
  unfold heldA
  by_cases h0 : A c = 0
  · rw [if_pos h0, if_pos h0]
  · have := h.le c hc
    rw [if_neg h0, if_neg h0, List.getD_eq_getElem?_getD, List.getD_eq_getElem?_getD, List.getElem?_append_left (by omega)]

theorem Exc.set' {S : List Nat} {a b : World} (h : Exc S a b) {p : Addr} (hp : p.block ∈ S ∨ a.heap.size ≤ p.block) (u : Value) : Exc S a (b.setCell p u) := by
  have e := (Below.refl 0 b).setCell (p := p) (Nat.zero_le _) u
  exact ⟨e.os.trans h.os, e.tape.trans h.tape, e.output.trans h.output, Nat.le_trans h.size e.size, fun i hi ht => by
    rw [Below.heap_setCell _ _ _ _ (fun x => by
      rcases hp with hp | hp
      · exact ht (by rw [x]; exact hp)
      · omega)]; exact h.block i hi ht⟩

/-- what Set tells, and leaves -/
def SetR (w w' : World) (base g room : Nat) (f : Nat → Option Th) (U : Nat) (fp : List Nat) (b : Nat) (x : Th) (e : Ending) : Prop :=
  (f b = none ∧ cntF f = room ∧ e = .returned (.int .i64 10) ∧ ∃ z, w' = w.drewN z) ∨
  (¬ (f b = none ∧ cntF f = room) ∧ e = .returned (.int .i64 0) ∧ ∃ U' fp', BdE w' base g room (updF f b (some x)) U' fp' ∧ Exc fp w w' ∧ (∀ k ∈ fp', k ∈ fp ∨ w.heap.size ≤ k) ∧ U' ≤ max U (cntF (updF f b (some x))))

theorem fp_g (g : Nat) (px pf : Option Addr) : g ∈ fpOf g px pf := List.mem_cons_self
theorem fp_x (g : Nat) (a : Addr) (pf : Option Addr) : a.block ∈ fpOf g (some a) pf := by simp [fpOf]
theorem fp_f (g : Nat) (px : Option Addr) (a : Addr) : a.block ∈ fpOf g px (some a) := by simp [fpOf]

theorem setBd {w : World} {base g room : Nat} {f : Nat → Option Th} {U : Nat} {fp : List Nat} (h : BdE w base g room f U fp) (hbase : base ≤ w.heap.size) (b : Nat) (hb : b < 256) (x : Th) :
    Calls Tryz.prog 159 #[.pointer (some ⟨g, 0, none⟩), .int .u8 b, .pointer x] w fun e w' => SetR w w' base g room f U fp b x e := by
  obtain ⟨A, X, F, px, cx, pf, cf, h, hf, rfl, rfl⟩ := h
  have hcnt := cnt_held A X f hf
  have hmost := h.plc.most
  by_cases h0 : A b = 0
  · have hfb : f b = none := by rw [← hf b hb]; unfold heldA; rw [if_pos h0]
    by_cases hfull : cntA A = room
    · have hblk := h.blk
      rw [hfull] at hblk
      exact (set14_full g room b x A _ _ w hblk h.rooms.1 hb h0).mono fun e w' ⟨he, hw⟩ => Or.inl ⟨hfb, by omega, he, hw⟩
    · have hn : cntA A < room := by have := h.plc.room; omega
      have hlt := h.fp_lt
      rcases List.eq_nil_or_concat F with hF | ⟨F', i, hF⟩
      · -- a new place
        subst hF
        have hX : X.length = cntA A := by have := h.plc.sum; simpa using this
        have hr := h.rooms
        have hl : (X ++ [(none : Th)]).length = X.length + 1 := by simp
        have hP := h.plc.grow hr.2 hb h0 hn
        have hpl : ∀ a, pf = some a → a.block < w.heap.size := fun a ha => (own_lt h.ownF _ (by rw [ha]; rfl)).2
        have hgl : g < w.heap.size := h.blk.vN.lt
        refine (set14_new g room (cntA A) b X.length x A _ _ w h.blk hr.1 hb h0 hn hr.2 (by omega)
          (fun W W' bx m c vf' => Grew W W' base g room (cntA A) A X px (.slice pf 0 cf) bx c ∧ m = X.length + 1 ∧ vf' = .slice pf 0 cf ∧ W.heap.size = w.heap.size) ?_).mono ?_
        · intro z
          refine (place53_grow base g room (cntA A) cx cf px pf A X (w.drewN z) h.blk (by omega) h.ownX h.apX hbase).mono ?_
          rintro e w' ⟨he, bx, c, hG⟩
          refine ⟨he, bx, X.length + 1, c, _, hG.blk, ?_, by omega, by omega, ⟨.pointer none, ?_, hG.own.frozenAt _⟩, hG, rfl, rfl, rfl⟩
          · rcases hG.new with e | e
            · exact h.apX _ e
            · have e' : w.heap.size ≤ bx := e
              omega
          · rw [hG.own.cellAt X.length (by omega)]
            simp
        · rintro e w' ⟨he, z, w2, bx, m, c, vf', z2, hbc, hne, ⟨hG, rfl, rfl, hsz⟩, hw⟩
          have hE : Exc (fpOf g px pf) (w.drewN z) w2 := hG.exc _ (fp_g _ _ _) (fun a ha => by subst ha; exact fp_x _ _ _)
          have hbx : px = some ⟨bx, 0, none⟩ ∨ w.heap.size ≤ bx := hG.new
          have hap2 : ∀ k, pf = some k → bx ≠ k.block := fun k hk => by
            rcases hbx with e | e
            · exact h.apart _ _ e hk
            · have := hpl k hk; omega
          have hF2 : w2.ownsRow base 197 1 (.slice pf 0 cf) 0 [] := by
            refine own_exc (w := w.drewN z) (S := g :: px.toList.map (·.block)) h.ownF (hG.exc _ List.mem_cons_self (fun a ha => by subst ha; simp)) (fun k hk => ?_)
            cases hpf : pf with
            | none => rw [hpf] at hk; cases hk
            | some a =>
              rw [hpf] at hk
              have ek : a.block = k := by simpa [Value.ownBlock] using hk
              intro hm
              rcases List.mem_cons.1 hm with e | e
              · exact h.apF a hpf (by rw [ek, e])
              · simp at e
                obtain ⟨q, hq, e⟩ := e
                exact h.apart q a hq hpf (by rw [e, ek])
          have hb2 := Bd.given (X := X ++ [none]) (F := []) (cx := c) rfl (by rw [hl]; exact hbc) (by rw [hl]; exact hG.own) hF2 hb h0 hP.1 h.base hne h.apF hap2 hr z2
          have hb3 := hb2.lay X.length x
          rw [← hw] at hb3
          have hheld : ∀ c, c < 256 → heldA (upd A b (X.length + 1)) ((X ++ [none]).set X.length x) c = updF f b (some x) c :=
            held_upd (fun c hc => (held_app h.plc c hc).trans (hf c hc)) x (by omega) hP.2
          refine Or.inr ⟨fun hh => by omega, he, X.length + 1, fpOf g (some ⟨bx, 0, none⟩) pf, ⟨_, _, _, _, _, _, _, hb3, hheld, by rw [List.length_set, hl], rfl⟩, ?_, ?_, ?_⟩
          · rw [hw]
            refine Exc.set' (p := ⟨bx, X.length, none⟩) (((((Exc.refl _ w).drewN z).trans hE).set (p := ⟨g, 2 + b, none⟩) (fp_g _ _ _) _).set (p := ⟨g, 1, none⟩) (fp_g _ _ _) _ |>.drewN z2) ?_ _
            rcases hbx with e | e
            · left; rw [e]; exact fp_x g ⟨bx, 0, none⟩ pf
            · right; exact e
          · intro k hk
            unfold fpOf at hk ⊢
            simp at hk ⊢
            rcases hk with e | e | e
            · exact Or.inl (Or.inl e)
            · rcases hbx with q | q
              · left; right; left; exact ⟨_, q, e.symm⟩
              · right; omega
            · exact Or.inl (Or.inr (Or.inr e))
          · rw [← cnt_held _ _ _ hheld, cnt_new hb h0 (by omega)]
            omega
      · rw [List.concat_eq_append] at hF
        subst hF
        have hr := h.rooms
        obtain ⟨i1, i2, i3⟩ := h.plc.free i (by simp)
        obtain ⟨j, rfl⟩ : ∃ j, i = j + 1 := ⟨i - 1, by omega⟩
        have hP := h.plc.give hb h0 hn
        rcases h.ownX.2 with ⟨e, e2⟩ | ⟨bx, capx, curx, e, _⟩
        · omega
        cases e
        rcases h.ownF.2 with ⟨e, e2⟩ | ⟨bf, capf, curf, e, _, _, hcf, _⟩
        · simp at e2
        have hlen : (F' ++ [j + 1]).length = F'.length + 1 := by simp
        have hown := h.ownF
        have hblk := h.blk
        rw [hlen] at hown hblk e hcf
        cases e
        have hm1 : F'.length ≤ 65535 := by have := h.plc.sum; rw [hlen] at this; omega
        have hci := hown.cellAt F'.length (by omega)
        have hci' : w.cell? ⟨bf, F'.length, none⟩ = some (.int .u16 ((j : Int) + 1)) := by
          rw [hci, List.getElem?_map]; simp
        have hc := h.ownX.cellAt j (by omega)
        rw [List.getElem?_map, List.getElem?_eq_getElem (show j < X.length by omega)] at hc
        have hne : bx ≠ g := h.apX _ rfl
        have hnf : bf ≠ g := h.apF _ rfl
        have hxf : bx ≠ bf := h.apart _ _ rfl rfl
        refine (set14_new g room (cntA A) b j x A _ _ w h.blk hr.1 hb h0 hn hr.2 (by omega)
          (fun W W' bx' m c vf' => W' = W.setCell ⟨g, 259, none⟩ (.slice (some ⟨bf, 0, none⟩) F'.length cf) ∧ vf' = .slice (some ⟨bf, 0, none⟩) F'.length cf ∧ bx' = bx ∧ m = X.length ∧ c = cx) ?_).mono ?_
        · intro z
          refine (place53_free g room (cntA A) F'.length cf j bf A _ (w.drewN z) hblk hm1 hcf hci').mono ?_
          rintro e w' ⟨he, hw⟩
          have hv : Var w' bx j (.pointer (X[j]'(by omega))) := by
            rw [hw]
            exact Var.other (w := w.drewN z) ⟨hc, h.ownX.frozenAt j⟩ hne
          refine ⟨he, bx, X.length, cx, .slice (some ⟨bf, 0, none⟩) F'.length cf, by rw [hw]; exact Bc.setF hblk _, hne, by omega, hmost, ⟨_, hv⟩, hw, rfl, rfl, rfl, rfl⟩
        · rintro e w' ⟨he, z, w2, bx', m, c, vf', z2, hbc, hne', ⟨hw2, rfl, rfl, rfl, rfl⟩, hw⟩
          have kx : (Value.slice (some ⟨bx', 0, none⟩) X.length c).ownBlock ≠ some g := by simpa [Value.ownBlock] using hne
          have kf : (Value.slice (some ⟨bf, 0, none⟩) F'.length cf).ownBlock ≠ some g := by simpa [Value.ownBlock] using hnf
          have oX : w2.ownsRow base 48 1 (.slice (some ⟨bx', 0, none⟩) X.length c) X.length (X.map Value.pointer) := by
            rw [hw2]; exact own_set (w := w.drewN z) (a := ⟨g, 259, none⟩) h.ownX kx
          have oF : w2.ownsRow base 197 1 (.slice (some ⟨bf, 0, none⟩) F'.length cf) F'.length (F'.map fun i : Nat => Value.int .u16 (i : Int)) := by
            rw [hw2]
            have := own_take hown
            rw [← List.map_take, List.take_left' rfl] at this
            exact own_set (w := w.drewN z) (a := ⟨g, 259, none⟩) this kf
          have hb2 := Bd.given rfl hbc oX oF hb h0 hP.1 h.base hne h.apF (fun k hk => by cases hk; exact hxf) hr z2
          have hb3 := hb2.lay j x
          rw [← hw] at hb3
          have hheld : ∀ c, c < 256 → heldA (upd A b (j + 1)) (X.set j x) c = updF f b (some x) c := held_upd hf x hP.2.1 hP.2.2
          refine Or.inr ⟨fun hh => by omega, he, X.length, fpOf g (some ⟨bx', 0, none⟩) (some ⟨bf, 0, none⟩), ⟨_, _, _, _, _, _, _, hb3, hheld, List.length_set, rfl⟩, ?_, fun k hk => Or.inl hk, by omega⟩
          rw [hw, hw2]
          exact ((((((Exc.refl _ w).drewN z).set (p := ⟨g, 259, none⟩) (fp_g _ _ _) _).set (p := ⟨g, 2 + b, none⟩) (fp_g _ _ _) _).set (p := ⟨g, 1, none⟩) (fp_g _ _ _) _).drewN z2).set (p := ⟨bx', j, none⟩) (fp_x g ⟨bx', 0, none⟩ _) _
  · obtain ⟨j, hj⟩ : ∃ j, A b = j + 1 := ⟨A b - 1, by omega⟩
    have hle := h.plc.le b hb
    rcases h.ownX.2 with ⟨e, e2⟩ | ⟨bx, cap, cur, e, _⟩
    · omega
    · cases e
      have hc := h.ownX.cellAt j (by omega)
      rw [List.getElem?_map, List.getElem?_eq_getElem (show j < X.length by omega)] at hc
      have hv : Var w bx j (.pointer (X[j]'(by omega))) := ⟨hc, h.ownX.frozenAt j⟩
      refine (set14_old g room _ b j X.length cx bx x _ A _ w h.blk h.rooms.1 hb hj (by omega) hmost hv (h.apX _ rfl)).mono ?_
      rintro e w' ⟨he, z, hw⟩
      have hfn : f b ≠ none := by rw [← hf b hb]; unfold heldA; rw [if_neg h0]; simp
      refine Or.inr ⟨fun hh => hfn hh.1, he, X.length, fpOf g (some ⟨bx, 0, none⟩) pf, ⟨A, X.set j x, F, _, cx, pf, cf, by rw [hw]; exact (h.drewN z).lay j x, ?_, List.length_set, rfl⟩, ?_, fun k hk => Or.inl hk, by omega⟩
      · intro c hc
        rw [heldA_set b j x hj (by omega) (h.plc.inj1 hb hj) c hc]
        unfold updF
        by_cases e : c = b
        · rw [if_pos e, if_pos e]
        · rw [if_neg e, if_neg e, hf c hc]
      · rw [hw]
        exact ((Exc.refl _ w).drewN z).set (p := ⟨bx, j, none⟩) (fp_x g ⟨bx, 0, none⟩ pf) _

end Go.Proofs.YtbihlmkjoplkoaaGreatDoor
