/-
  For the statement TopOwners: The board: Copy; The board as a whole: what Copy leaves.
-/
import Derived.Test.YtbihlmkjoplkoaaGreatDoorM07
/-
  The board: Copy.
-/
namespace Go.Proofs.YtbihlmkjoplkoaaGreatDoor
open Go.RowKit
set_option linter.unusedVariables false

theorem wpList_store_new {w : World} {ops : Array Oper} {rest : List Oper} {o : Oper} {a : Act} {Q : Exit → Act → World → Prop} (hgd : o.guard = none) (ty : TypeId) (x y : Operand) (ho : o.op = .store ty x y)
    (c c' : Array Value) (hx : a.eval x = .pointer (some ⟨w.heap.size, 0, none⟩)) (hy : a.eval y = .agg c') (hi : (Tryz.prog.info? ty).map (·.size) = some c'.size) (hs : c.size = c'.size) (h1 : c'.all (·.oneCell') = true)
    (h : wpList Tryz.prog ops Q rest (a.put o.dst undef) (w.alloc (.cells c' ty))) : wpList Tryz.prog ops Q (o :: rest) a (w.alloc (.cells c ty)) := by
  refine wpList_plain hgd fun K hK => ?_
  unfold Oper.wp execOp
  simp only [ho, hx, hy, Instr.storeAt, Instr.sureAddr, Sem.run_bind, Sem.run_pure, Result.andThen_ok, run_storeVar_new w ty c c' hi hs h1]
  exact hK _ _ h

theorem size202 : (Tryz.prog.info? 202).map (·.size) = some 260 := by kernel_rfl

set_option maxRecDepth 100000 in
set_option maxHeartbeats 1600000 in
theorem copy15 (g room n m cx cf base : Nat) (px pf : Option Addr) (xs ys : List Value) (cs : Array Value) (w : World) (hg : w.heap[g]? = some (.cells cs 202 (0, 0))) (hs : cs.size = 260) (hr : w.cell? ⟨g, 0, none⟩ = some (.int .i64 room)) (h0 : 0 < room) (h1 : cs.all (·.oneCell') = true)
    (hx : w.cell? ⟨g, 258, none⟩ = some (.slice px n cx)) (hf : w.cell? ⟨g, 259, none⟩ = some (.slice pf m cf)) (ha : cs[258]? = some (.slice px n cx)) (hb : cs[259]? = some (.slice pf m cf))
    (H54 : Hid (∀ W, Below (w.heap.size + 1) (w.alloc (.cells cs 202)) W → Calls Tryz.prog 186 #[.slice px n cx] W fun e w' => ∃ q d, e = .returned (.slice q n d) ∧ ClR W w' base 48 q n d xs ∧ Below (w.heap.size + 1) (w.alloc (.cells cs 202)) w'))
    (H55 : Hid (∀ W, Below (w.heap.size + 1) (w.alloc (.cells cs 202)) W → Calls Tryz.prog 187 #[.slice pf m cf] W fun e w' => ∃ q d, e = .returned (.slice q m d) ∧ ClR W w' base 197 q m d ys ∧ Below (w.heap.size + 1) (w.alloc (.cells cs 202)) w')) :
    Calls Tryz.prog 166 #[.pointer (some ⟨g, 0, none⟩)] w fun e w' => e = .returned (.pointer (some ⟨w.heap.size, 0, none⟩)) ∧
      ∃ w1 W1 w2 w3 q d q2 d2, w1 = w.alloc (.cells cs 202) ∧ Below (w.heap.size + 1) w1 W1 ∧ ClR W1 w2 base 48 q n d xs ∧ ClR w2 w3 base 197 q2 m d2 ys ∧ Below (w.heap.size + 1) w1 w3 ∧
        w' = (w3.setCell ⟨w.heap.size, 258, none⟩ (.slice q n d)).setCell ⟨w.heap.size, 259, none⟩ (.slice q2 m d2) := by
  have H := Lib.hid (ok52 g room w hr h0)
  have hnot : ∀ (x : Bool) (w : World), (Op.unary .not (.bool x)).run Tryz.prog w = .ok (.bool (!x)) w := fun _ _ => rfl
  have hi : (Tryz.prog.info? 202).map (·.size) = some cs.size := by rw [hs]; exact size202
  have HG := Lib.hid hg
  have HI := Lib.hid hi
  have H1 := Lib.hid h1
  have hgl : g < w.heap.size := block_lt_of_cell hx
  have hgn : ¬ g = w.heap.size := by omega
  clear hi hg h1
  go_enter Tryz.func166, Tryz.ntmps166
  go_wp2_with fail
  refine H.out.mono ?_; rintro e w' ⟨rfl, rfl⟩
  go_wp2_with (refine wpList_load_row rfl 202 _ (by rfl) g (by rfl) 202 cs (0, 0) _ HG.out Tryz.underlying202 rfl HI.out ?_; refine stop ?_)
  refine unhid ?_
  go_wp2_with (refine wpList_store_new rfl 202 _ _ (by rfl) Tryz.zeroCells202 cs (by rfl) (by rfl) HI.out (by rw [hs]; exact zero_size 256 rfl) H1.out ?_; refine stop ?_)
  refine unhid ?_
  obtain ⟨w1, hw1⟩ : ∃ w1, w1 = w'.alloc (.cells cs 202) := ⟨_, rfl⟩
  rw [← hw1] at H54 H55 ⊢
  have c1 : w1.cell? ⟨g, 258, none⟩ = some (.slice px n cx) := by rw [hw1, World.cell?_alloc_past _ _ _ hgl]; exact hx
  have c2 : w1.cell? ⟨g, 259, none⟩ = some (.slice pf m cf) := by rw [hw1, World.cell?_alloc_past _ _ _ hgl]; exact hf
  have k1 : Var w1 w'.heap.size 258 (.slice px n cx) := by rw [hw1]; exact Var.new rfl ha
  have k2 : Var w1 w'.heap.size 259 (.slice pf m cf) := by rw [hw1]; exact Var.new rfl hb
  have hs1 : w'.heap.size + 1 ≤ w1.heap.size := by rw [hw1, World.size_alloc]; omega
  have HW1 := Lib.hid hw1
  have K1 := Lib.hid k1
  have K2 := Lib.hid k2
  clear hw1 k1 k2 hx hf ha hb hr HG
  go_wp2_with fail
  go_region_held3 (fun W => W.cell? ⟨g, 258, none⟩ = some (.slice px n cx) ∧ W.cell? ⟨g, 259, none⟩ = some (.slice pf m cf))
    (first
      | go_keep
      | (exact ⟨(hbA.cell (p := ⟨g, 258, none⟩) (Nat.lt_succ_of_lt hgl)).trans c1, (hbA.cell (p := ⟨g, 259, none⟩) (Nat.lt_succ_of_lt hgl)).trans c2⟩)
      | (exact ⟨(hbB.cell (p := ⟨g, 258, none⟩) (Nat.lt_succ_of_lt hgl)).trans c1, (hbB.cell (p := ⟨g, 259, none⟩) (Nat.lt_succ_of_lt hgl)).trans c2⟩)
      | (exact ⟨set_keep ((hbB.cell (p := ⟨g, 258, none⟩) (Nat.lt_succ_of_lt hgl)).trans c1) hgn, set_keep ((hbB.cell (p := ⟨g, 259, none⟩) (Nat.lt_succ_of_lt hgl)).trans c2) hgn⟩)
      | (exact ⟨set_keep (set_keep ((hbB.cell (p := ⟨g, 258, none⟩) (Nat.lt_succ_of_lt hgl)).trans c1) hgn) hgn, set_keep (set_keep ((hbB.cell (p := ⟨g, 259, none⟩) (Nat.lt_succ_of_lt hgl)).trans c2) hgn) hgn⟩))
    (first
     | (go_at_call 186; refine (H54.out _ (by first | (exact Below.refl _ _) | (exact below_drewN (Below.refl _ _) _))).mono ?_; rintro e w2 ⟨q, d, rfl, hc1, hbA⟩)
     | (go_at_call 187; refine (H55.out _ (by first | (exact hbA) | (exact below_drewN hbA _))).mono ?_; rintro e w3 ⟨q2, d2, rfl, hc2, hbB⟩; have v1 := K1.out.below hbB (Nat.lt_succ_self _); have v2 := K2.out.below hbB (Nat.lt_succ_self _); have x1 := v1.cell; have x2 := v1.free; have x3 := v2.cell; have x4 := v2.free; clear v1 v2))
  go_wp2_with fail
  go_returns
  exact ⟨rfl, w1, w1.drew, w2, w3, q, d, q2, d2, HW1.out, below_drewN (Below.refl _ w1) 1, hc1, hc2, hbB, rfl⟩

end Go.Proofs.YtbihlmkjoplkoaaGreatDoor
/-
  The board as a whole: what Copy leaves.
-/
namespace Go.Proofs.YtbihlmkjoplkoaaGreatDoor
open Go.RowKit
set_option linter.unusedVariables false

theorem cells_one {cs : Array Value} {room n : Nat} {A : Nat → Nat} {px pf : Option Addr} {m cx k cf : Nat} (hs : cs.size = 260) (h0 : cs[0]? = some (.int .i64 room)) (h1 : cs[1]? = some (.int .i64 n))
    (hA : ∀ b, b < 256 → cs[2 + b]? = some (.int .u16 (A b))) (hx : cs[258]? = some (.slice px m cx)) (hf : cs[259]? = some (.slice pf k cf)) : cs.all (·.oneCell') = true := by
  rw [Array.all_eq_true]
  intro i hi
  have e : cs[i]? = some cs[i] := Array.getElem?_eq_getElem hi
  by_cases c0 : i = 0
  · subst c0; rw [h0] at e; injection e with e; rw [← e]; rfl
  by_cases c1 : i = 1
  · subst c1; rw [h1] at e; injection e with e; rw [← e]; rfl
  by_cases c2 : i = 258
  · subst c2; rw [hx] at e; injection e with e; rw [← e]; rfl
  by_cases c3 : i = 259
  · subst c3; rw [hf] at e; injection e with e; rw [← e]; rfl
  · have := hA (i - 2) (by omega)
    rw [show 2 + (i - 2) = i by omega] at this
    rw [this] at e; injection e with e; rw [← e]; rfl

theorem own_below {w w' : World} {base e n B : Nat} {v : Value} {xs : List Value} {sz : Nat} (h : w.ownsRow base e sz v n xs) (k : Below B w w') (hB : ∀ b, v.ownBlock = some b → b < B) : w'.ownsRow base e sz v n xs :=
  own_block h fun b hb => k.block b (hB b hb)

theorem one_i64 (X : List Th) : ∀ u ∈ X.map Value.pointer, u.oneCell' = true := by
  intro u hu; obtain ⟨x, _, rfl⟩ := List.mem_map.1 hu; rfl
theorem one_u16 (F : List Nat) : ∀ u ∈ (F.map fun i : Nat => Value.int .u16 (i : Int)), u.oneCell' = true := by
  intro u hu; obtain ⟨x, _, rfl⟩ := List.mem_map.1 hu; rfl

theorem copyE {w : World} {base g room : Nat} {f : Nat → Option Th} {U : Nat} {fp : List Nat} (h : BdE w base g room f U fp) (hbase : base ≤ w.heap.size) :
    Calls Tryz.prog 166 #[.pointer (some ⟨g, 0, none⟩)] w fun e w' => e = .returned (.pointer (some ⟨w.heap.size, 0, none⟩)) ∧ Below w.heap.size w w' ∧ ∃ fp', BdE w' base w.heap.size room f U fp' ∧ ∀ k ∈ fp', w.heap.size ≤ k := by
  obtain ⟨A, X, F, px, cx, pf, cf, h, hf, rfl, rfl⟩ := h
  obtain ⟨cs, hg, hs, h0, h1, hA, hx, hf'⟩ := h.blk
  have hm := h.plc.most
  have hsum := h.plc.sum
  have hsz := World.size_alloc w (.cells cs 202)
  have lX := own_lt h.ownX
  have lF := own_lt h.ownF
  have hB1 : Below w.heap.size w (w.alloc (.cells cs 202)) := (Below.refl _ _).alloc (Nat.le_refl _) _
  refine (copy15 g room X.length F.length cx cf base px pf (X.map Value.pointer) (F.map fun i : Nat => Value.int .u16 (i : Int)) cs w hg hs h.blk.vRoom.cell h.rooms.1 (cells_one hs h0 h1 hA hx hf') h.blk.x.cell h.blk.f.cell hx hf' ?_ ?_).mono ?_
  · intro W hW
    have hw : Below w.heap.size w W := hB1.trans (hW.mono (Nat.le_succ _))
    have hz := hW.size
    refine (clone54 base X.length cx px _ W (own_below h.ownX hw (fun b hb => (lX b hb).2)) (by omega) (by omega) (one_i64 X)).mono ?_
    rintro e w' ⟨q, d, he, hc⟩
    exact ⟨q, d, he, hc, hW.trans (hc.below.mono (by omega))⟩
  · intro W hW
    have hw : Below w.heap.size w W := hB1.trans (hW.mono (Nat.le_succ _))
    have hz := hW.size
    refine (clone55 base F.length cf pf _ W (own_below h.ownF hw (fun b hb => (lF b hb).2)) (by omega) (by omega) (one_u16 F)).mono ?_
    rintro e w' ⟨q, d, he, hc⟩
    exact ⟨q, d, he, hc, hW.trans (hc.below.mono (by omega))⟩
  · rintro e w' ⟨he, w1, W1, w2, w3, q, d, q2, d2, rfl, hW1, hc1, hc2, hB3, hw⟩
    have z1 := hW1.size
    have z2 := hc1.below.size
    have z3 := hc2.below.size
    have bq : ∀ a, q = some a → w.heap.size < a.block ∧ a.block < w2.heap.size := fun a ha => by
      have := hc1.new a ha
      have := (own_lt hc1.own a.block (by rw [ha]; rfl)).2
      omega
    have bq2 : ∀ a, q2 = some a → w2.heap.size ≤ a.block := fun a ha => hc2.new a ha
    have oX3 : w3.ownsRow base 48 1 (.slice q X.length d) X.length (X.map Value.pointer) := own_below hc1.own hc2.below (fun b hb => (own_lt hc1.own b hb).2)
    have kx : (Value.slice q X.length d).ownBlock ≠ some w.heap.size := fun e => by
      cases q with
      | none => cases e
      | some a =>
        have := (bq a rfl).1
        have e' : a.block = w.heap.size := by simpa [Value.ownBlock] using e
        omega
    have kf : (Value.slice q2 F.length d2).ownBlock ≠ some w.heap.size := fun e => by
      cases q2 with
      | none => cases e
      | some a =>
        have := bq2 a rfl
        have e' : a.block = w.heap.size := by simpa [Value.ownBlock] using e
        omega
    have bc1 : Bc (w.alloc (.cells cs 202)) w.heap.size room (cntA A) A (.slice px X.length cx) (.slice pf F.length cf) := ⟨cs, heap_alloc_new w _, hs, h0, h1, hA, hx, hf'⟩
    have bc3 : Bc w3 w.heap.size room (cntA A) A (.slice px X.length cx) (.slice pf F.length cf) := bc1.same (hB3.block _ (Nat.lt_succ_self _))
    refine ⟨he, ?_, fpOf w.heap.size q q2, ⟨A, X, F, q, d, q2, d2, ⟨?_, ?_, ?_, h.plc, hbase, ?_, ?_, ?_, h.rooms⟩, hf, rfl, rfl⟩, ?_⟩
    · rw [hw]
      exact ((hB1.trans (hB3.mono (Nat.le_succ _))).setCell (p := ⟨w.heap.size, 258, none⟩) (Nat.le_refl _) _).setCell (p := ⟨w.heap.size, 259, none⟩) (Nat.le_refl _) _
    · rw [hw]; exact (bc3.setX _).setF _
    · rw [hw]; exact own_set (a := ⟨w.heap.size, 259, none⟩) (own_set (a := ⟨w.heap.size, 258, none⟩) oX3 kx) kx
    · rw [hw]; exact own_set (a := ⟨w.heap.size, 259, none⟩) (own_set (a := ⟨w.heap.size, 258, none⟩) hc2.own kf) kf
    · intro a ha; have := (bq a ha).1; omega
    · intro a ha; have := bq2 a ha; omega
    · intro a c ha hc; have := (bq a ha).2; have := bq2 c hc; omega
    · intro k hk
      unfold fpOf at hk
      simp at hk
      rcases hk with rfl | ⟨a, ha, rfl⟩ | ⟨a, ha, rfl⟩
      · exact Nat.le_refl _
      · have := (bq a ha).1; omega
      · have := bq2 a ha; omega

theorem BdE.keep {w w' : World} {base g room : Nat} {f : Nat → Option Th} {U : Nat} {fp S : List Nat} (h : BdE w base g room f U fp) (k : Exc S w w') (hS : ∀ x ∈ fp, x ∉ S) : BdE w' base g room f U fp := by
  obtain ⟨A, X, F, px, cx, pf, cf, h, hf, e1, rfl⟩ := h
  have hl := h.fp_lt
  refine ⟨A, X, F, px, cx, pf, cf, ⟨h.blk.same (k.block g (hl g (fp_g _ _ _)).2 (hS g (fp_g _ _ _))), own_exc h.ownX k (fun b hb => ?_), own_exc h.ownF k (fun b hb => ?_), h.plc, h.base, h.apX, h.apF, h.apart, h.rooms⟩, hf, e1, rfl⟩
  · cases px with
    | none => cases hb
    | some a =>
      have e : a.block = b := by simpa [Value.ownBlock] using hb
      rw [← e]; exact hS _ (fp_x _ _ _)
  · cases pf with
    | none => cases hb
    | some a =>
      have e : a.block = b := by simpa [Value.ownBlock] using hb
      rw [← e]; exact hS _ (fp_f _ _ _)
theorem BdE.fp_lt {w : World} {base g room : Nat} {f : Nat → Option Th} {U : Nat} {fp : List Nat} (h : BdE w base g room f U fp) : ∀ k ∈ fp, base ≤ k ∧ k < w.heap.size := by
  obtain ⟨A, X, F, px, cx, pf, cf, h, hf, e1, rfl⟩ := h
  exact h.fp_lt
theorem BdE.step {w w' : World} {base g room : Nat} {f : Nat → Option Th} {U : Nat} {fp : List Nat} (h : BdE w base g room f U fp) (k : Below w.heap.size w w') : BdE w' base g room f U fp :=
  h.keep (S := []) (Exc.ofBelow k []) (by simp)

end Go.Proofs.YtbihlmkjoplkoaaGreatDoor
