/-
  What the walk of HandlePlays knows between two steps.
-/
import Derived.Test.YtenmgjmbiamhcaaAs15
namespace Go.Proofs.Ytenmgjmbiamhcaa
open Go.RowKit
set_option linter.unusedVariables false

theorem cntB_out (hs : List Bool) (i m : Nat) (b : Bool) (h : m ≤ i) : cntB (hs.set i b) m = cntB hs m := by
  unfold cntB
  rw [List.take_set_of_le h]
theorem cntB_set (hs : List Bool) (i : Nat) (hi : hs[i]? = some true) : ∀ m, i < m → m ≤ hs.length → cntB (hs.set i false) m + 1 = cntB hs m
  | 0, h, _ => absurd h (Nat.not_lt_zero _)
  | m + 1, h, hm => by
    obtain ⟨b, hb⟩ : ∃ b, hs[m]? = some b := ⟨hs[m]'(by omega), List.getElem?_eq_getElem (by omega)⟩
    by_cases e : i = m
    · subst e
      rw [hi] at hb; cases hb
      rw [cntB_succ hs i true hi, cntB_succ (hs.set i false) i false (by rw [List.getElem?_set]; simp; omega), cntB_out hs i i false (Nat.le_refl _)]
      simp
    · have h2 : (hs.set i false)[m]? = some b := by rw [List.getElem?_set, if_neg e]; exact hb
      have ih := cntB_set hs i hi m (by omega) (by omega)
      rw [cntB_succ hs m b hb, cntB_succ _ m b h2, ← ih]
      omega
theorem cntB_more (hs : List Bool) (m : Nat) (h : hs.length = m) : cntB (hs ++ [true]) (m + 1) = cntB hs m + 1 := by
  rw [cntB_succ (hs ++ [true]) m true (by rw [List.getElem?_append_right (by omega)]; simp [h])]
  unfold cntB
  rw [List.take_append_of_le_length (by omega)]
  simp

/-- the table, the document's table, and its variable -/
structure Pl3 (w wr : World) (base g bm b7 rm : Nat) (lt : Nat) (D : DataW Unit) (f : Int → Option Int) (n : Nat) (m : Nat) (ph : Option Addr) (ch : Nat) (pa : Option Addr) (ca : Nat) (hs : List Bool) (xs : List Int) (f2 : Int → Option Int) : Prop where
  tb : Tb wr g bm rm lt D f n
  rt : Rt wr base ph ch pa ca m hs xs f2
  box : wr.heap[b7]? = some (.cells #[.int .i64 rm, .slice ph m ch, .slice pa m ca] 30 (0, 0))
  below : Below w.heap.size w wr
  gl : g < base
  bl : bm < base
  sl : b7 < base
  gw : w.heap.size ≤ g
  bw : w.heap.size ≤ bm
  sw : w.heap.size ≤ b7
  n1 : b7 ≠ g
  n2 : b7 ≠ bm

section
variable {w wr w' : World} {base g bm b7 rm lt n m ch ca : Nat} {D : DataW Unit} {f f2 : Int → Option Int} {ph pa : Option Addr} {hs : List Bool} {xs : List Int}

theorem Pl3.step (h : Pl3 w wr base g bm b7 rm lt D f n m ph ch pa ca hs xs f2) (k : Below wr.heap.size wr w') : Pl3 w w' base g bm b7 rm lt D f n m ph ch pa ca hs xs f2 :=
  ⟨h.tb.step k, h.rt.step k, (k.block b7 (blk_lt h.box)).trans h.box, Below.step h.below k, h.gl, h.bl, h.sl, h.gw, h.bw, h.sw, h.n1, h.n2⟩
theorem Pl3.drewN (h : Pl3 w wr base g bm b7 rm lt D f n m ph ch pa ca hs xs f2) (z : Nat) : Pl3 w (wr.drewN z) base g bm b7 rm lt D f n m ph ch pa ca hs xs f2 :=
  h.step (below_drewN (Below.refl _ _) z)
/-- the table has turned -/
theorem Pl3.turn (h : Pl3 w wr base g bm b7 rm lt D f n m ph ch pa ca hs xs f2) {lt' n' : Nat} {D' : DataW Unit} {f' : Int → Option Int} (ht : Tb w' g bm rm lt' D' f' n') (hX : Exc [g, bm] wr w') : Pl3 w w' base g bm b7 rm lt' D' f' n' m ph ch pa ca hs xs f2 := by
  have h1 := h.gl
  have h2 := h.bl
  have h3 := h.gw
  have h4 := h.bw
  have hz := hX.size
  refine ⟨ht, ⟨own_exc h.rt.ownH hX (fun q hq hm => ?_), own_exc h.rt.ownA hX (fun q hq hm => ?_), h.rt.small, Nat.le_trans h.rt.fits hz, h.rt.hit, h.rt.out⟩, (hX.block b7 (blk_lt h.box) (fun hm => ?_)).trans h.box, hX.below h.below (fun x hx => ?_) h.below.size, h1, h2, h.sl, h3, h4, h.sw, h.n1, h.n2⟩
  · have := (own_lt h.rt.ownH q hq).1
    simp at hm; omega
  · have := (own_lt h.rt.ownA q hq).1
    simp at hm; omega
  · have := h.n1
    have := h.n2
    simp at hm; omega
  · simp at hx; omega
/-- the document's table has turned, and is kept in its variable -/
theorem Pl3.doc (h : Pl3 w wr base g bm b7 rm lt D f n m ph ch pa ca hs xs f2) {m' ch' ca' : Nat} {ph' pa' : Option Addr} {hs' : List Bool} {xs' : List Int} {f2' : Int → Option Int} (k : Below base wr w') (r : Rt w' base ph' ch' pa' ca' m' hs' xs' f2') :
    Pl3 w (((w'.setCell ⟨b7, 0, none⟩ (.int .i64 rm)).setCell ⟨b7, 1, none⟩ (.slice ph' m' ch')).setCell ⟨b7, 2, none⟩ (.slice pa' m' ca')) base g bm b7 rm lt D f n m' ph' ch' pa' ca' hs' xs' f2' := by
  have h1 := h.gl
  have h2 := h.bl
  have h3 := h.sl
  have hbx := (k.block b7 h3).trans h.box
  have e : ∀ q, q ≠ b7 → (((w'.setCell ⟨b7, 0, none⟩ (.int .i64 rm)).setCell ⟨b7, 1, none⟩ (.slice ph' m' ch')).setCell ⟨b7, 2, none⟩ (.slice pa' m' ca')).heap[q]? = w'.heap[q]? := fun q hq => by
    rw [heap_setCell_other _ _ _ _ (fun e => hq e), heap_setCell_other _ _ _ _ (fun e => hq e), heap_setCell_other _ _ _ _ (fun e => hq e)]
  have hw : w.heap.size ≤ base := by have := h.gw; omega
  refine ⟨⟨((e g (Ne.symm h.n1)).trans (k.block g h1)).trans h.tb.row, h.tb.map.same ((e bm (Ne.symm h.n2)).trans (k.block bm h2)), h.tb.ne, h.tb.room1, h.tb.room2, h.tb.le, h.tb.low⟩,
    ⟨own_block r.ownH (fun q hq => e q (by have := (own_lt r.ownH q hq).1; omega)), own_block r.ownA (fun q hq => e q (by have := (own_lt r.ownA q hq).1; omega)), r.small, by rw [World.size_setCell, World.size_setCell, World.size_setCell]; exact r.fits, r.hit, r.out⟩,
    row3 hbx, ((((h.below.trans (k.mono hw)).setCell (p := ⟨b7, 0, none⟩) h.sw _).setCell (p := ⟨b7, 1, none⟩) h.sw _).setCell (p := ⟨b7, 2, none⟩) h.sw _), h1, h2, h3, h.gw, h.bw, h.sw, h.n1, h.n2⟩
theorem Pl3.c0 (h : Pl3 w wr base g bm b7 rm lt D f n m ph ch pa ca hs xs f2) : wr.cell? ⟨b7, 0, none⟩ = some (.int .i64 rm) := cell_of_row _ _ _ _ _ _ h.box
theorem Pl3.c1 (h : Pl3 w wr base g bm b7 rm lt D f n m ph ch pa ca hs xs f2) : wr.cell? ⟨b7, 1, none⟩ = some (.slice ph m ch) := cell_of_row _ _ _ _ _ _ h.box
theorem Pl3.c2 (h : Pl3 w wr base g bm b7 rm lt D f n m ph ch pa ca hs xs f2) : wr.cell? ⟨b7, 2, none⟩ = some (.slice pa m ca) := cell_of_row _ _ _ _ _ _ h.box
theorem Pl3.z (h : Pl3 w wr base g bm b7 rm lt D f n m ph ch pa ca hs xs f2) (j : Nat) : wr.frozen? ⟨b7, j, none⟩ = false := frozen_of_row _ _ _ _ _ h.box
end

/-- a row of three cells that stands in w stands in w', if b is no block of those that turn -/
theorem keep_row {w w' : World} {b base : Nat} {o : Obj} (h : w.heap[b]? = some o) (k : Below base w w') (hb : b < base) : w'.heap[b]? = some o := (k.block b hb).trans h

end Go.Proofs.Ytenmgjmbiamhcaa
