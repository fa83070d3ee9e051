/-
  What a board and the document's row tell alike; what the walk of WidePlays knows between two calls.
-/
import Derived.Test.YthohpeinmkdfeaaAs31
namespace Go.Proofs.Ythohpeinmkdfeaa
open Go.RowKit
set_option linter.unusedVariables false

theorem new27_yes (rm : Nat) (w : World) (h : rm = 48 ∨ rm = 256) : Calls Try.prog 27 #[.int .i64 rm] w (OutRow w rm (fun _ => none) 0) := by
  rcases h with rfl | rfl
  · exact new27_48 _ w rfl
  · exact new27_256 _ w rfl

theorem wpList_wanted {P : Program} {ops : Array Oper} {rest : List Oper} {o : Oper} {a : Act} {w : World} {Q : Exit → Act → World → Prop} (hw : Region.wanted o (yielded ops a.tmps) = true)
    (h : ∀ K : Act → World → Prop, (∀ a w, wpList P ops Q rest a w → K a w) → o.wp P a w K Q) : wpList P ops Q (o :: rest) a w :=
  wpList_step fun K hK => by rw [if_pos hw]; exact h K hK

theorem wpList_load72 {ops : Array Oper} {rest : List Oper} {o : Oper} {a : Act} {w : World} {Q : Exit → Act → World → Prop} (hw : Region.wanted o (yielded ops a.tmps) = true) (x : Operand) (ho : o.op = .load 72 x)
    (g : Nat) (hx : a.eval x = .pointer (some ⟨g, 0, none⟩)) (cs : Array Value) (hg : w.heap[g]? = some (.cells cs 72 (0, 0))) (hs : cs.size = 513)
    (h : wpList Try.prog ops Q rest (a.put o.dst (.agg cs)) w) : wpList Try.prog ops Q (o :: rest) a w :=
  wpList_wanted hw fun _ hK => wp_load_row 72 x ho g hx 72 cs (0, 0) _ hg Try.underlying72 rfl (by rw [hs]; exact size72) (hK _ _ h)

theorem wpList_store72 {ops : Array Oper} {rest : List Oper} {o : Oper} {a : Act} {w : World} {Q : Exit → Act → World → Prop} (hgd : o.guard = none) (x y : Operand) (ho : o.op = .store 72 x y)
    (g : Nat) (cells : Array Value) (hx : a.eval x = .pointer (some ⟨g, 0, none⟩)) (hy : a.eval y = .agg cells) (old : Array Value) (hg : w.heap[g]? = some (.cells old 72 (0, 0))) (hs : cells.size = 513) (hold : old.size = 513)
    (h1 : cells.all (·.oneCell') = true) (h : wpList Try.prog ops Q rest (a.put o.dst undef) (w.setRow g cells)) : wpList Try.prog ops Q (o :: rest) a w :=
  wpList_store_row hgd 72 x y ho g cells hx hy 72 old hg (by rw [hs]; exact size72) (by rw [hold, hs]) h1 h

theorem wpList_max {w : World} {ops : Array Oper} {rest : List Oper} {o : Oper} {a : Act} {Q : Exit → Act → World → Prop} (hgd : o.guard = none) (s x : Operand) (t : TypeId)
    (ho : o.op = .call { callee := .builtin .max, args := #[s, x], argTypes := #[t, t] }) (n k m : Int) (hs : a.eval s = .int .i64 n) (hx : a.eval x = .int .i64 k) (hm : (if k > n then k else n) = m)
    (h : wpList Try.prog ops Q rest (a.put o.dst (.int .i64 m)) w) : wpList Try.prog ops Q (o :: rest) a w := by
  refine wpList_plain hgd fun K hK => ?_
  have hrun := run_max_int2 (P := Try.prog) (w := w) #[t, t] o.type .i64 .i64 n k
  rw [hm] at hrun
  unfold Oper.wp
  simp [execOp, ho, resolve, invoke, builtin, hs, hx, hrun, Result.andThen]
  exact hK _ _ h

/-- the board behind a call that may have turned it -/
structure Turned (w w' : World) (base g room : Nat) (f : Nat → Option Int) (U : Nat) (fp : List Nat) (U' : Nat) (fp' : List Nat) : Prop where
  bd : BdE w' base g room f U' fp'
  exc : Exc fp w w'
  fps : ∀ k ∈ fp', k ∈ fp ∨ w.heap.size ≤ k
  used : U' ≤ max U (cntF f)

/-- what Drop tells, by number -/
def NumD (f : Nat → Option Int) (b : Nat) (n : Int) : Prop := ((f b).isSome = true ∧ n = 0) ∨ ((f b).isSome = false ∧ n = 6)
/-- what Set tells, by number, and what is held then -/
def NumS (f : Nat → Option Int) (room : Int) (b : Nat) (x : Int) (n : Int) (f' : Nat → Option Int) : Prop :=
  ((f b).isSome = false ∧ (cntF f : Int) = room ∧ n = 10 ∧ f' = f) ∨ (¬ ((f b).isSome = false ∧ (cntF f : Int) = room) ∧ n = 0 ∧ f' = updF f b (some x))

theorem dropN {w : World} {base g room : Nat} {f : Nat → Option Int} {U : Nat} {fp : List Nat} (h : BdE w base g room f U fp) (hbase : base ≤ w.heap.size) (b : Nat) (hb : b < 256) :
    Calls Try.prog 13 #[.pointer (some ⟨g, 0, none⟩), .int .u8 b] w fun e w' => ∃ n U' fp', e = .returned (.int .i64 n) ∧ NumD f b n ∧ Turned w w' base g room (updF f b none) U fp U' fp' := by
  refine (dropBd h hbase b hb).mono ?_
  rintro e w' (⟨h1, h2, rfl⟩ | ⟨h1, h2, fp', h3, h4, h5⟩)
  · exact ⟨6, U, fp, h2, Or.inr ⟨by rw [h1]; rfl, rfl⟩, by rw [updF_none f b h1]; exact h, Exc.refl _ _, fun k hk => Or.inl hk, by omega⟩
  · refine ⟨0, U, fp', h2, Or.inl ⟨?_, rfl⟩, h3, h4, h5, by omega⟩
    cases hf : f b with
    | none => exact absurd hf h1
    | some x => rfl

theorem setN {w : World} {base g room : Nat} {f : Nat → Option Int} {U : Nat} {fp : List Nat} (h : BdE w base g room f U fp) (hbase : base ≤ w.heap.size) (b : Nat) (hb : b < 256) (x : Int) :
    Calls Try.prog 14 #[.pointer (some ⟨g, 0, none⟩), .int .u8 b, .int .i64 x] w fun e w' => ∃ n f' U' fp', e = .returned (.int .i64 n) ∧ NumS f room b x n f' ∧ Turned w w' base g room f' U fp U' fp' := by
  refine (setBd h hbase b hb x).mono ?_
  rintro e w' (⟨h1, h0, h2, z, rfl⟩ | ⟨h1, h2, U', fp', h3, h4, h5, h6⟩)
  · exact ⟨10, f, U, fp, h2, Or.inl ⟨by rw [h1]; rfl, by omega, rfl, rfl⟩, h.drewN z, (Exc.refl _ _).drewN z, fun k hk => Or.inl hk, by omega⟩
  · refine ⟨0, _, U', fp', h2, Or.inr ⟨fun hh => h1 ⟨?_, by omega⟩, rfl, rfl⟩, h3, h4, h5, h6⟩
    cases hf : f b with
    | none => rfl
    | some x => rw [hf] at hh; exact absurd hh.1 (by simp)

theorem drop28 (cs : Array Value) (room : Int) (f : Nat → Option Int) (b : Nat) (n : Int) (w : World) (h : Rf cs room f) (hb : b < 256) (hn : NumD f b n) :
    Calls Try.prog 28 #[.agg cs, .int .u8 b] w (OutRow w room (updF f b none) n) := by
  rcases hn with ⟨h1, rfl⟩ | ⟨h1, rfl⟩
  · exact drop28_yes cs room f b w h hb h1
  · exact drop28_no cs room f b w h hb h1

theorem set29 (cs : Array Value) (room : Int) (f f' : Nat → Option Int) (b : Nat) (x n : Int) (w : World) (h : Rf cs room f) (hb : b < 256) (hn : NumS f room b x n f') :
    Calls Try.prog 29 #[.agg cs, .int .u8 b, .int .i64 x] w (OutRow w room f' n) := by
  rcases hn with ⟨h1, h2, rfl, rfl⟩ | ⟨h1, rfl, rfl⟩
  · exact set29_full cs room f' b x w h hb h1 h2
  · cases hf : (f b).isSome with
    | true => exact set29_old cs room f b x w h hb hf
    | false => exact set29_new cs room f b x w h hb hf (fun e => h1 ⟨hf, e⟩)

/-- what the walk knows between two calls -/
structure Ply (w wr : World) (room b9 : Nat) (cs : Array Value) (f : Nat → Option Int) (U : Nat) (fp : List Nat) (most : Int) : Prop where
  bd : BdE wr w.heap.size w.heap.size room f U fp
  rf : Rf cs room f
  row : wr.heap[b9]? = some (.cells cs 72 (0, 0))
  far : b9 ∉ fp
  below : Below w.heap.size w wr
  old : w.heap.size < b9
  used : (U : Int) ≤ most

theorem lt_of_row {w : World} {g : Nat} {o : Obj} (h : w.heap[g]? = some o) : g < w.heap.size := by
  by_cases hlt : g < w.heap.size
  · exact hlt
  · have : w.heap[g]? = none := by simp; omega
    rw [this] at h; cases h

theorem Ply.lt {w wr : World} {room b9 : Nat} {cs : Array Value} {f : Nat → Option Int} {U : Nat} {fp : List Nat} {most : Int} (k : Ply w wr room b9 cs f U fp most) : b9 < wr.heap.size := lt_of_row k.row
theorem Ply.drewN {w wr : World} {room b9 : Nat} {cs : Array Value} {f : Nat → Option Int} {U : Nat} {fp : List Nat} {most : Int} (k : Ply w wr room b9 cs f U fp most) (z : Nat) : Ply w (wr.drewN z) room b9 cs f U fp most :=
  ⟨k.bd.drewN z, k.rf, k.row, k.far, below_drewN k.below z, k.old, k.used⟩
theorem Ply.step {w wr w' : World} {room b9 : Nat} {cs : Array Value} {f : Nat → Option Int} {U : Nat} {fp : List Nat} {most : Int} (k : Ply w wr room b9 cs f U fp most) (h : Below wr.heap.size wr w') : Ply w w' room b9 cs f U fp most :=
  ⟨k.bd.step h, k.rf, (h.block b9 k.lt).trans k.row, k.far, Below.step k.below h, k.old, k.used⟩

theorem Exc.setRow {S : List Nat} {a b : World} (h : Exc S a b) {g : Nat} (hg : g ∈ S) (cs : Array Value) : Exc S a (b.setRow g cs) :=
  ⟨h.os, h.tape, h.output, by rw [setRow_size]; exact h.size, fun i hi ht => by rw [setRow_other b g i cs (fun e => ht (by rw [e]; exact hg))]; exact h.block i hi ht⟩

/-- the row behind a call that may have turned the board -/
theorem Ply.row3 {w wr w3 : World} {room b9 : Nat} {cs : Array Value} {f f' : Nat → Option Int} {U U' : Nat} {fp fp' : List Nat} {most : Int} (k : Ply w wr room b9 cs f U fp most)
    (h : Turned wr w3 w.heap.size w.heap.size room f' U fp U' fp') : w3.heap[b9]? = some (.cells cs 72 (0, 0)) := (h.exc.block b9 k.lt k.far).trans k.row

/-- board and row, both turned -/
theorem Ply.turn {w wr w3 w4 : World} {room b9 : Nat} {cs cs' : Array Value} {f f' : Nat → Option Int} {U U' : Nat} {fp fp' : List Nat} {most m' : Int} (k : Ply w wr room b9 cs f U fp most)
    (h : Turned wr w3 w.heap.size w.heap.size room f' U fp U' fp') (hB : Below w3.heap.size w3 w4) (hr : Rf cs' room f') (hm : (if (cntF f' : Int) > most then (cntF f' : Int) else most) = m') :
    Ply w (w4.setRow b9 cs') room b9 cs' f' U' fp' m' := by
  have hl := k.lt
  have hf : b9 ∉ fp' := fun hm => by
    rcases h.fps b9 hm with h | h
    · exact k.far h
    · omega
  refine ⟨(h.bd.step hB).keep (S := [b9]) ((Exc.refl _ _).setRow (by simp) _) (fun x hx hm => by simp at hm; subst hm; exact hf hx), hr, setRow_heap w4 b9 cs cs' 72 (0, 0) ((hB.block b9 (lt_of_row (k.row3 h))).trans (k.row3 h)), hf, ?_, k.old, ?_⟩
  · have h3 : Below w.heap.size w w3 := h.exc.below k.below (fun x hx => (k.bd.fp_lt x hx).1) k.below.size
    exact Below.setRow (Below.step h3 hB) (Nat.le_of_lt k.old) _
  · have := h.used
    have := k.used
    have h1 : (U' : Int) ≤ max (U : Int) (cntF f' : Int) := by omega
    rw [← hm]
    split <;> omega

/-- the step's copy, beside the board and the row -/
structure Cop3 (wr : World) (b8 b9 : Nat) (sd : Bool) (sb : Nat) (sx : Int) (fp : List Nat) : Prop where
  c0 : wr.cell? ⟨b8, 0, none⟩ = some (.bool sd)
  c1 : wr.cell? ⟨b8, 1, none⟩ = some (.int .u8 sb)
  c3 : wr.cell? ⟨b8, 3, none⟩ = some (.int .i64 sx)
  far : b8 ∉ fp
  ne : b8 ≠ b9

theorem Cop3.step {wr w' : World} {b8 b9 : Nat} {sd : Bool} {sb : Nat} {sx : Int} {fp : List Nat} (k : Cop3 wr b8 b9 sd sb sx fp) (h : Below wr.heap.size wr w') : Cop3 w' b8 b9 sd sb sx fp := by
  have hl : b8 < wr.heap.size := block_lt_of_cell k.c0
  exact ⟨(h.cell (p := ⟨b8, 0, none⟩) hl).trans k.c0, (h.cell (p := ⟨b8, 1, none⟩) hl).trans k.c1, (h.cell (p := ⟨b8, 3, none⟩) hl).trans k.c3, k.far, k.ne⟩
theorem Cop3.mid {wr w3 : World} {b8 b9 : Nat} {sd : Bool} {sb : Nat} {sx : Int} {fp : List Nat} (k : Cop3 wr b8 b9 sd sb sx fp) (h : Exc fp wr w3) : Cop3 w3 b8 b9 sd sb sx fp :=
  ⟨h.cell k.c0 k.far, h.cell k.c1 k.far, h.cell k.c3 k.far, k.far, k.ne⟩
theorem Cop3.turn {wr w3 w4 : World} {base g room b8 b9 : Nat} {sd : Bool} {sb : Nat} {sx : Int} {f' : Nat → Option Int} {U U' : Nat} {fp fp' : List Nat} (k : Cop3 wr b8 b9 sd sb sx fp) (h : Turned wr w3 base g room f' U fp U' fp') (hB : Below w3.heap.size w3 w4) (cs : Array Value) :
    Cop3 (w4.setRow b9 cs) b8 b9 sd sb sx fp' := by
  have k4 := (k.mid h.exc).step hB
  have hl : b8 < wr.heap.size := block_lt_of_cell k.c0
  refine ⟨?_, ?_, ?_, fun hm => ?_, k.ne⟩
  · rw [cell_setRow_other w4 b9 cs ⟨b8, 0, none⟩ k.ne]; exact k4.c0
  · rw [cell_setRow_other w4 b9 cs ⟨b8, 1, none⟩ k.ne]; exact k4.c1
  · rw [cell_setRow_other w4 b9 cs ⟨b8, 3, none⟩ k.ne]; exact k4.c3
  · rcases h.fps b8 hm with h | h
    · exact k.far h
    · omega

/-- the cells of the row at a byte -/
theorem Ply.has {w wr : World} {room b9 : Nat} {cs : Array Value} {f : Nat → Option Int} {U : Nat} {fp : List Nat} {most : Int} (k : Ply w wr room b9 cs f U fp most) (b : Nat) (hb : b < 256) : wr.cell? ⟨b9, 1 + b, none⟩ = some (.bool (f b).isSome) := by
  rw [cell_of_row _ _ _ _ _ _ k.row]; exact k.rf.has b hb
theorem Ply.val {w wr : World} {room b9 : Nat} {cs : Array Value} {f : Nat → Option Int} {U : Nat} {fp : List Nat} {most : Int} (k : Ply w wr room b9 cs f U fp most) (b : Nat) (hb : b < 256) : wr.cell? ⟨b9, 257 + b, none⟩ = some (.int .i64 (valO (f b))) := by
  rw [cell_of_row _ _ _ _ _ _ k.row]; exact k.rf.val b hb

end Go.Proofs.Ythohpeinmkdfeaa
