/-
  SmallPlays, SmallWalks: steps that came in, opened; a row and the document's row in step.
-/
import Derived.Test.YthohpeinmkdfeaaSmall9
import Derived.Deep.Strs
namespace Go.Proofs.Ythohpeinmkdfeaa
open Go.RowKit
set_option linter.unusedVariables false

theorem u105 : ∃ f0 f1 f2 : Field, Try.prog.underlying 105 = some (.struct #[f0, f1, f2]) ∧ (f0.offset = 0 ∧ f1.offset = 1 ∧ f2.offset = 2) ∧ f0.type = 4 ∧ f1.type = 5 ∧ f2.type = 3 :=
  ⟨⟨"Drop", 4, 0, false, "", "", 0⟩, ⟨"B", 5, 1, false, "", "", 1⟩, ⟨"X", 3, 2, false, "", "", 8⟩, by kernel_rfl, ⟨rfl, rfl, rfl⟩, rfl, rfl, rfl⟩

/-- a step that came in -/
structure Stp3 where
  drop : Bool
  b : Nat
  x : Int

/-- steps that came in -/
structure RawS3 (w : World) (p : Option Addr) (n c : Nat) (ss : List Stp3) : Prop where
  cap : n ≤ c
  big : c ≤ 9223372036854775807
  len : ss.length = n
  small : ∀ s ∈ ss, s.b < 256 ∧ -9223372036854775808 ≤ s.x ∧ s.x ≤ 9223372036854775807
  cells : 0 < n → ∃ b o, p = some ⟨b, o, none⟩ ∧ ∀ (i : Nat) (s : Stp3), ss[i]? = some s → w.cell? ⟨b, o + i * 3, none⟩ = some (.bool s.drop) ∧ w.cell? ⟨b, o + i * 3 + 1, none⟩ = some (.int .u8 s.b) ∧
    w.cell? ⟨b, o + i * 3 + 2, none⟩ = some (.int .i64 s.x)

set_option maxRecDepth 100000 in
theorem open_steps3 {H : Type} {enc : TypeId × Value → H} {w : World} {b0 : Nat} {v : Value} {d : DataW H} {p : List MemPlace}
    (hv : Value.okWide Try.prog w .any b0 100 v) (h : DataW.Trod enc Try.prog w 0 (fun _ => true) true 100 v d p) :
    ∃ a n c, v = .slice a n c ∧ ∃ ss, RawS3 w a n c ss := by
  obtain ⟨a, n, c, rfl⟩ := Go.WideShapes.okWide_slice Try.underlying100 hv
  refine ⟨a, n, c, rfl, ?_⟩
  obtain ⟨fuel, hf⟩ := h
  obtain ⟨f0, f1, f2, hu, ⟨o0, o1, o2⟩, t0, t1, t2⟩ := u105
  have c29 : Try.prog.cellsOf 105 = 3 := by kernel_rfl
  have c4 : Try.prog.cellsOf 4 = 1 := by kernel_rfl
  have c5 : Try.prog.cellsOf 5 = 1 := by kernel_rfl
  have c3 : Try.prog.cellsOf 3 = 1 := by kernel_rfl
  rcases Go.Deep.open_slice Try.underlying100 hf with ⟨hcs, _⟩ | ⟨x, l, cap, m, k, D, Pl, hcs, _, hl, hm, hmm, _, hx⟩
  · simp [Value.cells] at hcs
    obtain ⟨rfl, rfl, rfl⟩ := hcs
    exact ⟨[], by omega, by omega, rfl, by simp, fun h => absurd h (by omega)⟩
  · simp [Value.cells] at hcs
    obtain ⟨rfl, rfl, rfl⟩ := hcs
    simp at hmm
    subst hmm
    rw [c29] at hx
    have each : ∀ i, i < n → ∃ s : Stp3, (s.b < 256 ∧ -9223372036854775808 ≤ s.x ∧ s.x ≤ 9223372036854775807) ∧ w.cell? ((x.add (i * 3)).add 0) = some (.bool s.drop) ∧ w.cell? ((x.add (i * 3)).add 1) = some (.int .u8 s.b) ∧
        w.cell? ((x.add (i * 3)).add 2) = some (.int .i64 s.x) := by
      intro i hi
      obtain ⟨cs, h1, h2⟩ := hx i (by omega)
      obtain ⟨_, hlen, hcell⟩ := World.cells?_some h1
      obtain ⟨y0, y1, y2, q, _, _, g0, g1, g2⟩ := Go.Deep.trod_struct3 hu h2
      rw [o0, t0, c4] at g0
      rw [o1, t1, c5] at g1
      rw [o2, t2, c3] at g2
      match cs, hlen with
      | [v0, v1, v2], _ =>
        obtain ⟨bd, e0, _⟩ := DataW.trod_bool Try.underlying4 g0
        obtain ⟨z1, e1, _, w1⟩ := DataW.trod_int Try.underlying5 g1
        obtain ⟨z2, e2, _, w2⟩ := DataW.trod_int Try.underlying3 g2
        simp at e0 e1 e2
        subst e0 e1 e2
        simp [Lit.wf, IntKind.min, IntKind.max, IntKind.signed, IntKind.bits] at w1 w2
        obtain ⟨b1, rfl⟩ := Int.eq_ofNat_of_zero_le (show 0 ≤ z1 by omega)
        have k1 : b1 < 256 := by omega
        exact ⟨⟨bd, b1, z2⟩, ⟨k1, w2.1, w2.2⟩, hcell 0 (by omega), hcell 1 (by omega), hcell 2 (by omega)⟩
    obtain ⟨ss, h1, h2⟩ := choose_list n each
    refine ⟨ss, hl, by unfold maxLen at hm; exact hm, h1, fun s hs => ?_, fun h0 => ?_⟩
    · obtain ⟨i, hi⟩ := List.getElem?_of_mem hs
      exact (h2 i s hi).1
    · obtain ⟨b, o, sp⟩ := x
      obtain rfl : sp = none := by
        obtain ⟨y, _, hy, _⟩ := each 0 h0
        cases sp with
        | none => rfl
        | some s => simp [Addr.add, World.cell?] at hy; split at hy <;> simp_all
      refine ⟨b, o, rfl, fun i s hi => ?_⟩
      obtain ⟨_, g0, g1, g2⟩ := h2 i s hi
      have e : ∀ j k : Nat, ((⟨b, o, none⟩ : Addr).add j).add k = ⟨b, o + j + k, none⟩ := fun j k => by rw [Go.Deep.add_add]; unfold Addr.add; split <;> simp_all <;> omega
      rw [e] at g0 g1 g2
      exact ⟨g0, g1, g2⟩


/-- what the walk of SmallPlays knows between two calls -/
structure Sly (w wr : World) (room b9 : Nat) (cs : Array Value) (f : Nat → Option Int) : Prop where
  sm : SmE wr w.heap.size room f
  rf : Rf cs room f
  row : wr.heap[b9]? = some (.cells cs 72 (0, 0))
  below : Below w.heap.size w wr
  old : w.heap.size < b9

theorem Sly.lt {w wr : World} {room b9 : Nat} {cs : Array Value} {f : Nat → Option Int} (k : Sly w wr room b9 cs f) : b9 < wr.heap.size := lt_of_row k.row
theorem Sly.step {w wr w' : World} {room b9 : Nat} {cs : Array Value} {f : Nat → Option Int} (k : Sly w wr room b9 cs f) (h : Below wr.heap.size wr w') : Sly w w' room b9 cs f :=
  ⟨k.sm.step h, k.rf, (h.block b9 k.lt).trans k.row, Below.step k.below h, k.old⟩
theorem Sly.row3 {w wr w3 : World} {room b9 : Nat} {cs : Array Value} {f : Nat → Option Int} (k : Sly w wr room b9 cs f) (h : Exc [w.heap.size] wr w3) : w3.heap[b9]? = some (.cells cs 72 (0, 0)) :=
  (h.block b9 k.lt (fun hm => by simp at hm; have := k.old; omega)).trans k.row

theorem Sly.turn {w wr w3 w4 : World} {room b9 : Nat} {cs cs' : Array Value} {f f' : Nat → Option Int} (k : Sly w wr room b9 cs f) (hs : SmE w3 w.heap.size room f') (hX : Exc [w.heap.size] wr w3) (hB : Below w3.heap.size w3 w4) (hr : Rf cs' room f') :
    Sly w (w4.setRow b9 cs') room b9 cs' f' := by
  have ho := k.old
  refine ⟨(hs.step hB).keep (S := [b9]) ((Exc.refl _ _).setRow (by simp) _) (fun hm => by simp at hm; omega), hr, setRow_heap w4 b9 cs cs' 72 (0, 0) ((hB.block b9 (lt_of_row (k.row3 hX))).trans (k.row3 hX)), ?_, ho⟩
  have h3 : Below w.heap.size w w3 := hX.below k.below (fun x hx => by simp at hx; omega) k.below.size
  exact Below.setRow (Below.step h3 hB) (Nat.le_of_lt ho) _

/-- the step's copy, beside both -/
structure Cop5 (w wr : World) (b8 b9 : Nat) (sd : Bool) (sb : Nat) (sx : Int) : Prop where
  c0 : wr.cell? ⟨b8, 0, none⟩ = some (.bool sd)
  c1 : wr.cell? ⟨b8, 1, none⟩ = some (.int .u8 sb)
  c2 : wr.cell? ⟨b8, 2, none⟩ = some (.int .i64 sx)
  far : b8 ≠ w.heap.size
  ne : b8 ≠ b9

theorem Cop5.step {w wr w' : World} {b8 b9 : Nat} {sd : Bool} {sb : Nat} {sx : Int} (k : Cop5 w wr b8 b9 sd sb sx) (h : Below wr.heap.size wr w') : Cop5 w w' b8 b9 sd sb sx := by
  have hl : b8 < wr.heap.size := block_lt_of_cell k.c0
  exact ⟨(h.cell (p := ⟨b8, 0, none⟩) hl).trans k.c0, (h.cell (p := ⟨b8, 1, none⟩) hl).trans k.c1, (h.cell (p := ⟨b8, 2, none⟩) hl).trans k.c2, k.far, k.ne⟩
theorem Cop5.mid {w wr w3 : World} {b8 b9 : Nat} {sd : Bool} {sb : Nat} {sx : Int} (k : Cop5 w wr b8 b9 sd sb sx) (h : Exc [w.heap.size] wr w3) : Cop5 w w3 b8 b9 sd sb sx := by
  have hf : b8 ∉ [w.heap.size] := fun hm => by simp at hm; exact k.far hm
  exact ⟨h.cell k.c0 hf, h.cell k.c1 hf, h.cell k.c2 hf, k.far, k.ne⟩
theorem Cop5.row {w wr : World} {b8 b9 : Nat} {sd : Bool} {sb : Nat} {sx : Int} (k : Cop5 w wr b8 b9 sd sb sx) (cs : Array Value) : Cop5 w (wr.setRow b9 cs) b8 b9 sd sb sx := by
  refine ⟨?_, ?_, ?_, k.far, k.ne⟩
  · rw [cell_setRow_other wr b9 cs ⟨b8, 0, none⟩ k.ne]; exact k.c0
  · rw [cell_setRow_other wr b9 cs ⟨b8, 1, none⟩ k.ne]; exact k.c1
  · rw [cell_setRow_other wr b9 cs ⟨b8, 2, none⟩ k.ne]; exact k.c2

theorem new41_no (room : Int) (w : World) (h : room < 1 ∨ 16 < room) : Calls Try.prog 41 #[.int .i64 room] w (OutRow w 0 (fun _ => none) 1) := by
  by_cases h1 : room < 1
  · exact new41_low room w h1
  · exact new41_high room w h1 (by omega)

end Go.Proofs.Ythohpeinmkdfeaa
