/-
  Steps that came in, opened; the walk of WideCopies over them.
-/
import Derived.Test.YthohpeinmkdfeaaLaw10c
import Derived.ProofKit
import Derived.OpenShut
import Derived.Deep.Slices
import Derived.Lib.SmallJoins
namespace Go.Proofs.Ythohpeinmkdfeaa
open Go.RowKit
set_option linter.unusedVariables false

theorem u29 : ∃ f0 f1 f2 f3 : Field, Try.prog.underlying 29 = some (.struct #[f0, f1, f2, f3]) ∧ (f0.offset = 0 ∧ f1.offset = 1 ∧ f2.offset = 2 ∧ f3.offset = 3) ∧ f0.type = 4 ∧ f1.type = 5 ∧ f2.type = 5 ∧ f3.type = 3 :=
  ⟨⟨"Drop", 4, 0, false, "", "", 0⟩, ⟨"B", 5, 1, false, "", "", 1⟩, ⟨"Many", 5, 2, false, "", "", 2⟩, ⟨"X", 3, 3, false, "", "", 8⟩, by kernel_rfl, ⟨rfl, rfl, rfl, rfl⟩, rfl, rfl, rfl, rfl⟩

theorem choose_list {α : Type} {Q : Nat → α → Prop} : ∀ n : Nat, (∀ i, i < n → ∃ x, Q i x) → ∃ hs : List α, hs.length = n ∧ ∀ i x, hs[i]? = some x → Q i x
  | 0, _ => ⟨[], rfl, fun i x h => by simp at h⟩
  | n + 1, h => by
    obtain ⟨hs, h1, h2⟩ := choose_list n (fun i hi => h i (by omega))
    obtain ⟨y, hy⟩ := h n (by omega)
    refine ⟨hs ++ [y], by simp [h1], fun i x hx => ?_⟩
    by_cases hi : i < n
    · rw [List.getElem?_append_left (by omega)] at hx; exact h2 i x hx
    · rw [List.getElem?_append_right (by omega)] at hx
      have : i - hs.length = 0 := by
        cases hh : i - hs.length with
        | zero => rfl
        | succ k => rw [hh] at hx; simp at hx
      rw [this] at hx; simp at hx; subst hx
      rwa [show i = n by omega]

set_option maxRecDepth 100000 in
theorem open_steps {H : Type} {enc : TypeId × Value → H} {w : World} {b0 : Nat} {v : Value} {d : DataW H} {p : List MemPlace}
    (hv : Value.okWide Try.prog w .any b0 22 v) (h : DataW.Trod enc Try.prog w 0 (fun _ => true) true 22 v d p) :
    ∃ a n c, v = .slice a n c ∧ ∃ ss, RawS w a n c ss := by
  obtain ⟨a, n, c, rfl⟩ := Go.WideShapes.okWide_slice Try.underlying22 hv
  refine ⟨a, n, c, rfl, ?_⟩
  obtain ⟨fuel, hf⟩ := h
  obtain ⟨f0, f1, f2, f3, hu, ⟨o0, o1, o2, o3⟩, t0, t1, t2, t3⟩ := u29
  have c29 : Try.prog.cellsOf 29 = 4 := by kernel_rfl
  have c4 : Try.prog.cellsOf 4 = 1 := by kernel_rfl
  have c5 : Try.prog.cellsOf 5 = 1 := by kernel_rfl
  have c3 : Try.prog.cellsOf 3 = 1 := by kernel_rfl
  rcases Go.Deep.open_slice Try.underlying22 hf with ⟨hcs, _⟩ | ⟨x, l, cap, m, k, D, Pl, hcs, _, hl, hm, hmm, _, hx⟩
  · simp [Value.cells] at hcs
    obtain ⟨rfl, rfl, rfl⟩ := hcs
    exact ⟨[], by omega, by omega, rfl, by simp, fun h => absurd h (by omega)⟩
  · simp [Value.cells] at hcs
    obtain ⟨rfl, rfl, rfl⟩ := hcs
    simp at hmm
    subst hmm
    rw [c29] at hx
    have each : ∀ i, i < n → ∃ s : Stp, (s.b < 256 ∧ s.many < 256 ∧ -9223372036854775808 ≤ s.x ∧ s.x ≤ 9223372036854775807) ∧ w.cell? ((x.add (i * 4)).add 0) = some (.bool s.drop) ∧ w.cell? ((x.add (i * 4)).add 1) = some (.int .u8 s.b) ∧
        w.cell? ((x.add (i * 4)).add 2) = some (.int .u8 s.many) ∧ w.cell? ((x.add (i * 4)).add 3) = some (.int .i64 s.x) := by
      intro i hi
      obtain ⟨cs, h1, h2⟩ := hx i (by omega)
      obtain ⟨_, hlen, hcell⟩ := World.cells?_some h1
      obtain ⟨y0, y1, y2, y3, q, _, _, g0, g1, g2, g3⟩ := Go.Joins.trod_struct4 hu h2
      rw [o0, t0, c4] at g0
      rw [o1, t1, c5] at g1
      rw [o2, t2, c5] at g2
      rw [o3, t3, c3] at g3
      match cs, hlen with
      | [v0, v1, v2, v3], _ =>
        obtain ⟨bd, e0, _⟩ := DataW.trod_bool Try.underlying4 g0
        obtain ⟨z1, e1, _, w1⟩ := DataW.trod_int Try.underlying5 g1
        obtain ⟨z2, e2, _, w2⟩ := DataW.trod_int Try.underlying5 g2
        obtain ⟨z3, e3, _, w3⟩ := DataW.trod_int Try.underlying3 g3
        simp at e0 e1 e2 e3
        subst e0 e1 e2 e3
        simp [Lit.wf, IntKind.min, IntKind.max, IntKind.signed, IntKind.bits] at w1 w2 w3
        obtain ⟨b1, rfl⟩ := Int.eq_ofNat_of_zero_le (show 0 ≤ z1 by omega)
        obtain ⟨b2, rfl⟩ := Int.eq_ofNat_of_zero_le (show 0 ≤ z2 by omega)
        have k1 : b1 < 256 := by omega
        have k2 : b2 < 256 := by omega
        exact ⟨⟨bd, b1, b2, z3⟩, ⟨k1, k2, w3.1, w3.2⟩, hcell 0 (by omega), hcell 1 (by omega), hcell 2 (by omega), hcell 3 (by omega)⟩
    obtain ⟨ss, h1, h2⟩ := choose_list n each
    refine ⟨ss, hl, by unfold maxLen at hm; exact hm, h1, fun s hs => ?_, fun h0 => ?_⟩
    · obtain ⟨i, hi⟩ := List.getElem?_of_mem hs
      exact (h2 i s hi).1
    · obtain ⟨b, o, sp⟩ := x
      obtain rfl : sp = none := by
        obtain ⟨y, _, hy, _⟩ := each 0 h0
        cases sp with
        | none => rfl
        | some s => simp [Addr.add, World.cell?] at hy; split at hy <;> simp_all
      refine ⟨b, o, rfl, fun i s hi => ?_⟩
      obtain ⟨_, g0, g1, g2, g3⟩ := h2 i s hi
      have e : ∀ j k : Nat, ((⟨b, o, none⟩ : Addr).add j).add k = ⟨b, o + j + k, none⟩ := fun j k => by rw [Go.Deep.add_add]; unfold Addr.add; split <;> simp_all <;> omega
      rw [e] at g0 g1 g2 g3
      exact ⟨g0, g1, g2, g3⟩

theorem walkWideCopies (p : Option Addr) (n c : Nat) (q : Option Addr) (m d : Nat) (w : World) (w0 : ∃ ss, RawS w p n c ss) (w1 : ∃ ss, RawS w q m d ss) :
    Calls Try.prog 3 #[.slice p n c, .slice q m d] w fun e w' => e = .returned (.bool true) ∧ Below w.heap.size w w' := by
  obtain ⟨ss, h1⟩ := w0
  obtain ⟨ts, h2⟩ := w1
  exact copies_walk p q n c m d w ss ts h1 h2

end Go.Proofs.Ythohpeinmkdfeaa
