/-
  The statements on tables: steps that came in, opened; Drop, whatever is held.
-/
import Derived.Test.YtenmgjmbiamhcaaLaw34n
import Derived.ProofKit
import Derived.OpenShut
import Derived.Deep.Slices
import Derived.Deep.Strs
namespace Go.Proofs.Ytenmgjmbiamhcaa
open Go.RowKit
set_option linter.unusedVariables false

theorem choose_list {α : Type} {Q : Nat → α → Prop} : ∀ n : Nat, (∀ i, i < n → ∃ x, Q i x) → ∃ hs : List α, hs.length = n ∧ ∀ i x, hs[i]? = some x → Q i x
  | 0, _ => ⟨[], rfl, fun i x h => by simp at h⟩
  | n + 1, h => by
    obtain ⟨hs, h1, h2⟩ := choose_list n (fun i hi => h i (by omega))
    obtain ⟨y, hy⟩ := h n (by omega)
    refine ⟨hs ++ [y], by simp [h1], fun i x hx => ?_⟩
    by_cases hi : i < n
    · rw [List.getElem?_append_left (by omega)] at hx; exact h2 i x hx
    · rw [List.getElem?_append_right (by omega)] at hx
      have : i - hs.length = 0 := by
        cases hh : i - hs.length with
        | zero => rfl
        | succ k => rw [hh] at hx; simp at hx
      rw [this] at hx; simp at hx; subst hx
      rwa [show i = n by omega]

theorem u35 : ∃ f0 f1 f2 : Field, Try.prog.underlying 35 = some (.struct #[f0, f1, f2]) ∧ (f0.offset = 0 ∧ f1.offset = 1 ∧ f2.offset = 2) ∧ f0.type = 5 ∧ f1.type = 3 ∧ f2.type = 3 :=
  ⟨⟨"Do", 5, 0, false, "", "", 0⟩, ⟨"H", 3, 1, false, "", "", 8⟩, ⟨"X", 3, 2, false, "", "", 16⟩, by kernel_rfl, ⟨rfl, rfl, rfl⟩, rfl, rfl, rfl⟩

/-- a step that came in -/
structure Stp3 where
  d : Nat
  h : Int
  x : Int

/-- steps that came in -/
structure RawS3 (w : World) (p : Option Addr) (n c : Nat) (ss : List Stp3) : Prop where
  cap : n ≤ c
  big : c ≤ 9223372036854775807
  len : ss.length = n
  small : ∀ s ∈ ss, s.d < 256 ∧ wf64 s.h ∧ wf64 s.x
  cells : 0 < n → ∃ b o, p = some ⟨b, o, none⟩ ∧ ∀ (i : Nat) (s : Stp3), ss[i]? = some s → w.cell? ⟨b, o + i * 3, none⟩ = some (.int .u8 s.d) ∧ w.cell? ⟨b, o + i * 3 + 1, none⟩ = some (.int .i64 s.h) ∧
    w.cell? ⟨b, o + i * 3 + 2, none⟩ = some (.int .i64 s.x)

set_option maxRecDepth 100000 in
theorem open_stepsH {H : Type} {enc : TypeId × Value → H} {w : World} {b0 : Nat} {v : Value} {d : DataW H} {p : List MemPlace}
    (hv : Value.okWide Try.prog w .any b0 22 v) (h : DataW.Trod enc Try.prog w 0 (fun _ => true) true 22 v d p) :
    ∃ a n c, v = .slice a n c ∧ ∃ ss, RawS3 w a n c ss := by
  obtain ⟨a, n, c, rfl⟩ := Go.WideShapes.okWide_slice Try.underlying22 hv
  refine ⟨a, n, c, rfl, ?_⟩
  obtain ⟨fuel, hf⟩ := h
  obtain ⟨f0, f1, f2, hu, ⟨o0, o1, o2⟩, t0, t1, t2⟩ := u35
  have c29 : Try.prog.cellsOf 35 = 3 := by kernel_rfl
  have c4 : Try.prog.cellsOf 4 = 1 := by kernel_rfl
  have c5 : Try.prog.cellsOf 5 = 1 := by kernel_rfl
  have c3 : Try.prog.cellsOf 3 = 1 := by kernel_rfl
  rcases Go.Deep.open_slice Try.underlying22 hf with ⟨hcs, _⟩ | ⟨x, l, cap, m, k, D, Pl, hcs, _, hl, hm, hmm, _, hx⟩
  · simp [Value.cells] at hcs
    obtain ⟨rfl, rfl, rfl⟩ := hcs
    exact ⟨[], by omega, by omega, rfl, by simp, fun h => absurd h (by omega)⟩
  · simp [Value.cells] at hcs
    obtain ⟨rfl, rfl, rfl⟩ := hcs
    simp at hmm
    subst hmm
    rw [c29] at hx
    have each : ∀ i, i < n → ∃ s : Stp3, (s.d < 256 ∧ wf64 s.h ∧ wf64 s.x) ∧ w.cell? ((x.add (i * 3)).add 0) = some (.int .u8 s.d) ∧ w.cell? ((x.add (i * 3)).add 1) = some (.int .i64 s.h) ∧
        w.cell? ((x.add (i * 3)).add 2) = some (.int .i64 s.x) := by
      intro i hi
      obtain ⟨cs, h1, h2⟩ := hx i (by omega)
      obtain ⟨_, hlen, hcell⟩ := World.cells?_some h1
      obtain ⟨y0, y1, y2, q, _, _, g0, g1, g2⟩ := Go.Deep.trod_struct3 hu h2
      rw [o0, t0, c5] at g0
      rw [o1, t1, c3] at g1
      rw [o2, t2, c3] at g2
      match cs, hlen with
      | [v0, v1, v2], _ =>
        obtain ⟨z0, e0, _, w0⟩ := DataW.trod_int Try.underlying5 g0
        obtain ⟨z1, e1, _, w1⟩ := DataW.trod_int Try.underlying3 g1
        obtain ⟨z2, e2, _, w2⟩ := DataW.trod_int Try.underlying3 g2
        simp at e0 e1 e2
        subst e0 e1 e2
        simp [Lit.wf, IntKind.min, IntKind.max, IntKind.signed, IntKind.bits] at w0 w1 w2
        obtain ⟨b0', rfl⟩ := Int.eq_ofNat_of_zero_le (show 0 ≤ z0 by omega)
        have k1 : b0' < 256 := by omega
        exact ⟨⟨b0', z1, z2⟩, ⟨k1, ⟨w1.1, w1.2⟩, ⟨w2.1, w2.2⟩⟩, hcell 0 (by omega), hcell 1 (by omega), hcell 2 (by omega)⟩
    obtain ⟨ss, h1, h2⟩ := choose_list n each
    refine ⟨ss, hl, by unfold maxLen at hm; exact hm, h1, fun s hs => ?_, fun h0 => ?_⟩
    · obtain ⟨i, hi⟩ := List.getElem?_of_mem hs
      exact (h2 i s hi).1
    · obtain ⟨b, o, sp⟩ := x
      obtain rfl : sp = none := by
        obtain ⟨y, _, hy, _⟩ := each 0 h0
        cases sp with
        | none => rfl
        | some s => simp [Addr.add, World.cell?] at hy; split at hy <;> simp_all
      refine ⟨b, o, rfl, fun i s hi => ?_⟩
      obtain ⟨_, g0, g1, g2⟩ := h2 i s hi
      have e : ∀ j k : Nat, ((⟨b, o, none⟩ : Addr).add j).add k = ⟨b, o + j + k, none⟩ := fun j k => by rw [Go.Deep.add_add]; unfold Addr.add; split <;> simp_all <;> omega
      rw [e] at g0 g1 g2
      exact ⟨g0, g1, g2⟩


theorem wpList_min {w : World} {ops : Array Oper} {rest : List Oper} {o : Oper} {a : Act} {Q : Exit → Act → World → Prop} (hgd : o.guard = none) (s x : Operand) (t : TypeId)
    (ho : o.op = .call { callee := .builtin .min, args := #[s, x], argTypes := #[t, t] }) (n k m : Int) (hs : a.eval s = .int .i64 n) (hx : a.eval x = .int .i64 k) (hm : (if k < n then k else n) = m)
    (h : wpList Try.prog ops Q rest (a.put o.dst (.int .i64 m)) w) : wpList Try.prog ops Q (o :: rest) a w := by
  refine wpList_plain hgd fun K hK => ?_
  have hrun := run_min_int2 (P := Try.prog) (w := w) #[t, t] o.type .i64 .i64 n k
  rw [hm] at hrun
  unfold Oper.wp
  simp [execOp, ho, resolve, invoke, builtin, hs, hx, hrun, Result.andThen]
  exact hK _ _ h


theorem updI_none (f : Int → Option Int) (k : Int) (h : f k = none) : updI f k none = f := by
  funext c
  unfold updI
  by_cases e : c = k
  · subst e; rw [if_pos rfl, h]
  · rw [if_neg e]
theorem updI_at (f : Int → Option Int) (k : Int) (v : Option Int) : updI f k v k = v := by unfold updI; rw [if_pos rfl]
theorem updI_ne (f : Int → Option Int) (k j : Int) (v : Option Int) (h : j ≠ k) : updI f k v j = f j := by unfold updI; rw [if_neg h]

theorem drop11 {w : World} {g bm room last n : Nat} {D : DataW Unit} {f : Int → Option Int} (h : Tb w g bm room last D f n) (k : Int) (hk : wf64 k) :
    Calls Try.prog 11 #[.pointer (some ⟨g, 0, none⟩), .int .i64 k] w fun e w' => ∃ v D' n', e = .returned (.int .i64 v) ∧ (v = if (f k).isSome then 0 else 6) ∧ Tb w' g bm room last D' (updI f k none) n' ∧ Exc [bm] w w' := by
  cases hf : f k with
  | none =>
    refine (drop11_none h k hk hf).mono ?_
    rintro e w' ⟨rfl, hB⟩
    exact ⟨6, D, n, rfl, rfl, by rw [updI_none f k hf]; exact h.step hB, exc_below hB _⟩
  | some x =>
    refine (drop11_some h k hk (by rw [hf]; rfl)).mono ?_
    rintro e w' ⟨rfl, ⟨D', hT⟩, hX⟩
    exact ⟨0, D', n - 1, rfl, rfl, hT, hX⟩

theorem Exc.setX {S T : List Nat} {a b : World} (h : Exc S a b) (k : ∀ x ∈ S, x ∈ T) : Exc T a b := h.wide k

end Go.Proofs.Ytenmgjmbiamhcaa
