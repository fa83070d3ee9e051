/-
  The board: the clones of its rows.
-/
import Derived.Test.YthohpeinmkdfeaaWide8
import Derived.Lib.SliceRun
namespace Go.Proofs.Ythohpeinmkdfeaa
open Go.RowKit
set_option linter.unusedVariables false

theorem run_append_zero (w : World) (t ty e : TypeId) (i : TypeInfo) (ht : Try.prog.underlying t = some (.slice e)) (hi : Try.prog.info? e = some i)
    (b x : Option Addr) (k cap c : Nat) (hk : k ≤ cap) : (Builtin.append_ #[t, t] ty #[.slice b k cap, .slice x 0 c]).run Try.prog w = .ok (.slice b k cap) w := by
  cases b <;> cases x <;> simp [Builtin.append_, run_underlying ht, sizeOf, typeInfo, hi, Builtin.lenOf, Builtin.firstCells, hk, storeCells, loadCells, loadCellsFrom]

theorem wpList_append_zero {w : World} {ops : Array Oper} {rest : List Oper} {o : Oper} {a : Act} {Q : Exit → Act → World → Prop} (hgd : o.guard = none) (s x : Operand) (t : TypeId)
    (ho : o.op = .call { callee := .builtin .append, args := #[s, x], argTypes := #[t, t] })
    (e : TypeId) (i : TypeInfo) (ht : Try.prog.underlying t = some (.slice e)) (hi : Try.prog.info? e = some i)
    (b y : Option Addr) (k cap c : Nat) (hs : a.eval s = .slice b k cap) (hx : a.eval x = .slice y 0 c) (hk : k ≤ cap)
    (h : wpList Try.prog ops Q rest (a.put o.dst (.slice b k cap)) w) : wpList Try.prog ops Q (o :: rest) a w := by
  refine wpList_plain hgd fun K hK => ?_
  have hrun := run_append_zero w t o.type e i ht hi b y k cap c hk
  unfold Oper.wp
  simp [execOp, ho, resolve, invoke, builtin, hs, hx, hrun, Result.andThen]
  exact hK _ _ h

/-- what a clone of a row is -/
structure ClR (w w' : World) (base e : Nat) (q : Option Addr) (n d : Nat) (xs : List Value) : Prop where
  own : w'.ownsRow base e 1 (.slice q n d) n xs
  below : Below w.heap.size w w'
  new : ∀ a, q = some a → w.heap.size ≤ a.block

theorem own_empty (w : World) (base e : TypeId) (t : TypeId) (hb : base ≤ w.heap.size) : (w.alloc (.cells #[] e)).ownsRow base e 1 (.slice (some ⟨w.heap.size, 0, none⟩) 0 0) 0 [] :=
  ⟨rfl, .inr ⟨_, _, #[], rfl, hb, heap_alloc_new w _, Nat.le_refl _, by unfold maxLen; omega, rfl, rfl⟩⟩

set_option maxRecDepth 100000 in
set_option maxHeartbeats 800000 in
theorem clone54 (base n c : Nat) (p : Option Addr) (xs : List Value) (w : World) (hown : w.ownsRow base 3 1 (.slice p n c) n xs) (hn : n ≤ 65535) (hb : base ≤ w.heap.size) (h1 : ∀ u ∈ xs, u.oneCell' = true) :
    Calls Try.prog 54 #[.slice p n c] w fun e w' => ∃ q d, e = .returned (.slice q n d) ∧ ClR w w' base 3 q n d xs := by
  have heq := fun (a : Option Addr) (n c : Nat) (w : World) => Lib.run_eql_slice_nil w 80 3 a n c 0 0 Try.underlying80
  cases p with
  | none =>
    rcases hown.2 with ⟨e, hn0⟩ | ⟨g', cap', cur, e, _⟩
    · cases e
      have hx : xs = [] := List.length_eq_zero_iff.1 (by simpa using hown.1)
      subst hx
      go_enter Try.func54, Try.ntmps54
      go_wp2
      go_ret
      exact ⟨_, _, rfl, World.ownsRow_nil _ _ _ _, Below.refl _ _, (fun b hb => by cases hb)⟩
    · cases e
  | some a =>
    have hfm : ∃ bx, a = ⟨bx, 0, none⟩ := by
      rcases hown.2 with ⟨e, hn0⟩ | ⟨g', cap', cur, e, _⟩
      · cases e
      · cases e; exact ⟨_, rfl⟩
    obtain ⟨bx, rfl⟩ := hfm
    have HO := Lib.hid hown
    have hbx := (own_lt hown bx rfl).2
    have HE := Lib.hid (own_empty w base 3 0 hb)
    have hB0 := Lib.hid ((Below.refl w.heap.size w).alloc (Nat.le_refl _) (.cells #[] 3))
    clear hown
    obtain ⟨i0, hi, hz0, hz1, hz2⟩ := info_parts info3
    by_cases h0 : n = 0
    · subst h0
      have hx : xs = [] := List.length_eq_zero_iff.1 (by simpa using HO.out.1)
      subst hx
      go_enter Try.func54, Try.ntmps54
      go_wp2_with (at_builtin; refine stop ?_)
      refine unhid ?_
      refine wpList_append_zero rfl _ _ 80 (by rfl) 3 i0 Try.underlying80 hi _ _ 0 0 _ (by rfl) (by rfl) (Nat.le_refl _) ?_
      go_wp2
      go_ret
      exact ⟨_, _, rfl, HE.out, hB0.out, (fun b hb => by cases hb; exact Nat.le_refl _)⟩
    · go_enter Try.func54, Try.ntmps54
      go_wp2_with (at_builtin; refine stop ?_)
      refine unhid ?_
      refine wpList_append_lies _ rfl _ _ 80 (by rfl) base 3 i0 (.int .i64 0) 1 8 Try.underlying80 hi hz0 hz1 hz2 rfl (by decide) _ 0 _ (by rfl) HE.out ⟨bx, 0, none⟩ n c xs (by rfl) (by have := HO.out.1; simpa using this) (fun j u hj => ?_) h1 (by omega) (by unfold maxLen; omega) (by omega) (by rw [World.size_alloc]; omega) _ rfl ?_
      · have hjl : j < n := by
          have := (List.getElem?_eq_some_iff.1 hj).1
          have := HO.out.1
          omega
        have e : (⟨bx, 0, none⟩ : Addr).add j = ⟨bx, j, none⟩ := by unfold Addr.add; split <;> simp_all
        rw [e, World.cell?_alloc_past _ _ _ hbx, HO.out.cellAt j (by omega)]
        exact hj
      · intro bq cap w2 hown2 hgrow hnew hlt2
        rw [List.nil_append, Nat.zero_add] at hown2
        have hsz := World.size_alloc w (.cells #[] 3)
        have HC : Hid (ClR w w2 base 3 (some ⟨bq, 0, none⟩) n cap xs) := by
          refine ⟨hown2, hB0.out.grown hgrow (by omega) (fun k hk => by
            have : w.heap.size = k := by simpa [Value.ownBlock] using hk
            omega), fun a ha => ?_⟩
          cases ha
          rcases hnew with e | e
          · have : w.heap.size = bq := by simpa [Value.ownBlock] using e
            show w.heap.size ≤ bq
            omega
          · show w.heap.size ≤ bq
            omega
        clear hown2 hgrow hnew hlt2 hsz hi hz0 hz1 hz2
        rw [Nat.zero_add]
        go_wp2
        go_ret
        exact ⟨_, _, rfl, HC.out⟩

set_option maxRecDepth 100000 in
set_option maxHeartbeats 800000 in
theorem clone55 (base n c : Nat) (p : Option Addr) (xs : List Value) (w : World) (hown : w.ownsRow base 38 1 (.slice p n c) n xs) (hn : n ≤ 65535) (hb : base ≤ w.heap.size) (h1 : ∀ u ∈ xs, u.oneCell' = true) :
    Calls Try.prog 55 #[.slice p n c] w fun e w' => ∃ q d, e = .returned (.slice q n d) ∧ ClR w w' base 38 q n d xs := by
  have heq := fun (a : Option Addr) (n c : Nat) (w : World) => Lib.run_eql_slice_nil w 81 38 a n c 0 0 Try.underlying81
  cases p with
  | none =>
    rcases hown.2 with ⟨e, hn0⟩ | ⟨g', cap', cur, e, _⟩
    · cases e
      have hx : xs = [] := List.length_eq_zero_iff.1 (by simpa using hown.1)
      subst hx
      go_enter Try.func55, Try.ntmps55
      go_wp2
      go_ret
      exact ⟨_, _, rfl, World.ownsRow_nil _ _ _ _, Below.refl _ _, (fun b hb => by cases hb)⟩
    · cases e
  | some a =>
    have hfm : ∃ bx, a = ⟨bx, 0, none⟩ := by
      rcases hown.2 with ⟨e, hn0⟩ | ⟨g', cap', cur, e, _⟩
      · cases e
      · cases e; exact ⟨_, rfl⟩
    obtain ⟨bx, rfl⟩ := hfm
    have HO := Lib.hid hown
    have hbx := (own_lt hown bx rfl).2
    have HE := Lib.hid (own_empty w base 38 0 hb)
    have hB0 := Lib.hid ((Below.refl w.heap.size w).alloc (Nat.le_refl _) (.cells #[] 38))
    clear hown
    obtain ⟨i0, hi, hz0, hz1, hz2⟩ := info_parts info38
    by_cases h0 : n = 0
    · subst h0
      have hx : xs = [] := List.length_eq_zero_iff.1 (by simpa using HO.out.1)
      subst hx
      go_enter Try.func55, Try.ntmps55
      go_wp2_with (at_builtin; refine stop ?_)
      refine unhid ?_
      refine wpList_append_zero rfl _ _ 81 (by rfl) 38 i0 Try.underlying81 hi _ _ 0 0 _ (by rfl) (by rfl) (Nat.le_refl _) ?_
      go_wp2
      go_ret
      exact ⟨_, _, rfl, HE.out, hB0.out, (fun b hb => by cases hb; exact Nat.le_refl _)⟩
    · go_enter Try.func55, Try.ntmps55
      go_wp2_with (at_builtin; refine stop ?_)
      refine unhid ?_
      refine wpList_append_lies _ rfl _ _ 81 (by rfl) base 38 i0 (.int .u16 0) 1 2 Try.underlying81 hi hz0 hz1 hz2 rfl (by decide) _ 0 _ (by rfl) HE.out ⟨bx, 0, none⟩ n c xs (by rfl) (by have := HO.out.1; simpa using this) (fun j u hj => ?_) h1 (by omega) (by unfold maxLen; omega) (by omega) (by rw [World.size_alloc]; omega) _ rfl ?_
      · have hjl : j < n := by
          have := (List.getElem?_eq_some_iff.1 hj).1
          have := HO.out.1
          omega
        have e : (⟨bx, 0, none⟩ : Addr).add j = ⟨bx, j, none⟩ := by unfold Addr.add; split <;> simp_all
        rw [e, World.cell?_alloc_past _ _ _ hbx, HO.out.cellAt j (by omega)]
        exact hj
      · intro bq cap w2 hown2 hgrow hnew hlt2
        rw [List.nil_append, Nat.zero_add] at hown2
        have hsz := World.size_alloc w (.cells #[] 38)
        have HC : Hid (ClR w w2 base 38 (some ⟨bq, 0, none⟩) n cap xs) := by
          refine ⟨hown2, hB0.out.grown hgrow (by omega) (fun k hk => by
            have : w.heap.size = k := by simpa [Value.ownBlock] using hk
            omega), fun a ha => ?_⟩
          cases ha
          rcases hnew with e | e
          · have : w.heap.size = bq := by simpa [Value.ownBlock] using e
            show w.heap.size ≤ bq
            omega
          · show w.heap.size ≤ bq
            omega
        clear hown2 hgrow hnew hlt2 hsz hi hz0 hz1 hz2
        rw [Nat.zero_add]
        go_wp2
        go_ret
        exact ⟨_, _, rfl, HC.out⟩

end Go.Proofs.Ythohpeinmkdfeaa
