/-
  append of bytes to a slice that the call owns, whatever the source: a law for the walk.
-/
import Derived.Test.YtbldahimdkifiaaNext
namespace Go.Proofs.Ytbldahimdkifiaa
open Go.RowKit
set_option linter.unusedVariables false

theorem run_append_zero (w : World) (t ty e : TypeId) (i : TypeInfo) (ht : Try.prog.underlying t = some (.slice e)) (hi : Try.prog.info? e = some i)
    (b x : Option Addr) (k cap c : Nat) (hk : k ≤ cap) : (Builtin.append_ #[t, t] ty #[.slice b k cap, .slice x 0 c]).run Try.prog w = .ok (.slice b k cap) w := by
  cases b <;> cases x <;> simp [Builtin.append_, run_underlying ht, sizeOf, typeInfo, hi, Builtin.lenOf, Builtin.firstCells, hk, storeCells, loadCells, loadCellsFrom]

theorem wpList_append_zero {w : World} {ops : Array Oper} {rest : List Oper} {o : Oper} {a : Act} {Q : Exit → Act → World → Prop} (hgd : o.guard = none) (s x : Operand) (t : TypeId)
    (ho : o.op = .call { callee := .builtin .append, args := #[s, x], argTypes := #[t, t] })
    (e : TypeId) (i : TypeInfo) (ht : Try.prog.underlying t = some (.slice e)) (hi : Try.prog.info? e = some i)
    (b y : Option Addr) (k cap c : Nat) (hs : a.eval s = .slice b k cap) (hx : a.eval x = .slice y 0 c) (hk : k ≤ cap)
    (h : wpList Try.prog ops Q rest (a.put o.dst (.slice b k cap)) w) : wpList Try.prog ops Q (o :: rest) a w := by
  refine wpList_plain hgd fun K hK => ?_
  have hrun := run_append_zero w t o.type e i ht hi b y k cap c hk
  unfold Oper.wp
  simp [execOp, ho, resolve, invoke, builtin, hs, hx, hrun, Result.andThen]
  exact hK _ _ h

theorem Bs.news {w : World} {b o n c : Nat} {xs : List Int} (h : Bs w (some ⟨b, o, none⟩) n c xs) :
    ∀ j u, (xs.map (Value.int .u8))[j]? = some u → w.cell? ((⟨b, o, none⟩ : Addr).add j) = some u := by
  intro j u hj
  have hjl : j < xs.length := by
    have := (List.getElem?_eq_some_iff.1 hj).1
    rwa [List.length_map] at this
  obtain ⟨b', o', e, hc⟩ := h.cells.at (by rw [← h.len]; omega)
  cases e
  have e : (⟨b, o, none⟩ : Addr).add j = ⟨b, o + j, none⟩ := by unfold Addr.add; split <;> simp_all
  rw [e, hc j (by rw [← h.len]; exact hjl), ← hj]
  simp [List.getD_eq_getElem?_getD, hjl]

theorem one_bytes (xs : List Int) : ∀ u ∈ xs.map (Value.int .u8), u.oneCell' = true := by
  intro u hu
  obtain ⟨x, _, rfl⟩ := List.mem_map.1 hu
  rfl

/-- append of bytes -/
theorem wpList_append_bytes {w : World} {ops : Array Oper} {rest : List Oper} {o : Oper} {a : Act} {Q : Exit → Act → World → Prop} (hgd : o.guard = none) (s x : Operand)
    (ho : o.op = .call { callee := .builtin .append, args := #[s, x], argTypes := #[22, 22] })
    (base : Nat) (p0 : Option Addr) (k cap : Nat) (l : List Int) (hs : a.eval s = .slice p0 k cap) (hown : w.ownsRow base 5 1 (.slice p0 k cap) k (l.map (Value.int .u8)))
    (p : Option Addr) (n c : Nat) (xs : List Int) (hx : a.eval x = .slice p n c) (hB : Bs w p n c xs) (hsum : k + n ≤ 140737488351232) (hbase : base ≤ w.heap.size)
    (h : ∀ p' cap' w', w'.ownsRow base 5 1 (.slice p' (k + n) cap') (k + n) ((l ++ xs).map (Value.int .u8)) → Below base w w' →
      wpList Try.prog ops Q rest (a.put o.dst (.slice p' (k + n) cap')) w') : wpList Try.prog ops Q (o :: rest) a w := by
  obtain ⟨i0, hi, hz0, hz1, hz2⟩ := info_parts info5
  by_cases hn : 0 < n
  · obtain ⟨b, o', rfl, _⟩ := hB.cells.at hn
    refine wpList_append_lies _ hgd s x 22 ho base 5 i0 (.int .u8 0) 1 1 Try.underlying22 hi hz0 hz1 hz2 rfl (by decide) _ k _ hs hown ⟨b, o', none⟩ n c (xs.map (Value.int .u8)) hx (by rw [List.length_map, hB.len]; omega) hB.news (one_bytes xs) hn (by unfold maxLen; omega) (by omega) hbase w.heap.size rfl ?_
    intro g c1 w1 hown1 hgrow _ _
    refine h _ _ w1 ?_ ?_
    · rw [List.map_append]; exact hown1
    · exact (Below.refl _ _).grown hgrow hbase (fun k hk => (hown.lt k hk).1)
  · obtain rfl : n = 0 := by omega
    have hxs : xs = [] := List.length_eq_zero_iff.1 hB.len
    subst hxs
    have hk : k ≤ cap := by
      rcases hown.2 with ⟨e, hk⟩ | ⟨g, cap', cur, e, _, _, hc, _⟩
      · omega
      · cases e; exact hc
    refine wpList_append_zero hgd s x 22 ho 5 i0 Try.underlying22 hi p0 p k cap c hs hx hk ?_
    have := h p0 cap w (by rw [List.append_nil, Nat.add_zero]; exact hown) (Below.refl _ _)
    rwa [Nat.add_zero] at this

theorem Bs.ofOwn {w : World} {base n cap : Nat} {p : Option Addr} {xs : List Int} (h : w.ownsRow base 5 1 (.slice p n cap) n (xs.map (Value.int .u8)))
    (hb : n ≤ 140737488351232) (hx : ∀ x ∈ xs, 0 ≤ x ∧ x < 256) : Bs w p n cap xs := by
  rcases h.2 with ⟨e, e2⟩ | ⟨g, cap', cur, e, _⟩
  · cases e
    have hl := h.1
    have : xs = [] := List.length_eq_zero_iff.1 (by simpa using hl)
    subst this
    exact ⟨rfl, Nat.le_refl _, by omega, by simp, Lib.BytesIn.nil _ _ _⟩
  · cases e; exact Bs.owned h hb hx

end Go.Proofs.Ytbldahimdkifiaa
