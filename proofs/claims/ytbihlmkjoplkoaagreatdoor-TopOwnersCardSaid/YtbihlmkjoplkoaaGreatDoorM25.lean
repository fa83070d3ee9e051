/-
  For the statement TopOwners: slices.Grow, slices.Concat: bytes put behind one another.
-/
import Derived.Test.YtbihlmkjoplkoaaGreatDoorM24
import Derived.Deep.AppendLies
import Derived.LoopN
namespace Go.Proofs.YtbihlmkjoplkoaaGreatDoor
open Go.RowKit
set_option linter.unusedVariables false

theorem Bs.news {w : World} {b o n c : Nat} {xs : List Int} (h : Bs w (some ⟨b, o, none⟩) n c xs) :
    ∀ j u, (xs.map (Value.int .u8))[j]? = some u → w.cell? ((⟨b, o, none⟩ : Addr).add j) = some u := by
  intro j u hj
  have hjl : j < xs.length := by
    have := (List.getElem?_eq_some_iff.1 hj).1
    rwa [List.length_map] at this
  obtain ⟨b', o', e, hc⟩ := h.cells.at (by rw [← h.len]; omega)
  cases e
  have e : (⟨b, o, none⟩ : Addr).add j = ⟨b, o + j, none⟩ := by unfold Addr.add; split <;> simp_all
  rw [e, hc j (by rw [← h.len]; exact hjl), ← hj]
  simp [List.getD_eq_getElem?_getD, hjl]

theorem one_bytes (xs : List Int) : ∀ u ∈ xs.map (Value.int .u8), u.oneCell' = true := by
  intro u hu
  obtain ⟨x, _, rfl⟩ := List.mem_map.1 hu
  rfl

/-- append of bytes -/
theorem wpList_append_bytes {w : World} {ops : Array Oper} {rest : List Oper} {o : Oper} {a : Act} {Q : Exit → Act → World → Prop} (hgd : o.guard = none) (s x : Operand)
    (ho : o.op = .call { callee := .builtin .append, args := #[s, x], argTypes := #[41, 41] })
    (base : Nat) (p0 : Option Addr) (k cap : Nat) (l : List Int) (hs : a.eval s = .slice p0 k cap) (hown : w.ownsRow base 5 1 (.slice p0 k cap) k (l.map (Value.int .u8)))
    (p : Option Addr) (n c : Nat) (xs : List Int) (hx : a.eval x = .slice p n c) (hB : Bs w p n c xs) (hsum : k + n ≤ 140737488351232) (hbase : base ≤ w.heap.size)
    (h : ∀ p' cap' w', w'.ownsRow base 5 1 (.slice p' (k + n) cap') (k + n) ((l ++ xs).map (Value.int .u8)) → Below base w w' →
      wpList Tryz.prog ops Q rest (a.put o.dst (.slice p' (k + n) cap')) w') : wpList Tryz.prog ops Q (o :: rest) a w := by
  obtain ⟨i0, hi, hz0, hz1, hz2⟩ := info_parts info5
  by_cases hn : 0 < n
  · obtain ⟨b, o', rfl, _⟩ := hB.cells.at hn
    refine wpList_append_lies _ hgd s x 41 ho base 5 i0 (.int .u8 0) 1 1 Tryz.underlying41 hi hz0 hz1 hz2 rfl (by decide) _ k _ hs hown ⟨b, o', none⟩ n c (xs.map (Value.int .u8)) hx (by rw [List.length_map, hB.len]; omega) hB.news (one_bytes xs) hn (by unfold maxLen; omega) (by omega) hbase w.heap.size rfl ?_
    intro g c1 w1 hown1 hgrow _ _
    refine h _ _ w1 ?_ ?_
    · rw [List.map_append]; exact hown1
    · exact (Below.refl _ _).grown hgrow hbase (fun k hk => (hown.lt k hk).1)
  · obtain rfl : n = 0 := by omega
    have hxs : xs = [] := List.length_eq_zero_iff.1 hB.len
    subst hxs
    have hk : k ≤ cap := by
      rcases hown.2 with ⟨e, hk⟩ | ⟨g, cap', cur, e, _, _, hc, _⟩
      · omega
      · cases e; exact hc
    refine wpList_append_zero hgd s x 41 ho 5 i0 Tryz.underlying41 hi p0 p k cap c hs hx hk ?_
    have := h p0 cap w (by rw [List.append_nil, Nat.add_zero]; exact hown) (Below.refl _ _)
    rwa [Nat.add_zero] at this

set_option maxHeartbeats 800000 in
set_option maxRecDepth 100000 in
theorem Grow185 (w : World) (n : Nat) (h : n ≤ 140737488351232) :
    Calls Tryz.prog 185 #[.slice none 0 0, .int .i64 n] w fun e w' => ∃ p c, e = .returned (.slice p 0 c) ∧ w'.ownsRow w.heap.size 5 1 (.slice p 0 c) 0 [] ∧ n ≤ c ∧ Below w.heap.size w w' := by
  by_cases hn : n = 0
  · subst hn
    go_enter Tryz.func185, Tryz.ntmps185
    go_wp2_with fail
    go_ret
    exact ⟨none, 0, rfl, World.ownsRow_nil _ _ _ _, Nat.le_refl _, Below.refl _ _⟩
  · have q1 : wrap64 (n : Int) = n := IntWalk.wrap64_in _ (by omega)
    have q3 : (0 : Int) < n := by omega
    have d0 : decide ((n : Int) < 0) = false := by simp
    have d1 : decide ((n : Int) > 0) = true := by simp; omega
    have HN := Lib.hid hn
    have HH := Lib.hid h
    clear hn h
    go_enter Tryz.func185, Tryz.ntmps185
    have e5 : Hid (Tryz.t5.bytes = 1) := by { show _ = _; kernel_rfl }
    have NZ : Hid (Builtin.nextslicecap n 0 = n) := by show _ = _; rw [nextslicecap_zero (by omega)]
    have Q1 := Lib.hid q1
    go_wp2_with fail
    all_goals first
      | (exfalso
         have h1 := Q1.out
         have h2 := e5.out
         have h3 := NZ.out
         have h4 := HH.out
         have h5 := HN.out
         simp only [h1, h2, Int.toNat_natCast, h3] at *
         omega)
      | (go_ret
         refine ⟨some ⟨w.heap.size, 0, none⟩, grownCap w n 0 5, rfl, ⟨by simp, Or.inr ⟨w.heap.size, grownCap w n 0 5, _, rfl, Nat.le_refl _, heap_alloc_new _ _, Nat.zero_le _, grownCap_le_maxLen _ _ _ _ (by have := HH.out; unfold maxLen; omega), ?_, by simp⟩⟩, grownCap_ge _ _ _ _, ((Below.refl _ _).alloc (Nat.le_refl _) _).drew⟩
         have := grownCap_ge w n 0 5
         rw [Array.size_append, size_zeroCells, size_zeroCells]
         unfold grownCap at this ⊢
         simp
         omega)

set_option maxHeartbeats 1600000 in
set_option maxRecDepth 100000 in
theorem Concat164 (w : World) (g : Nat) (p1 p2 p3 : Option Addr) (n1 n2 n3 c1 c2 c3 : Nat) (x1 x2 x3 : List Int) (g0 : w.cell? ⟨g, 0, none⟩ = some (.slice p1 n1 c1)) (g1 : w.cell? ⟨g, 1, none⟩ = some (.slice p2 n2 c2)) (g2 : w.cell? ⟨g, 2, none⟩ = some (.slice p3 n3 c3))
    (b1 : Bs w p1 n1 c1 x1) (b2 : Bs w p2 n2 c2 x2) (b3 : Bs w p3 n3 c3 x3) (h1 : n1 ≤ 65536) (h2 : n2 ≤ 65536) (h3 : n3 ≤ 65536) :
    Calls Tryz.prog 164 #[.slice (some ⟨g, 0, none⟩) 3 3] w fun e w' => ∃ p c, e = .returned (.slice p (n1 + n2 + n3) c) ∧ w'.ownsRow w.heap.size 5 1 (.slice p (n1 + n2 + n3) c) (n1 + n2 + n3) ((x1 ++ x2 ++ x3).map (Value.int .u8)) ∧ Below w.heap.size w w' := by
  have H1 := Lib.hid b1
  have H2 := Lib.hid b2
  have H3 := Lib.hid b3
  have HL := Lib.hid (show n1 ≤ 65536 ∧ n2 ≤ 65536 ∧ n3 ≤ 65536 from ⟨h1, h2, h3⟩)
  have q1 : wrap64 (n1 : Int) = n1 := IntWalk.wrap64_in _ (by omega)
  have q2 : wrap64 ((n1 : Int) + n2) = n1 + n2 := IntWalk.wrap64_in _ (by omega)
  have q3 : wrap64 ((n1 : Int) + n2 + n3) = n1 + n2 + n3 := IntWalk.wrap64_in _ (by omega)
  have d1 : ¬ ((n1 : Int) < 0) := by omega
  have d2 : ¬ ((n1 : Int) + n2 < 0) := by omega
  have d3 : ¬ ((n1 : Int) + n2 + n3 < 0) := by omega
  clear b1 b2 b3 h1 h2 h3
  go_enter Tryz.func164, Tryz.ntmps164
  go_wp2_with fail
  refine wp_loop_rounds 4 ?_
  rw [rounds_succ]
  go_wp2_with fail
  simp only [q1]
  rw [rounds_succ]
  go_wp2_with fail
  simp only [q2]
  rw [rounds_succ]
  go_wp2_with fail
  simp only [q3]
  rw [rounds_succ]
  go_wp2_with fail
  have hg : Hid (g < w.heap.size) := block_lt_of_cell g0
  have q4 : (n1 : Int) + n2 + n3 = ((n1 + n2 + n3 : Nat) : Int) := by push_cast; rfl
  rw [q4]
  clear q4 d1 d2 d3
  refine (Grow185 w (n1 + n2 + n3) (by have := HL.out; omega)).mono ?_; rintro e w1 ⟨p, c, rfl, hown, hc, hbel⟩
  have O0 := Lib.hid hown
  have L0 := Lib.hid hbel
  have k0 : w1.cell? ⟨g, 0, none⟩ = some (.slice p1 n1 c1) := by rw [hbel.cell hg.out]; exact g0
  have k1 : w1.cell? ⟨g, 1, none⟩ = some (.slice p2 n2 c2) := by rw [hbel.cell hg.out]; exact g1
  have k2 : w1.cell? ⟨g, 2, none⟩ = some (.slice p3 n3 c3) := by rw [hbel.cell hg.out]; exact g2
  have G := Lib.hid (show w1.cell? ⟨g, 0, none⟩ = some (.slice p1 n1 c1) ∧ w1.cell? ⟨g, 1, none⟩ = some (.slice p2 n2 c2) ∧ w1.cell? ⟨g, 2, none⟩ = some (.slice p3 n3 c3) from ⟨k0, k1, k2⟩)
  have B1 := Lib.hid (H1.out.below hbel)
  have B2 := Lib.hid (H2.out.below hbel)
  have B3 := Lib.hid (H3.out.below hbel)
  clear hown hbel g0 g1 g2 q1 q2 q3 k1 k2 hc
  go_wp2_with fail
  refine wp_loop_rounds 4 ?_
  rw [rounds_succ]
  go_wp2_with (at_builtin; refine stop ?_)
  refine unhid ?_
  refine wpList_append_bytes rfl _ _ (by rfl) w.heap.size p 0 c [] (by rfl) O0.out p1 n1 c1 x1 (by rfl) B1.out (by have := HL.out; omega) L0.out.size ?_
  intro pA cA w2 hown hbel
  rw [Nat.zero_add, List.nil_append] at hown
  rw [Nat.zero_add]
  have O1 := Lib.hid hown
  have L1 := Lib.hid (L0.out.trans hbel)
  have k1 : w2.cell? ⟨g, 1, none⟩ = some (.slice p2 n2 c2) := by rw [hbel.cell hg.out]; exact G.out.2.1
  have k2 : w2.cell? ⟨g, 2, none⟩ = some (.slice p3 n3 c3) := by rw [hbel.cell hg.out]; exact G.out.2.2
  have G := Lib.hid k2
  have B2 := Lib.hid (H2.out.below L1.out)
  have B3 := Lib.hid (H3.out.below L1.out)
  clear hown hbel k0 k2
  go_wp2_with fail
  rw [rounds_succ]
  go_wp2_with (at_builtin; refine stop ?_)
  refine unhid ?_
  refine wpList_append_bytes rfl _ _ (by rfl) w.heap.size pA n1 cA x1 (by rfl) O1.out p2 n2 c2 x2 (by rfl) B2.out (by have := HL.out; omega) L1.out.size ?_
  intro pB cB w3 hown hbel
  have O2 := Lib.hid hown
  have L2 := Lib.hid (L1.out.trans hbel)
  have k2 : w3.cell? ⟨g, 2, none⟩ = some (.slice p3 n3 c3) := by rw [hbel.cell hg.out]; exact G.out
  have B3 := Lib.hid (H3.out.below L2.out)
  clear hown hbel k1
  go_wp2_with fail
  rw [rounds_succ]
  go_wp2_with (at_builtin; refine stop ?_)
  refine unhid ?_
  refine wpList_append_bytes rfl _ _ (by rfl) w.heap.size pB (n1 + n2) cB (x1 ++ x2) (by rfl) O2.out p3 n3 c3 x3 (by rfl) B3.out (by have := HL.out; omega) L2.out.size ?_
  intro pC cC w4 hown hbel
  have O3 := Lib.hid hown
  have L3 := Lib.hid (L2.out.trans hbel)
  clear hown hbel k2
  go_wp2_with fail
  rw [rounds_succ]
  go_wp2_with fail
  go_ret
  exact ⟨_, _, rfl, O3.out, L3.out⟩

end Go.Proofs.YtbihlmkjoplkoaaGreatDoor
