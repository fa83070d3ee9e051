/-
  as: the table is the document's, about a handle.
-/
import Derived.Test.YtenmgjmbiamhcaaDoc5
import Derived.Test.YtenmgjmbiamhcaaLaw34o
namespace Go.Proofs.Ytenmgjmbiamhcaa
open Go.RowKit
set_option linter.unusedVariables false

theorem get16 {w : World} {g bm room last n : Nat} {D : DataW Unit} {f : Int → Option Int} (h : Tb w g bm room last D f n) (k : Int) (hk : wf64 k) :
    Calls Try.prog 16 #[.pointer (some ⟨g, 0, none⟩), .int .i64 k] w fun e w' => e = .returned (.tuple #[.int .i64 (valO (f k)), .int .i64 (if (f k).isSome then 0 else 6)]) ∧ Below w.heap.size w w' := by
  cases hf : f k with
  | none => exact get16_none h k hk hf
  | some x => exact get16_some h k x hk hf

/-- what a region leaves, if it comes to its end -/
def onlyNormal (K : Act → World → Prop) : Exit → Act → World → Prop
  | .normal, a, w => K a w
  | _, _, _ => False
theorem wp_post {c : Code} {Q : Exit → Act → World → Prop} {K : Act → World → Prop} {a : Act} {w : World} (h : c.wp Try.prog (onlyNormal K) a w) (hK : ∀ a w, K a w → Q .normal a w) : c.wp Try.prog Q a w :=
  Code.wp_mono (fun e a w h' => by cases e <;> first | exact hK a w h' | exact False.elim h') h

theorem own_base {w : World} {base base' : Nat} {e : TypeId} {v : Value} {n : Nat} {vs : List Value} (h : w.ownsRow base e 1 v n vs) (hb : base' ≤ base) : w.ownsRow base' e 1 v n vs := by
  refine ⟨h.1, ?_⟩
  rcases h.2 with hn | ⟨g, cap, cur, hv, hg, rest⟩
  · exact .inl hn
  · exact .inr ⟨g, cap, cur, hv, Nat.le_trans hb hg, rest⟩

theorem posL_same {w : World} {base ch ca last n m2 : Nat} {ph pa : Option Addr} {hs : List Bool} {xs : List Int} {f : Int → Option Int} (hn : n = cntB hs last) (r : Rt w base ph ch pa ca last hs xs f) {ks : List Int}
    (hl : ks.length = n) (h1 : ks.Pairwise (fun a b => a ≤ b)) (h2 : ks.Nodup) (h3 : ∀ x, x ∈ ks ↔ (f x).isSome = true) (h4 : ((posL hs last).map iv).length = m2 * 1) : m2 = n ∧ ks = posL hs last := by
  have e : ks = posL hs last := sorted_same h1 ((posL_sorted hs last).imp (fun h => Int.le_of_lt h)) h2 ((posL_sorted hs last).imp (fun h => by omega)) (fun x => (h3 x).trans (posL_f r x).symm)
  rw [List.length_map, ← e] at h4
  exact ⟨by omega, e⟩

/-- both lists are one -/
structure Same (w w' : World) (W : World) (p : Option Addr) (n c : Nat) (q : Option Addr) (d : Nat) (ks : List Int) : Prop where
  o1 : w'.ownsRow W.heap.size 3 1 (.slice p n c) n (ks.map iv)
  o2 : w'.ownsRow W.heap.size 3 1 (.slice q n d) n (ks.map iv)
  bl : Below W.heap.size W w'

theorem Same.drew {w w' W : World} {p q : Option Addr} {n c d : Nat} {ks : List Int} (h : Same w w' W p n c q d ks) : Same w w'.drew W p n c q d ks :=
  ⟨own_exc h.o1 ((Exc.refl [] _).drewN 1) (fun _ _ hm => by cases hm), own_exc h.o2 ((Exc.refl [] _).drewN 1) (fun _ _ hm => by cases hm), h.bl.drew⟩
theorem own_cell {w : World} {base blk n cap : Nat} {l : List Int} (h : w.ownsRow base 3 1 (.slice (some ⟨blk, 0, none⟩) n cap) n (l.map iv)) {i : Nat} {b : Int} (hb : l[i]? = some b) : w.cell? ⟨blk, i, none⟩ = some (.int .i64 b) := by
  obtain ⟨g, hg, _, _, hc⟩ := own_int h i b hb
  cases hg
  exact hc

set_option maxRecDepth 100000 in
set_option maxHeartbeats 1600000 in
theorem as15 {w : World} {g bm room last n base ch ca : Nat} {D : DataW Unit} {ph pa : Option Addr} {hs : List Bool} {xs : List Int} {f : Int → Option Int} (t : Tb w g bm room last D f n) (r : Rt w base ph ch pa ca last hs xs f) (hn : n = cntB hs last) (k : Int) (hk : wf64 k) :
    Calls Try.prog 15 #[.pointer (some ⟨g, 0, none⟩), .agg #[.int .i64 room, .slice ph last ch, .slice pa last ca], .int .i64 k] w fun e w' => e = .returned (.bool true) ∧ Below w.heap.size w w' := by
  obtain ⟨W, hW⟩ : ∃ W, W = w.alloc (.cells #[.int .i64 room, .slice ph last ch, .slice pa last ca] 30) := ⟨_, rfl⟩
  have sW : W.heap.size = w.heap.size + 1 := by rw [hW, World.size_alloc]
  have hB : Below w.heap.size w W := by rw [hW]; exact (Below.refl _ _).alloc (Nat.le_refl _) _
  have hrow : W.heap[w.heap.size]? = some (.cells #[.int .i64 room, .slice ph last ch, .slice pa last ca] 30 (0, 0)) := by rw [hW]; exact heap_alloc_new _ _
  have HT := Lib.hid (t.step hB)
  have HR := Lib.hid (r.step hB)
  have HROW := Lib.hid hrow
  have HB := Lib.hid hB
  have HW := Lib.hid hW
  have SW := Lib.hid sW
  have HN := Lib.hid hn
  have HK := Lib.hid hk
  have hle := t.le
  have hr2 := t.room2
  have hsm := r.small
  obtain ⟨b4, hb4⟩ : ∃ b4, b4 = w.heap.size := ⟨_, rfl⟩
  have HB4 := Lib.hid hb4
  have hR0 : Hid (∀ W', Below W.heap.size W W' → W'.heap[b4]? = some (.cells #[.int .i64 room, .slice ph last ch, .slice pa last ca] 30 (0, 0))) := fun W' hC => by rw [HB4.out]; exact (hC.block w.heap.size (by have := SW.out; omega)).trans HROW.out
  obtain ⟨ee, hee⟩ : ∃ ee : Int, ee = if (f k).isSome then 0 else 6 := ⟨_, rfl⟩
  obtain ⟨xx, hxx⟩ : ∃ xx : Int, xx = valO (f k) := ⟨_, rfl⟩
  have G1 : Hid (∀ W', Below W.heap.size W W' → Calls Try.prog 16 #[.pointer (some ⟨g, 0, none⟩), .int .i64 k] W' fun e w' => e = .returned (.tuple #[.int .i64 xx, .int .i64 ee]) ∧ Below W'.heap.size W' w') := fun W' hC => by
    rw [hee, hxx]; exact get16 (HT.out.step hC) k HK.out
  have G2 : Hid (∀ W', Below W.heap.size W W' → Calls Try.prog 25 #[.agg #[.int .i64 room, .slice ph last ch, .slice pa last ca], .int .i64 k] W' fun e w' => e = .returned (.tuple #[.int .i64 xx, .int .i64 ee]) ∧ Below W'.heap.size W' w') := fun W' hC => by
    rw [hee, hxx]; exact get25 (HR.out.step hC) room k HK.out
  clear t r hW sW hB hrow hn hk hb4 HROW hee hxx
  go_enter Try.func15, Try.ntmps15
  go_wp2_with (rw [← HW.out, ← HB4.out])
  refine (G1.out W (Below.refl _ _)).mono ?_
  rintro e w1 ⟨rfl, hB1⟩
  have c0 : w1.cell? ⟨b4, 0, none⟩ = some (.int .i64 room) := cell_of_row _ _ _ _ _ _ (hR0.out w1 hB1)
  have c1 : w1.cell? ⟨b4, 1, none⟩ = some (.slice ph last ch) := cell_of_row _ _ _ _ _ _ (hR0.out w1 hB1)
  have c2 : w1.cell? ⟨b4, 2, none⟩ = some (.slice pa last ca) := cell_of_row _ _ _ _ _ _ (hR0.out w1 hB1)
  have HB1 := Lib.hid hB1
  clear hB1
  go_wp2_with fail
  refine (G2.out w1 HB1.out).mono ?_
  rintro e w2 ⟨rfl, hB2⟩
  have HB2 := Lib.hid (Below.step HB1.out hB2)
  clear c0 c1 c2 hB2 HB1
  go_wp2_with fail
  have c0 : ∀ W' : World, Below W.heap.size W W' → W'.cell? ⟨b4, 0, none⟩ = some (.int .i64 room) := fun W' hC => cell_of_row _ _ _ _ _ _ (hR0.out W' hC)
  have c1 : ∀ W' : World, Below W.heap.size W W' → W'.cell? ⟨b4, 1, none⟩ = some (.slice ph last ch) := fun W' hC => cell_of_row _ _ _ _ _ _ (hR0.out W' hC)
  have c2 : ∀ W' : World, Below W.heap.size W W' → W'.cell? ⟨b4, 2, none⟩ = some (.slice pa last ca) := fun W' hC => cell_of_row _ _ _ _ _ _ (hR0.out W' hC)
  have C0 := Lib.hid c0
  have C1 := Lib.hid c1
  have C2 := Lib.hid c2
  clear c0 c1 c2
  have H20 : Hid (∀ W', Below W.heap.size W W' → Calls Try.prog 20 #[.pointer (some ⟨g, 0, none⟩)] W' (HOut W' f n)) := fun W' hC => handles20 (HT.out.step hC)
  have H26 : Hid (∀ W', Below W.heap.size W W' → Calls Try.prog 26 #[.agg #[.int .i64 room, .slice ph last ch, .slice pa last ca]] W' (DOut W' hs last)) := fun W' hC => handles26 (HR.out.step hC) room
  refine wp_post (K := fun a' w' => ∃ (p q : Option Addr) (c d : Nat) (ks : List Int), a' = { tmps := #[.pointer (some ⟨g, 0, none⟩), .agg #[.int .i64 room, .slice ph last ch, .slice pa last ca], .int .i64 k, undef, .pointer (some ⟨b4, 0, none⟩), undef, .bool false, .int .i64 xx, .int .i64 ee, .int .i64 xx, .int .i64 ee,
      .slice p n c, .slice q n d, undef, .tuple #[.int .i64 xx, .int .i64 ee], .pointer (some ⟨g, 0, none⟩), .int .i64 k, .tuple #[.int .i64 xx, .int .i64 ee], .int .i64 xx, .int .i64 ee, .tuple #[.int .i64 xx, .int .i64 ee],
      .agg #[.int .i64 room, .slice ph last ch, .slice pa last ca], .int .i64 k, .tuple #[.int .i64 xx, .int .i64 ee], .int .i64 xx, .int .i64 ee, .pointer (some ⟨g, 0, none⟩), .slice p n c,
      .agg #[.int .i64 room, .slice ph last ch, .slice pa last ca], .slice q n d, undef, undef, undef, undef, undef, undef, undef, undef, undef, undef, undef, undef, undef, undef, undef, undef, undef, undef, undef, undef, undef, undef, undef, undef, undef, undef, undef, undef, undef, undef, undef, undef, undef, undef, undef, undef, undef, undef, undef, undef, undef, undef, undef, undef, undef, undef, undef, undef, undef, undef, undef, undef, undef], defers := [] } ∧ ks.length = n ∧ Same W w' W p n c q d ks) ?_ (fun a5 w5 h => ?_)
  · go_region_held3 (fun W' : World => W'.cell? ⟨b4, 0, none⟩ = some (.int .i64 room) ∧ W'.cell? ⟨b4, 1, none⟩ = some (.slice ph last ch) ∧ W'.cell? ⟨b4, 2, none⟩ = some (.slice pa last ca) ∧ Below W.heap.size W W')
      (first
        | exact ⟨C0.out _ HB2.out.drew, C1.out _ HB2.out.drew, C2.out _ HB2.out.drew, HB2.out.drew⟩
        | exact ⟨C0.out _ X, C1.out _ X, C2.out _ X, X⟩)
      (first
        | (go_at_call 20
           refine (H20.out _ (‹_ ∧ _ ∧ _ ∧ Below W.heap.size W _›).2.2.2).mono ?_
           rintro e w' ⟨p, c, ks, rfl, hl1, ho1, hs1, hn1, hm1, hb1⟩
           have X := Below.step (‹_ ∧ _ ∧ _ ∧ Below W.heap.size W _›).2.2.2 hb1)
        | (go_at_call 26
           refine (H26.out _ (‹_ ∧ _ ∧ _ ∧ Below W.heap.size W _›).2.2.2).mono ?_
           rintro e w' ⟨q, m2, d, rfl, ho2, hb2⟩
           have X := Below.step (‹_ ∧ _ ∧ _ ∧ Below W.heap.size W _›).2.2.2 hb2))
    have e := posL_same HN.out HR.out hl1 hs1 hn1 hm1 ho2.1
    obtain ⟨e1, e2⟩ := e
    subst e1
    rw [← e2] at ho2
    have hb0 := HB2.out.size
    have hb9 : W.heap.size ≤ w2.drew.heap.size := hb0
    have hbx := hb1.size
    exact ⟨p, q, c, d, ks, rfl, hl1, own_base (own_exc ho1 (exc_below hb2 []) (fun _ _ hm => by cases hm)) (by omega), own_base ho2 (by omega), X⟩
  obtain ⟨p, q, c, d, ks, rfl, hl, hS⟩ := h
  have HS := Lib.hid hS
  have HL := Lib.hid hl
  clear hS hl H20 H26 G1 G2 HB2
  have b1 : (xx != xx) = false := by simp
  have b2 : (ee != ee) = false := by simp
  have b3 : ((n : Int) != (n : Int)) = false := by simp
  go_wp2_with fail
  go_loopw [47] (fun u wr => ∃ i : Nat, u = .int .i64 i ∧ i ≤ n ∧ Hid (Same W wr W p n c q d ks)) (fun u _ => n - (intOf u).toNat)
  case atStart => exact ⟨0, rfl, by omega, HS⟩
  case round =>
    clear HS
    obtain ⟨i, rfl, hi, HS⟩ := hrel
    by_cases hlt : i < n
    · obtain ⟨y, hy⟩ : ∃ y, ks[i]? = some y := ⟨ks[i]'(by have := HL.out; omega), List.getElem?_eq_getElem (by have := HL.out; omega)⟩
      obtain ⟨x1, rfl, _, hc1, cc1⟩ := own_int HS.out.o1 i y hy
      obtain ⟨x2, rfl, _, hc2, cc2⟩ := own_int HS.out.o2 i y hy
      have HY := Lib.hid hy
      have d0 : decide ((i : Int) < (n : Int)) = true := by simp; omega
      have z0 : (0 : Int) ≤ (i : Int) := by omega
      have z1 : (i : Int) < (n : Int) := by omega
      have q0 : IntKind.i64.wrap ((i : Int) + 1) = (i : Int) + 1 := IntWalk.i64_in _ (by omega)
      have y0 : (y != y) = false := by simp
      clear hy cc1 cc2
      go_wp2_with fail
      refine region_quiet (C := fun W' => Same W W' W (some ⟨x1, 0, none⟩) n c (some ⟨x2, 0, none⟩) d ks) (by kernel_rfl) (by kernel_rfl) HS.out.drew ?_
      repeat (
        refine wpQuiet_step (fun K hK => ?_)
        first
        | (refine quiet_load (by rfl) 3 _ (by rfl) ⟨x1, i, none⟩ (by rfl) (.int .i64 y) (fun W' hC => loadVar_cell (Try.isAgg3 _) (own_cell hC.o1 HY.out)) ?_
           refine hK _ ?_; clear hK K)
        | (refine quiet_load (by rfl) 3 _ (by rfl) ⟨x2, i, none⟩ (by rfl) (.int .i64 y) (fun W' hC => loadVar_cell (Try.isAgg3 _) (own_cell hC.o2 HY.out)) ?_
           refine hK _ ?_; clear hK K)
        | (refine quiet_pure (v := ?_) (by rfl) ?_ ?_
           rotate_left
           focus (intro W'; go_simp; try (with_reducible rfl))
           refine hK _ ?_; clear hK K)
        try simp only [Act.put, List.setIfInBounds_toArray, List.set_cons_zero, List.set_cons_succ])
      refine wpQuiet_nil ?_
      intro w6 hS6
      have HS6 := Lib.hid hS6
      clear hS6
      go_wp2_with fail
      go_roundw
      case rel => exact ⟨i + 1, by go_num, by omega, HS6⟩
      case measure => simp [intOf]; omega
    · obtain rfl : i = n := by omega
      have d0 : decide ((i : Int) < (i : Int)) = false := by simp
      have L24 : Hid (∀ W', Below W.heap.size W W' → Calls Try.prog 24 #[.agg #[.int .i64 room, .slice ph last ch, .slice pa last ca]] W' fun e w' => e = .returned (.int .i64 i) ∧ Below W.heap.size W w') := fun W' hC =>
        (len24 (HR.out.step hC) room).mono fun e w' he => ⟨by rw [he.1, ← HN.out], by rw [he.2]; exact hC.alloc hC.size _⟩
      have L18 : Hid (∀ W', Below W.heap.size W W' → Calls Try.prog 18 #[.pointer (some ⟨g, 0, none⟩)] W' fun e w' => e = .returned (.int .i64 i) ∧ Below W.heap.size W w') := fun W' hC =>
        (len18 (HT.out.step hC)).mono fun e w' he => ⟨he.1, by rw [he.2]; exact hC⟩
      have L19 : Hid (∀ W', Below W.heap.size W W' → Calls Try.prog 19 #[.pointer (some ⟨g, 0, none⟩)] W' fun e w' => e = .returned (.int .i64 ((room : Int) - i)) ∧ Below W.heap.size W w') := fun W' hC =>
        (free19 (HT.out.step hC)).mono fun e w' he => ⟨he.1, by obtain ⟨z, hz⟩ := he.2; rw [hz]; exact below_drewN hC z⟩
      have L17 : Hid (∀ W', Below W.heap.size W W' → Calls Try.prog 17 #[.pointer (some ⟨g, 0, none⟩)] W' fun e w' => e = .returned (.int .i64 last) ∧ Below W.heap.size W w') := fun W' hC =>
        (last17 (HT.out.step hC)).mono fun e w' he => ⟨he.1, by rw [he.2]; exact hC⟩
      have e1 : ((i : Int) == (i : Int)) = true := by simp
      have e2 : ((room : Int) - (i : Int) == (room : Int) - (i : Int)) = true := by simp
      have e3 : ((last : Int) == (last : Int)) = true := by simp
      have q0 : IntKind.i64.wrap ((room : Int) - (i : Int)) = (room : Int) - (i : Int) := IntWalk.i64_in _ (by omega)
      go_wp2_with fail
      refine region_quiet (C := fun W' => Below W.heap.size W W') (by kernel_rfl) (by kernel_rfl) HS.out.bl.drew ?_
      repeat (
        refine wpQuiet_step (fun K hK => ?_)
        first
        | (refine quiet_load (by rfl) 30 _ (by rfl) ⟨b4, 0, none⟩ (by rfl) (.agg #[.int .i64 room, .slice ph last ch, .slice pa last ca]) (fun W' hC => loadVar_row30 (hR0.out W' hC)) ?_
           refine hK _ ?_; clear hK K)
        | (refine quiet_load (by rfl) 3 _ (by rfl) ⟨b4, 0, none⟩ (by rfl) (.int .i64 room) (fun W' hC => loadVar_cell (Try.isAgg3 _) (C0.out W' hC)) ?_
           refine hK _ ?_; clear hK K)
        | (refine quiet_load (by rfl) 27 _ (by rfl) ⟨b4, 1, none⟩ (by rfl) (.slice ph last ch) (fun W' hC => loadVar_cell (Try.isAgg27 _) (C1.out W' hC)) ?_
           refine hK _ ?_; clear hK K)
        | (refine quiet_call (by rfl) 24 #[.agg #[.int .i64 room, .slice ph last ch, .slice pa last ca]] ?_ (.int .i64 i) (fun W' hC => L24.out W' hC) ?_
           · (intro W'; go_simp)
           refine hK _ ?_; clear hK K)
        | (refine quiet_call (by rfl) 18 #[.pointer (some ⟨g, 0, none⟩)] ?_ (.int .i64 i) (fun W' hC => L18.out W' hC) ?_
           · (intro W'; go_simp)
           refine hK _ ?_; clear hK K)
        | (refine quiet_call (by rfl) 19 #[.pointer (some ⟨g, 0, none⟩)] ?_ (.int .i64 ((room : Int) - i)) (fun W' hC => L19.out W' hC) ?_
           · (intro W'; go_simp)
           refine hK _ ?_; clear hK K)
        | (refine quiet_call (by rfl) 17 #[.pointer (some ⟨g, 0, none⟩)] ?_ (.int .i64 last) (fun W' hC => L17.out W' hC) ?_
           · (intro W'; go_simp)
           refine hK _ ?_; clear hK K)
        | (refine quiet_pure (v := ?_) (by rfl) ?_ ?_
           rotate_left
           focus (intro W'; go_simp; try (with_reducible rfl))
           refine hK _ ?_; clear hK K)
        try simp only [Act.put, List.setIfInBounds_toArray, List.set_cons_zero, List.set_cons_succ])
      refine wpQuiet_nil ?_
      intro w6 hB6
      have HB6 := Lib.hid (Below.step HB.out hB6)
      clear hB6
      go_wp2_with fail
      go_ret
      exact ⟨rfl, HB6.out⟩

end Go.Proofs.Ytenmgjmbiamhcaa
