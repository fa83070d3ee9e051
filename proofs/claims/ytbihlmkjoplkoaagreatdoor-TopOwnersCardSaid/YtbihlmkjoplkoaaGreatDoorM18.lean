/-
  For the statement TopOwners: Nodes: a copy of a node's part; Nodes: made, copied, turned; Nodes: Copy, Own, and what is set.
-/
import Derived.Test.YtbihlmkjoplkoaaGreatDoorM17
/-
  Nodes: a copy of a node's part.
-/
namespace Go.Proofs.YtbihlmkjoplkoaaGreatDoor
open Go.RowKit
set_option linter.unusedVariables false

/-- what Part hands back: new bytes -/
def PartR (B : Nat) (w w' : World) (xs : List Int) (e : Ending) : Prop := ∃ p c, e = .returned (.slice p xs.length c) ∧ Kb B w' p xs.length c xs ∧ Below w.heap.size w w'

/-- where they lie -/
def PartX (B : Nat) (w w' : World) (xs : List Int) (e : Ending) : Prop := e = .returned (.slice (some ⟨w.heap.size, 0, none⟩) xs.length xs.length) ∧ Kb B w' (some ⟨w.heap.size, 0, none⟩) xs.length xs.length xs ∧ Below w.heap.size w w'

theorem Kb.src {B : Nat} {w : World} {p : Option Addr} {n c : Nat} {xs : List Int} (h : Kb B w p n c xs) (h0 : 0 < n) : ∃ ad, p = some ad ∧ ∀ j v, (xs.map (Value.int .u8))[j]? = some v → w.cell? (ad.add j) = some v := by
  obtain ⟨b, o, e, hc⟩ := h.bs.cells.at h0
  refine ⟨_, e, fun j v hv => ?_⟩
  rw [List.getElem?_map] at hv
  have hj : j < n := by
    cases hx : xs[j]? with
    | none => rw [hx] at hv; cases hv
    | some x => have := (List.getElem?_eq_some_iff.1 hx).1; have := h.bs.len; omega
  have e2 : (⟨b, o, none⟩ : Addr).add j = ⟨b, o + j, none⟩ := by unfold Addr.add; split <;> simp_all
  rw [e2, hc j hj, List.getD_eq_getElem?_getD]
  cases hx : xs[j]? with
  | none => rw [hx] at hv; cases hv
  | some x => rw [hx] at hv; simpa using hv

theorem one_u8 (xs : List Int) : ∀ v ∈ xs.map (Value.int .u8), v.oneCell' = true := by
  intro v hv; obtain ⟨x, _, rfl⟩ := List.mem_map.1 hv; rfl

set_option maxRecDepth 100000 in
set_option maxHeartbeats 800000 in
theorem part58x {B : Nat} {w : World} {S : Store} {a : Nat} {d : ND} (h : Sto B w S) (hd : S a = some d) : Calls Tryz.prog 58 #[.pointer (some ⟨a, 0, none⟩)] w fun e w' => PartX B w w' d.part e := by
  obtain ⟨FQ, h⟩ := h
  obtain ⟨p, n, c, kb, hn⟩ := h.node a d hd
  have c0 := hn.cPart
  have hlen := hn.part.bs.len
  have hbig := hn.part.bs.big
  have haw : a < w.heap.size := block_lt_of_cell c0
  have HP := Lib.hid hn.part
  obtain ⟨xs, hxs⟩ : ∃ xs, xs = d.part := ⟨_, rfl⟩
  rw [← hxs] at HP hlen ⊢
  clear h hd hn hxs
  subst hlen
  obtain ⟨n, hnn⟩ : ∃ n, n = xs.length := ⟨_, rfl⟩
  rw [← hnn] at HP c0 hbig
  have HN := Lib.hid hnn
  clear hnn
  go_enter Tryz.func58, Tryz.ntmps58
  go_wp2_with (at_make; refine stop ?_)
  refine unhid ?_
  obtain ⟨i0, hi, hz0, hz1, hz2⟩ := info_parts info5
  refine wpList_make_full _ rfl _ _ 41 (by rfl) w.heap.size 5 i0 (.int .u8 0) 1 Tryz.underlying41 hi hz0 hz1 .i64 .i64 n n n (by rfl) (by rfl) rfl rfl (by rw [hz2]; omega) (by unfold maxLen; omega) (Nat.le_refl _) ?_
  intro w1 hown hgrow
  have hB1 := (Below.refl w.heap.size w).grown hgrow (Nat.le_refl _) (fun g hg => by cases hg)
  clear hi hz0 hz1 hz2 hgrow
  rcases hown.2 with ⟨e1, _⟩ | ⟨g, cap, cur, e1, hb, hg, hc1, hc2, hc3, hc4⟩
  · cases e1
  · cases e1
    have HG := Lib.hid hg
    have HS : Hid (cur.size = n) := by show _ = _; rw [hc3]; omega
    have HB := Lib.hid hB1
    have c1 : w1.cell? ⟨a, 1, none⟩ = some (.slice p n c) := (hB1.cell (p := ⟨a, 1, none⟩) haw).trans c0
    have HP1 := Lib.hid (HP.out.step hB1)
    clear hown hb hg hc1 hc2 hc3 hc4 hB1 c0
    go_wp2_with (refine wpList_copy_splice rfl (.tmp 12) (.tmp 16) 41 41 (by rfl) 5 Tryz.underlying41 size5 (some ⟨w.heap.size, 0, none⟩) p n n n c (by rfl) (by rfl) w.heap.size 0 cur.toList 5 (by simpa using HG.out) (xs.map (Value.int .u8)) (by rw [List.length_map, ← HN.out]; show n = min n n; omega) (fun h0 => ⟨rfl, HP1.out.src (by rw [List.length_map, ← HN.out] at h0; exact h0)⟩) (by rw [List.length_map, ← HN.out, Array.length_toList, HS.out]; omega) (one_u8 xs) w.heap.size w HB.out (Nat.le_refl _) ?_; intro w2 hg2 hB2; refine stop ?_)
    refine unhid ?_
    have HB2 := Lib.hid hB2
    have HG2 : Hid (w2.heap[w.heap.size]? = some (.cells (xs.map (Value.int .u8)).toArray 5 (0, 0))) := by
      show _ = _
      have e := hg2.out
      have e2 : splice cur.toList 0 (xs.map (Value.int .u8)) = xs.map (Value.int .u8) := by
        unfold splice
        rw [List.length_map, ← HN.out, Nat.zero_add, List.drop_of_length_le (by rw [Array.length_toList, HS.out]; omega)]
        simp
      rw [e2] at e; exact e
    clear hB2 hg2
    go_wp2_with fail
    go_ret
    refine ⟨by rw [HN.out]; rfl, ⟨⟨rfl, Nat.le_refl _, by rw [← HN.out]; exact hbig, HP.out.bs.byte, fun _ => ⟨_, 0, rfl, fun i hi => ?_⟩⟩, fun _ q hq => ?_⟩, HB2.out⟩
    · rw [Nat.zero_add, cell_of_row _ _ _ _ _ _ HG2.out]
      simp [List.getD_eq_getElem?_getD, hi]
    · cases hq
      exact ⟨heap_lt HG2.out, Or.inr ⟨_, _, HG2.out⟩⟩
theorem part58 {B : Nat} {w : World} {S : Store} {a : Nat} {d : ND} (h : Sto B w S) (hd : S a = some d) : Calls Tryz.prog 58 #[.pointer (some ⟨a, 0, none⟩)] w fun e w' => PartR B w w' d.part e :=
  (part58x h hd).mono fun e w' ⟨h1, h2, h3⟩ => ⟨_, _, h1, h2, h3⟩
theorem part58_nil (w : World) : Calls Tryz.prog 58 #[.pointer none] w fun e w' => e = .returned (.slice none 0 0) ∧ w' = w := by
  go_enter Tryz.func58, Tryz.ntmps58
  go_wp2_with fail
  go_ret
  exact ⟨rfl, rfl⟩

end Go.Proofs.YtbihlmkjoplkoaaGreatDoor
/-
  Nodes: made, copied, turned.
-/
namespace Go.Proofs.YtbihlmkjoplkoaaGreatDoor
open Go.RowKit
set_option linter.unusedVariables false

/-- the store, and the world's struct -/
structure Env (B wb : Nat) (o : Int) (w : World) (S : Store) : Prop where
  sto : Sto B w S
  wld : Wld w wb o
  base : B ≤ wb

section
variable {B wb : Nat} {o : Int} {w w' : World} {S : Store}
theorem Env.size (h : Env B wb o w S) : B ≤ w.heap.size := Nat.le_of_lt (Nat.lt_of_le_of_lt h.base h.wld.lt)
theorem Env.below (h : Env B wb o w S) (k : Below w.heap.size w w') : Env B wb o w' S := ⟨h.sto.step k, h.wld.step k, h.base⟩
theorem Env.oth (h : Env B wb o w S) (k : Below w.heap.size w w') : Oth B wb w w' := Oth.below k h.size
theorem Env.drewN (h : Env B wb o w S) (z : Nat) : Env B wb o (w.drewN z) S := h.below (below_drewN (Below.refl _ _) z)
theorem Env.softO (h : Env B wb o w S) (k : Exc [wb] w w') : Oth B wb w w' := Oth.exc k (fun j hj => by simp at hj; subst hj; exact ⟨h.base, Or.inl rfl⟩) h.size
theorem Env.kb (h : Env B wb o w S) (k : Oth B wb w w') {p : Option Addr} {n c : Nat} {xs : List Int} (hk : Kb B w p n c xs) : Kb B w' p n c xs := hk.oth k h.wld
theorem Env.soft (h : Env B wb o w S) (k : Exc [wb] w w') {o' : Int} (hw : Wld w' wb o') : Env B wb o' w' S := by
  obtain ⟨⟨FQ, hs⟩, h2, h3⟩ := h
  have ho := Env.softO ⟨⟨FQ, hs⟩, h2, h3⟩ k
  exact ⟨⟨FQ, hs.keep (fun j hj => k.block j hj.lt (fun e => by simp at e; subst e; exact h2.notSt hj)) (fun _ _ _ _ hk => hk.oth ho h2)⟩, hw, h3⟩

/-- a node is made -/
theorem Env.make (h : Env B wb o w S) (k : Exc [wb] w w') (hw : Wld w' wb o) {a : Nat} {d : ND} {fq : List Nat} {p : Option Addr} {n c : Nat} {kb : Option Nat} (hn : NodeM B w' a d fq p n c kb) (hnew : ∀ j ∈ a :: fq, w.heap.size ≤ j) :
    S a = none ∧ Env B wb o w' (stS S a d) ∧ Oth B wb w w' := by
  have ho := h.softO k
  have hna : S a = none := by
    cases hS : S a with
    | none => rfl
    | some d' => have := (h.sto.lt (a := a) (by rw [hS]; simp)).2; have := hnew a (by simp); omega
  obtain ⟨⟨FQ, hs⟩, h2, h3⟩ := h
  exact ⟨hna, ⟨⟨_, hs.put hn (fun j hj _ => k.block j hj.lt (fun e => by simp at e; subst e; exact h2.notSt hj)) (fun _ _ _ _ hk => hk.oth ho h2) (fun j hj => Or.inr (hnew j hj))⟩, hw, h3⟩, ho⟩

/-- a node is turned -/
theorem Env.turn {FQ : Nat → List Nat} (h : Env B wb o w S) (hs : StoF B w S FQ) {a : Nat} (ha : S a ≠ none) (k : Exc (a :: FQ a) w w') {d : ND} {fq : List Nat} {p : Option Addr} {n c : Nat} {kb : Option Nat} (hn : NodeM B w' a d fq p n c kb)
    (hnew : ∀ j ∈ a :: fq, j ∈ a :: FQ a ∨ w.heap.size ≤ j) : Env B wb o w' (stS S a d) ∧ Oth B wb w w' := by
  have ho : Oth B wb w w' := Oth.exc k (fun j hj => ⟨hs.low ha j hj, Or.inr (Or.inl (hs.isSt ha j hj))⟩) h.size
  have hwb : wb ∉ a :: FQ a := fun hin => h.wld.notSt (hs.isSt ha wb hin)
  exact ⟨⟨⟨_, hs.put hn (fun j hj hh => k.block j hj.lt (hh.resolve_left ha)) (fun _ _ _ _ hk => hk.oth ho h.wld) (fun j hj => (hnew j hj).imp (fun q => ⟨ha, q⟩) id)⟩, h.wld.same (k.block wb h.wld.lt hwb), h.base⟩, ho⟩
end

/-- a new slice of the same bytes -/
def CloneR (B : Nat) (w w' : World) (n : Nat) (xs : List Int) (e : Ending) : Prop := ∃ p c, e = .returned (.slice p n c) ∧ Kb B w' p n c xs ∧ Below w.heap.size w w'

theorem clone101 {B : Nat} {w : World} {p : Option Addr} {n c : Nat} {xs : List Int} (h : Kb B w p n c xs) : Calls Tryz.prog 101 #[.slice p n c] w fun e w' => CloneR B w w' n xs e := by
  cases p with
  | none =>
    have hn : n = 0 := by
      by_cases h0 : 0 < n
      · obtain ⟨_, _, e, _⟩ := h.bs.cells.at h0; cases e
      · omega
    subst hn
    have hx : xs = [] := List.length_eq_zero_iff.1 h.bs.len
    subst hx
    refine (Tryz.bytes_Clone_nil 0 c w).mono ?_
    rintro e w' ⟨rfl, rfl⟩
    exact ⟨none, 0, rfl, ⟨⟨rfl, Nat.le_refl _, by omega, by simp, Lib.BytesIn.nil _ _ _⟩, fun _ q hq => by cases hq⟩, Below.refl _ _⟩
  | some a =>
    refine (Tryz.bytes_Clone_at a n c xs w h.bs.len (by have := h.bs.big; omega) (fun i hi => ?_)).mono ?_
    · obtain ⟨b, o, e, hc⟩ := h.bs.cells.at (by omega)
      cases e
      have e2 : (⟨b, o, none⟩ : Addr).add i = ⟨b, o + i, none⟩ := by unfold Addr.add; split <;> simp_all
      rw [e2]; exact hc i hi
    · rintro e w' ⟨v, rfl, hown, _, hb⟩
      rcases hown.2 with ⟨rfl, h0⟩ | ⟨g, cap, cur, rfl, _⟩
      · subst h0
        have hx : xs = [] := List.length_eq_zero_iff.1 h.bs.len
        subst hx
        exact ⟨none, 0, rfl, ⟨⟨rfl, Nat.le_refl _, by omega, by simp, Lib.BytesIn.nil _ _ _⟩, fun _ q hq => by cases hq⟩, hb⟩
      · exact ⟨_, _, rfl, Kb.ofOwn hown h.bs.big h.bs.byte, hb⟩

/-- a new node -/
def Made (B wb : Nat) (o : Int) (w w' : World) (S : Store) (d : ND) (e : Ending) : Prop := ∃ a, e = .returned (.pointer (some ⟨a, 0, none⟩)) ∧ S a = none ∧ Env B wb o w' (stS S a d) ∧ Oth B wb w w'

section
variable {B wb : Nat} {o : Int} {w : World} {S : Store}

set_option maxHeartbeats 800000 in
theorem leaf69 (h : Env B wb o w S) (q v : Int) {p : Option Addr} {n c : Nat} {xs : List Int} (hp : Kb B w p n c xs) (hv : 0 ≤ v ∧ v < 18446744073709551616) :
    Calls Tryz.prog 69 #[.pointer (some ⟨wb, 0, none⟩), .int .u64 q, .slice p n c, .int .u64 v] w fun e w' => Made B wb o w w' S ⟨q, xs, v, true, true, fun _ => none⟩ e := by
  have H := Lib.hid h
  have HP := Lib.hid hp
  have HV := Lib.hid hv
  clear h hp hv
  go_enter Tryz.func69, Tryz.ntmps69
  go_wp2_with fail
  refine (made1 H.out.wld).mono ?_; rintro e w1 ⟨rfl, h1, hx⟩
  have H1 := Lib.hid h1
  have HX1 := Lib.hid hx
  have HP1 := Lib.hid (H.out.kb (H.out.softO hx) HP.out)
  clear h1 hx
  go_wp2_with fail
  refine (clone101 HP1.out).mono ?_; rintro e w2 ⟨p2, c2, rfl, hk, hb⟩
  have HK := Lib.hid hk
  have HB := Lib.hid hb
  clear hk hb
  go_wp2_with fail
  go_ret
  have hB3 : Below w2.heap.size w2 (w2.alloc (.cells #[.int .u64 q, .slice p2 n c2, .int .u64 v, .bool true, .pointer none] 116)) := (Below.refl _ _).alloc (Nat.le_refl _) _
  have hsz : w.heap.size ≤ w2.heap.size := Nat.le_trans HX1.out.size HB.out.size
  have hx3 := (HX1.out.trans (Exc.ofBelow HB.out [wb])).trans (Exc.ofBelow hB3 [wb])
  have hBs := H.out.size
  refine ⟨w2.heap.size, rfl, H.out.make hx3 ((H1.out.step HB.out).step hB3) (p := p2) (n := n) (c := c2) (kb := none) (fq := []) ⟨heap_alloc_new _ _, HK.out.step hB3, ⟨rfl, rfl, fun _ => rfl⟩, by simp, fun j hj => by simp at hj; subst hj; omega, HV.out⟩ (fun j hj => by simp at hj; subst hj; exact hsz)⟩

set_option maxHeartbeats 800000 in
theorem inner70 (h : Env B wb o w S) (q : Int) {p : Option Addr} {n c : Nat} {xs : List Int} (hp : Kb B w p n c xs) :
    Calls Tryz.prog 70 #[.pointer (some ⟨wb, 0, none⟩), .int .u64 q, .slice p n c] w fun e w' => Made B wb o w w' S ⟨q, xs, 0, false, false, fun _ => none⟩ e := by
  have H := Lib.hid h
  have HP := Lib.hid hp
  clear h hp
  go_enter Tryz.func70, Tryz.ntmps70
  go_wp2_with fail
  refine (made1 H.out.wld).mono ?_; rintro e w1 ⟨rfl, h1, hx⟩
  have H1 := Lib.hid h1
  have HX1 := Lib.hid hx
  have HP1 := Lib.hid (H.out.kb (H.out.softO hx) HP.out)
  clear h1 hx
  go_wp2_with fail
  refine (clone101 HP1.out).mono ?_; rintro e w2 ⟨p2, c2, rfl, hk, hb⟩
  have HK := Lib.hid hk
  have HB := Lib.hid hb
  clear hk hb
  go_wp2_with fail
  refine (new102 w2).mono ?_; rintro e w3 ⟨k, fp, rfl, hkd, hfp, hb3⟩
  have HD := Lib.hid hkd
  have HF := Lib.hid hfp
  have HB3 := Lib.hid hb3
  clear hkd hfp hb3
  go_wp2_with fail
  go_ret
  have hB4 : Below w3.heap.size w3 (w3.alloc (.cells #[.int .u64 q, .slice p2 n c2, .int .u64 0, .bool false, .pointer (some ⟨k, 0, none⟩)] 116)) := (Below.refl _ _).alloc (Nat.le_refl _) _
  have hsz : w.heap.size ≤ w2.heap.size := Nat.le_trans HX1.out.size HB.out.size
  have hsz3 : w2.heap.size ≤ w3.heap.size := HB3.out.size
  have hx3 := ((HX1.out.trans (Exc.ofBelow HB.out [wb])).trans (Exc.ofBelow HB3.out [wb])).trans (Exc.ofBelow hB4 [wb])
  have hBs := H.out.size
  have hlt := HD.out.fp_lt
  refine ⟨w3.heap.size, rfl, H.out.make hx3 (((H1.out.step HB.out).step HB3.out).step hB4) (p := p2) (n := n) (c := c2) (kb := some k) (fq := fp) ⟨heap_alloc_new _ _, (HK.out.step HB3.out).step hB4, ⟨k, rfl, HD.out.step hB4⟩, fun hin => by have := hlt _ hin; omega, fun j hj => ?_, by simp⟩ (fun j hj => ?_)⟩
  · rcases List.mem_cons.1 hj with rfl | hj
    · omega
    · have := HF.out j hj; omega
  · rcases List.mem_cons.1 hj with rfl | hj
    · omega
    · have := HF.out j hj; omega

end

end Go.Proofs.YtbihlmkjoplkoaaGreatDoor
/-
  Nodes: Copy, Own, and what is set.
-/
namespace Go.Proofs.YtbihlmkjoplkoaaGreatDoor
open Go.RowKit
set_option linter.unusedVariables false

section
variable {B wb : Nat} {o : Int} {w : World} {S : Store} {a : Nat} {d : ND}

theorem copy_end (h : Env B wb o w S) {fq : List Nat} {p : Option Addr} {n c : Nat} {kb : Option Nat} (hn : NodeM B w a d fq p n c kb) {w1 w2 w3 : World} {q : Int} {u : Option Addr} (h1 : Wld w1 wb o) (hx1 : Exc [wb] w w1)
    (hb2 : Below w1.heap.size w1 w2) (hn2 : w2.heap[w1.heap.size]? = some (.cells #[.int .u64 q, .slice p n c, .int .u64 d.val, .bool d.has, .pointer u] 116 (0, 0))) (hz2 : w2.heap.size = w1.heap.size + 1)
    (hb3 : Below w2.heap.size w2 w3) {kb' : Option Nat} {fq' : List Nat} (hk : KidsM w3 d.leaf d.kid kb' fq') (hf : ∀ j ∈ fq', w2.heap.size ≤ j) :
    Made B wb o w (w3.setCell ⟨w1.heap.size, 4, none⟩ (.pointer (pt kb'))) S { d with own := q } (.returned (.pointer (some ⟨w1.heap.size, 0, none⟩))) := by
  have hB := h.size
  have s1 := hx1.size
  have s3 := hb3.size
  have hn3 : w3.heap[w1.heap.size]? = some (.cells #[.int .u64 q, .slice p n c, .int .u64 d.val, .bool d.has, .pointer u] 116 (0, 0)) := (hb3.block _ (by omega)).trans hn2
  have hx : Exc [wb] w (w3.setCell ⟨w1.heap.size, 4, none⟩ (.pointer (pt kb'))) := by
    have e := ((hx1.trans (Exc.ofBelow hb2 [wb])).trans (Exc.ofBelow hb3 [wb])).wide (T := [wb, w1.heap.size]) (by simp)
    have e2 := e.set (p := ⟨w1.heap.size, 4, none⟩) (by simp) (.pointer (pt kb'))
    exact ⟨e2.os, e2.tape, e2.output, e2.size, fun j hj hjn => e2.block j hj (by simp at hjn ⊢; exact ⟨hjn, by omega⟩)⟩
  have hwb : wb < w1.heap.size := h1.lt
  have hw : Wld (w3.setCell ⟨w1.heap.size, 4, none⟩ (.pointer (pt kb'))) wb o := ((h1.step hb2).step hb3).same (heap_setCell_other _ _ _ _ (by simp; omega))
  have hlt := fun j hj => (hk.isSt j hj).lt
  refine ⟨w1.heap.size, rfl, h.make hx hw (p := p) (n := n) (c := c) (kb := kb') (fq := fq') ⟨heap_setCell_same _ _ 4 _ _ _ hn3, h.kb (h.softO hx) hn.part, hk.same (fun j hj => heap_setCell_other _ _ _ _ (by have := hf j hj; simp; omega)), fun hin => by have := hf _ hin; omega, fun j hj => ?_, hn.val⟩ (fun j hj => ?_)⟩
  · rcases List.mem_cons.1 hj with rfl | hj
    · omega
    · have := hf j hj; omega
  · rcases List.mem_cons.1 hj with rfl | hj
    · omega
    · have := hf j hj; omega

set_option maxHeartbeats 1600000 in
theorem copy115 (h : Env B wb o w S) (hd : S a = some d) (q : Int) :
    Calls Tryz.prog 115 #[.pointer (some ⟨a, 0, none⟩), .pointer (some ⟨wb, 0, none⟩), .int .u64 q] w fun e w' => Made B wb o w w' S { d with own := q } e := by
  obtain ⟨FQ, hs⟩ := h.sto
  obtain ⟨p, n, c, kb, hn⟩ := hs.node a d hd
  have H := Lib.hid h
  have haw : a < w.heap.size := block_lt_of_cell hn.cOwn
  have hne : a ≠ wb := fun e => h.wld.notSt (e ▸ hs.isSt (a := a) (by rw [hd]; simp) a (by simp))
  have HN := Lib.hid hn
  have HC : Hid (∀ w' : World, w'.heap[a]? = w.heap[a]? → w'.cell? ⟨a, 0, none⟩ = some (.int .u64 d.own) ∧ w'.cell? ⟨a, 1, none⟩ = some (.slice p n c) ∧ w'.cell? ⟨a, 2, none⟩ = some (.int .u64 d.val) ∧ w'.cell? ⟨a, 3, none⟩ = some (.bool d.has) ∧ w'.cell? ⟨a, 4, none⟩ = some (.pointer (pt kb))) := fun w' e => by
    have hh := e.trans hn.heap
    exact ⟨by rw [cell_of_row _ _ _ _ _ _ hh]; rfl, by rw [cell_of_row _ _ _ _ _ _ hh]; rfl, by rw [cell_of_row _ _ _ _ _ _ hh]; rfl, by rw [cell_of_row _ _ _ _ _ _ hh]; rfl, by rw [cell_of_row _ _ _ _ _ _ hh]; rfl⟩
  clear h hs hd hn
  go_enter Tryz.func115, Tryz.ntmps115
  go_wp2_with fail
  refine (made1 H.out.wld).mono ?_; rintro e w1 ⟨rfl, h1, hx⟩
  have H1 := Lib.hid h1
  have HX1 := Lib.hid hx
  have ha1 : w1.heap[a]? = w.heap[a]? := hx.block a haw (by simpa using hne)
  obtain ⟨c0, c1, c2, c3, c4⟩ := HC.out w1 ha1
  have HA1 := Lib.hid ha1
  have haw1 : a < w1.heap.size := Nat.lt_of_lt_of_le haw hx.size
  clear h1 hx ha1
  obtain ⟨u, hu⟩ : ∃ u, u = pt kb := ⟨_, rfl⟩
  rw [← hu] at c4
  have HU := Lib.hid hu
  clear hu
  go_wp2_with fail
  obtain ⟨w2, hw2⟩ : ∃ w2, w2 = w1.alloc (.cells #[.int .u64 q, .slice p n c, .int .u64 d.val, .bool d.has, .pointer u] 116) := ⟨_, rfl⟩
  rw [← hw2]
  have hB2 : Below w1.heap.size w1 w2 := by rw [hw2]; exact (Below.refl _ _).alloc (Nat.le_refl _) _
  have hnew2 : w2.heap[w1.heap.size]? = some (.cells #[.int .u64 q, .slice p n c, .int .u64 d.val, .bool d.has, .pointer u] 116 (0, 0)) := by rw [hw2]; exact heap_alloc_new _ _
  have hsz2 : w2.heap.size = w1.heap.size + 1 := by rw [hw2]; exact World.size_alloc _ _
  have HB2 := Lib.hid hB2
  have HN2 := Lib.hid hnew2
  have HZ2 := Lib.hid hsz2
  clear hw2 hB2 hnew2 hsz2 c0 c1 c2 c3 c4
  have f4 : w2.cell? ⟨w1.heap.size, 4, none⟩ = some (.pointer u) := by rw [cell_of_row _ _ _ _ _ _ HN2.out]; rfl
  have z4 : w2.frozen? ⟨w1.heap.size, 4, none⟩ = false := frozen_of_row _ _ _ _ _ HN2.out
  cases hl : d.leaf with
  | true =>
    have hk := HN.out.kids
    rw [hl] at hk
    obtain ⟨rfl, hfq, hno⟩ := hk
    obtain rfl : u = none := HU.out
    have HE := Lib.hid (copy_end (w3 := w2) (kb' := none) (fq' := []) H.out HN.out H1.out HX1.out HB2.out HN2.out HZ2.out (Below.refl _ _) (by rw [hl]; exact ⟨rfl, rfl, hno⟩) (by simp))
    clear hno hfq hl
    refine (copy142_nil w2).mono ?_; rintro e w3 ⟨rfl, hw3⟩
    rw [hw3]; clear hw3 w3
    go_wp2_with fail
    go_ret
    exact HE.out
  | false =>
    have hk := HN.out.kids
    rw [hl] at hk
    obtain ⟨k, rfl, hkd⟩ := hk
    obtain rfl : u = some ⟨k, 0, none⟩ := HU.out
    have hkd2 : KdE w2 k (thK d.kid) (FQ a) := by
      have hw1 : ∀ j ∈ FQ a, w1.heap[j]? = w.heap[j]? := fun j hj => HX1.out.block j (KdQ.fp_lt hkd j hj) (by
        intro hin; simp at hin; subst hin; exact H.out.wld.notSt (KdQ.isSt hkd _ hj))
      exact (KdQ.same hkd hw1).step HB2.out
    have HL := Lib.hid hl
    have HKD := Lib.hid hkd2
    clear hl hkd hkd2
    refine (copy142 HKD.out).mono ?_; rintro e w3 ⟨k', fp', rfl, hk', hf', hb3⟩
    have HE := Lib.hid (copy_end (w3 := w3) (kb' := some k') (fq' := fp') H.out HN.out H1.out HX1.out HB2.out HN2.out HZ2.out hb3 (by rw [HL.out]; exact ⟨k', rfl, hk'⟩) hf')
    have f5 : w3.cell? ⟨w1.heap.size, 4, none⟩ = some (.pointer (some ⟨k, 0, none⟩)) := (hb3.cell (p := ⟨w1.heap.size, 4, none⟩) (by have := HZ2.out; show w1.heap.size < _; omega)).trans f4
    have z5 : w3.frozen? ⟨w1.heap.size, 4, none⟩ = false := (hb3.frozen (p := ⟨w1.heap.size, 4, none⟩) (by have := HZ2.out; show w1.heap.size < _; omega)).trans z4
    clear hk' hf' hb3 f4 z4
    go_wp2_with fail
    go_ret
    exact HE.out
end

end Go.Proofs.YtbihlmkjoplkoaaGreatDoor
