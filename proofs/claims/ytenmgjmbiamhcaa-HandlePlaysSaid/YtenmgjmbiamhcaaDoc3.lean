/-
  The document's table, by value: Set, Drop.
-/
import Derived.Test.YtenmgjmbiamhcaaDoc2
import Derived.Laws.ResultCell
namespace Go.Proofs.Ytenmgjmbiamhcaa
open Go.RowKit
set_option linter.unusedVariables false

theorem info4 : (Try.prog.info? 4).map (fun i => (i.zero, i.size, i.bytes)) = some (some (.bool false), 1, 1) := by kernel_rfl

theorem size30 : (Try.prog.info? 30).map (·.size) = some 3 := by kernel_rfl
theorem results_row30 {fn : Func} {p u : Tmp} (h : fn.results = #[.cell p 30, .tmp u]) (tmps : Array Value) (w : World) (g : Nat) (cs : Array Value) (n : Value)
    (hp : tmps.getD p undef = .pointer (some ⟨g, 0, none⟩)) (hn : tmps.getD u undef = n) (hg : w.heap[g]? = some (.cells cs 30 (0, 0))) (hs : cs.size = 3) :
    (results fn tmps).run Try.prog w = .ok (.tuple #[.agg cs, n]) w := by
  rw [results_cell_tmp h, hp, hn]
  have hl := run_loadVar_row (P := Try.prog) w g 30 30 cs (0, 0) _ hg Try.underlying30 rfl (by rw [hs]; exact size30)
  simp [asAddr, Result.andThen, hl]
theorem ret30 {fn : Func} {p u : Tmp} {a : Act} {W : World} {R : Ending → World → Prop} {g : Nat} {cs : Array Value} {n : Value} (h : fn.results = #[.cell p 30, .tmp u]) (hp : a.tmps.getD p undef = .pointer (some ⟨g, 0, none⟩)) (hn : a.tmps.getD u undef = n) (hd : a.defers = [])
    (hg : W.heap[g]? = some (.cells cs 30 (0, 0))) (hs : cs.size = 3) (hR : R (.returned (.tuple #[.agg cs, n])) W) : bodyPost Try.prog fn R .ret a W :=
  bodyPost_ret (results_row30 h _ _ g cs _ hp hn hg hs) hd hR

theorem row3 {w : World} {g : Nat} {a b c x y z : Value} (h : w.heap[g]? = some (.cells #[x, y, z] 30 (0, 0))) : (((w.setCell ⟨g, 0, none⟩ a).setCell ⟨g, 1, none⟩ b).setCell ⟨g, 2, none⟩ c).heap[g]? = some (.cells #[a, b, c] 30 (0, 0)) := by
  rw [heap_setCell_same _ g 2 _ 30 c (heap_setCell_same _ g 1 _ 30 b (heap_setCell_same w g 0 _ 30 a h))]
  rfl

theorem own_news {w : World} {base : Nat} {e : TypeId} {blk n cap : Nat} {vs : List Value} (h : w.ownsRow base e 1 (.slice (some ⟨blk, 0, none⟩) n cap) n vs) : ∀ j u, vs[j]? = some u → w.cell? ((⟨blk, 0, none⟩ : Addr).add j) = some u := by
  intro j u hj
  have hjl := (List.getElem?_eq_some_iff.1 hj).1
  have hl := h.1
  have e : (⟨blk, 0, none⟩ : Addr).add j = ⟨blk, j, none⟩ := by unfold Addr.add; split <;> simp_all
  rw [e, h.cellAt j (by omega)]; exact hj

theorem wpList_append_copy {T e : TypeId} {z : Value} {by' : Nat} {w : World} {ops : Array Oper} {rest : List Oper} {o : Oper} {a : Act} {Q : Exit → Act → World → Prop} (hT : Try.prog.underlying T = some (.slice e)) (hinfo : (Try.prog.info? e).map (fun i => (i.zero, i.size, i.bytes)) = some (some z, 1, by'))
    (hzs : z.cells.size = 1) (hby : by' ≤ 8) (hgd : o.guard = none) (s x : Operand) (ho : o.op = .call { callee := .builtin .append, args := #[s, x], argTypes := #[T, T] })
    (base blk m ca : Nat) (vs : List Value) (hs : a.eval s = .slice none 0 0) (hx : a.eval x = .slice (some ⟨blk, 0, none⟩) m ca) (hown : w.ownsRow base e 1 (.slice (some ⟨blk, 0, none⟩) m ca) m vs) (h1 : ∀ u ∈ vs, u.oneCell' = true)
    (hm : 0 < m) (hm2 : m ≤ 4096) (hbase : base ≤ w.heap.size)
    (h : ∀ bx cap w', w'.ownsRow base e 1 (.slice (some ⟨bx, 0, none⟩) m cap) m vs → Below w.heap.size w w' → w.heap.size ≤ bx → bx < w'.heap.size → wpList Try.prog ops Q rest (a.put o.dst (.slice (some ⟨bx, 0, none⟩) m cap)) w') : wpList Try.prog ops Q (o :: rest) a w := by
  obtain ⟨i0, hi, hz0, hz1, hz2⟩ := info_parts hinfo
  have hl := hown.1
  refine wpList_append_lies _ hgd s x T ho base e i0 z 1 by' hT hi hz0 hz1 hz2 hzs (by decide) _ 0 [] hs (World.ownsRow_nil _ _ _ _) ⟨blk, 0, none⟩ m ca vs hx (by omega) (own_news hown) h1 hm (by unfold maxLen; omega) (by
    rw [Nat.zero_add]
    have := Nat.mul_le_mul hm2 hby
    omega) hbase _ rfl ?_
  intro bx cap w2 ho2 hg hloc hlt
  have hbx : bx = w.heap.size := by
    rcases hloc with e | e
    · cases e
    · exact e
  rw [Nat.zero_add, List.nil_append] at ho2
  have := h bx cap w2 ho2 ⟨hg.os, hg.tape, hg.output, hg.size, fun k hk => hg.block k hk (by simp [Value.ownBlock])⟩ (by omega) hlt
  rwa [Nat.zero_add]


set_option maxHeartbeats 800000 in
theorem set10_none {w : World} {base ch ca m : Nat} {ph pa : Option Addr} {hs : List Bool} {xs : List Int} {f : Int → Option Int} (h : Rt w base ph ch pa ca m hs xs f) (room k : Int) (x : Int) (hk : wf64 k) (hf : f k = none) :
    Calls Try.prog 10 #[.agg #[.int .i64 room, .slice ph m ch, .slice pa m ca], .int .i64 k, .int .i64 x] w fun e w' => e = .returned (.tuple #[.agg #[.int .i64 room, .slice ph m ch, .slice pa m ca], .int .i64 6]) ∧ Below w.heap.size w w' := by
  obtain ⟨W, hW⟩ : ∃ W, W = (w.alloc (.cells #[.int .i64 room, .slice ph m ch, .slice pa m ca] 30)).alloc (.cells #[.int .i64 0, .slice none 0 0, .slice none 0 0] 30) := ⟨_, rfl⟩
  have s1 : (w.alloc (.cells #[.int .i64 room, .slice ph m ch, .slice pa m ca] 30)).heap.size = w.heap.size + 1 := World.size_alloc _ _
  have hB : Below w.heap.size w W := by rw [hW]; exact ((Below.refl _ _).alloc (Nat.le_refl _) _).alloc (by omega) _
  have v0 : ∀ j v, (#[.int .i64 room, .slice ph m ch, .slice pa m ca] : Array Value)[j]? = some v → Var W w.heap.size j v := fun j v hv => by rw [hW]; exact (Var.new rfl hv).alloc _
  have u0 : ∀ j v, (#[.int .i64 0, .slice none 0 0, .slice none 0 0] : Array Value)[j]? = some v → Var W (w.heap.size + 1) j v := fun j v hv => by rw [hW]; exact Var.new s1.symm hv
  have a0 := v0 0 _ rfl
  have a1 := v0 1 _ rfl
  have a2 := v0 2 _ rfl
  have e0 := u0 0 _ rfl
  have e1 := u0 1 _ rfl
  have e2 := u0 2 _ rfl
  have HT := Lib.hid (there22 (h.step hB) room k hk false (by rw [hf]; rfl))
  have hrow : W.heap[w.heap.size + 1]? = some (.cells #[.int .i64 0, .slice none 0 0, .slice none 0 0] 30 (0, 0)) := by rw [hW]; exact heap_alloc2_new _ _ _
  have HROW := Lib.hid hrow
  have hwl : w.heap.size + 1 < W.heap.size := (Array.getElem?_eq_some_iff.1 hrow).1
  have HWL : Hid (w.heap.size + 1 < W.heap.size) := hwl
  clear hrow hwl
  have HB := Lib.hid hB
  have HW := Lib.hid hW
  have hnot : ∀ (x : Bool) (w : World), (Op.unary .not (.bool x)).run Try.prog w = .ok (.bool (!x)) w := fun _ _ => rfl
  have A0 := Lib.hid a0
  have A1 := Lib.hid a1
  have A2 := Lib.hid a2
  have E0 := Lib.hid e0
  have E1 := Lib.hid e1
  have E2 := Lib.hid e2
  have c0 := a0.cell
  have c1 := a1.cell
  have c2 := a2.cell
  clear h hW s1 hB v0 u0 a0 a1 a2 e0 e1 e2 hk hf
  go_enter Try.func10, Try.ntmps10
  go_wp2_with (rw [← HW.out])
  refine HT.out.mono ?_
  rintro e w2 ⟨rfl, hB2⟩
  have x0 := (A0.out.step hB2).cell
  have x1 := (A1.out.step hB2).cell
  have x2 := (A2.out.step hB2).cell
  have y0 := (E0.out.step hB2).cell
  have y1 := (E1.out.step hB2).cell
  have y2 := (E2.out.step hB2).cell
  have z0 := (E0.out.step hB2).free
  have z1 := (E1.out.step hB2).free
  have z2 := (E2.out.step hB2).free
  have HB2 := Lib.hid (Below.step HB.out hB2)
  have hr2 : w2.heap[w.heap.size + 1]? = some (.cells #[.int .i64 0, .slice none 0 0, .slice none 0 0] 30 (0, 0)) := (hB2.block (w.heap.size + 1) HWL.out).trans HROW.out
  have HR6 := Lib.hid (row3 (a := .int .i64 room) (b := .slice ph m ch) (c := .slice pa m ca) hr2)
  clear hB2 c0 c1 c2 hr2
  go_wp2_with fail
  refine ret30 rfl rfl rfl rfl HR6.out rfl ?_
  exact ⟨rfl, ((HB2.out.setCell (p := ⟨w.heap.size + 1, 0, none⟩) (Nat.le_succ _) _).setCell (p := ⟨w.heap.size + 1, 1, none⟩) (Nat.le_succ _) _).setCell (p := ⟨w.heap.size + 1, 2, none⟩) (Nat.le_succ _) _⟩

set_option maxRecDepth 100000 in
set_option maxHeartbeats 1600000 in
theorem set10_some {w : World} {base ch ca m : Nat} {ph pa : Option Addr} {hs : List Bool} {xs : List Int} {f : Int → Option Int} (h : Rt w base ph ch pa ca m hs xs f) (room k : Int) (x : Int) (hk : wf64 k) (hf : (f k).isSome = true) :
    Calls Try.prog 10 #[.agg #[.int .i64 room, .slice ph m ch, .slice pa m ca], .int .i64 k, .int .i64 x] w fun e w' => ∃ (bx cb i : Nat), e = .returned (.tuple #[.agg #[.int .i64 room, .slice ph m ch, .slice (some ⟨bx, 0, none⟩) m cb], .int .i64 0]) ∧ k = (i : Int) + 1 ∧ i < m ∧ Rt w' base ph ch (some ⟨bx, 0, none⟩) cb m hs (xs.set i x) (updI f k (some x)) ∧ Below w.heap.size w w' := by
  have hlow := h.out k hf
  have hsm := h.small
  obtain ⟨i, hi⟩ : ∃ i : Nat, k = (i : Int) + 1 := ⟨(k - 1).toNat, by omega⟩
  have him : i < m := by omega
  obtain ⟨W, hW⟩ : ∃ W, W = (w.alloc (.cells #[.int .i64 room, .slice ph m ch, .slice pa m ca] 30)).alloc (.cells #[.int .i64 0, .slice none 0 0, .slice none 0 0] 30) := ⟨_, rfl⟩
  have s1 : (w.alloc (.cells #[.int .i64 room, .slice ph m ch, .slice pa m ca] 30)).heap.size = w.heap.size + 1 := World.size_alloc _ _
  have sW : W.heap.size = w.heap.size + 2 := by rw [hW, World.size_alloc, s1]
  have hB : Below w.heap.size w W := by rw [hW]; exact ((Below.refl _ _).alloc (Nat.le_refl _) _).alloc (by omega) _
  have v0 : ∀ j v, (#[.int .i64 room, .slice ph m ch, .slice pa m ca] : Array Value)[j]? = some v → Var W w.heap.size j v := fun j v hv => by rw [hW]; exact (Var.new rfl hv).alloc _
  have u0 : ∀ j v, (#[.int .i64 0, .slice none 0 0, .slice none 0 0] : Array Value)[j]? = some v → Var W (w.heap.size + 1) j v := fun j v hv => by rw [hW]; exact Var.new s1.symm hv
  have a0 := v0 0 _ rfl
  have a1 := v0 1 _ rfl
  have a2 := v0 2 _ rfl
  have e0 := u0 0 _ rfl
  have e1 := u0 1 _ rfl
  have e2 := u0 2 _ rfl
  have HT := Lib.hid (there22 (h.step hB) room k hk true hf)
  have hrow : W.heap[w.heap.size + 1]? = some (.cells #[.int .i64 0, .slice none 0 0, .slice none 0 0] 30 (0, 0)) := by rw [hW]; exact heap_alloc2_new _ _ _
  have HROW := Lib.hid hrow
  have hwl : w.heap.size + 1 < W.heap.size := (Array.getElem?_eq_some_iff.1 hrow).1
  have HWL : Hid (w.heap.size + 1 < W.heap.size) := hwl
  clear hrow hwl
  have HB := Lib.hid hB
  have HW := Lib.hid hW
  have SW := Lib.hid sW
  have HR := Lib.hid h
  have HK := Lib.hid hi
  have hnot : ∀ (x : Bool) (w : World), (Op.unary .not (.bool x)).run Try.prog w = .ok (.bool (!x)) w := fun _ _ => rfl
  have A0 := Lib.hid a0
  have A1 := Lib.hid a1
  have A2 := Lib.hid a2
  have E0 := Lib.hid e0
  have E1 := Lib.hid e1
  have E2 := Lib.hid e2
  have HF := Lib.hid hf
  have c0 := a0.cell
  have c1 := a1.cell
  have c2 := a2.cell
  have q0 : IntKind.i64.wrap (k - 1) = (i : Int) := by rw [IntWalk.i64_in _ (by omega)]; omega
  have b0 : (0 : Int) ≤ (i : Int) := by omega
  have b1 : (i : Int) < (m : Int) := by omega
  obtain ⟨x0, hx0⟩ : ∃ x0, xs[i]? = some x0 := ⟨xs[i]'(by have := h.lenA; omega), List.getElem?_eq_getElem (by have := h.lenA; omega)⟩
  have HX0 := Lib.hid hx0
  clear h hW s1 hB v0 u0 a0 a1 a2 e0 e1 e2 hk hf hi hlow sW hx0
  go_enter Try.func10, Try.ntmps10
  go_wp2_with (rw [← HW.out])
  refine HT.out.mono ?_
  rintro e w2 ⟨rfl, hB2⟩
  have A0' := Lib.hid (A0.out.step hB2)
  have A1' := Lib.hid (A1.out.step hB2)
  have A2' := Lib.hid (A2.out.step hB2)
  have E0' := Lib.hid (E0.out.step hB2)
  have E1' := Lib.hid (E1.out.step hB2)
  have E2' := Lib.hid (E2.out.step hB2)
  have x0' := A2'.out.cell
  have HB2 := Lib.hid (Below.step HB.out hB2)
  have HR2W := Lib.hid ((hB2.block (w.heap.size + 1) HWL.out).trans HROW.out)
  have HS2 : Hid (w.heap.size + 2 ≤ w2.heap.size) := by show _ ≤ _; have := SW.out; have := hB2.size; omega
  have hR2 := HR.out.step HB2.out
  obtain ⟨blk, hpx, _, hmc, _⟩ : ∃ blk, pa = some ⟨blk, 0, none⟩ ∧ True ∧ True ∧ True := by
    rcases hR2.ownA.2 with ⟨q, q2⟩ | ⟨gq, cq, curq, q, _⟩
    · omega
    · cases q; exact ⟨gq, rfl, trivial, trivial, trivial⟩
  subst hpx
  have HR2 := Lib.hid hR2
  clear hB2 c0 c1 c2 hR2 hmc
  go_wp2_with (at_builtin; refine stop ?_)
  refine unhid ?_
  refine wpList_append_copy Try.underlying28 info3 rfl (by decide) rfl _ _ (by rfl) base blk m ca (xs.map iv) (by rfl) (by rfl) HR2.out.ownA (by
    intro v hv
    rw [List.mem_map] at hv
    obtain ⟨q, _, rfl⟩ := hv
    rfl) (by omega) (by omega) HR2.out.fits ?_
  intro bx cb w3 hO3 hB3 hbx hbl
  have HO3 := Lib.hid hO3
  have HB3 := Lib.hid hB3
  have hs2' := HS2.out
  have hr3 : w3.heap[w.heap.size + 1]? = some (.cells #[.int .i64 0, .slice none 0 0, .slice none 0 0] 30 (0, 0)) := (hB3.block (w.heap.size + 1) (by omega)).trans HR2W.out
  have HBX : Hid (w.heap.size + 2 ≤ bx) := by show _ ≤ _; have := HS2.out; omega
  have n1 : ¬ w.heap.size = bx := by omega
  have n2 : ¬ w.heap.size + 1 = bx := by omega
  have g0 := (A0'.out.step hB3)
  have g1 := (A1'.out.step hB3)
  have g2 := (A2'.out.step hB3)
  have k0 := (E0'.out.step hB3)
  have k1 := (E1'.out.step hB3)
  have k2 := (E2'.out.step hB3)
  obtain ⟨w4, hw4⟩ : ∃ w4, w4 = w3.setCell ⟨w.heap.size, 2, none⟩ (.slice (some ⟨bx, 0, none⟩) m cb) := ⟨_, rfl⟩
  obtain ⟨w5, hw5⟩ : ∃ w5, w5 = w4.setCell ⟨bx, i, none⟩ (.int .i64 x) := ⟨_, rfl⟩
  have m0 : Var w5 w.heap.size 0 (.int .i64 room) := by rw [hw5, hw4]; exact (g0.off (by decide)).other n1
  have m1 : Var w5 w.heap.size 1 (.slice ph m ch) := by rw [hw5, hw4]; exact (g1.off (by decide)).other n1
  have m2 : Var w5 w.heap.size 2 (.slice (some ⟨bx, 0, none⟩) m cb) := by rw [hw5, hw4]; exact g2.set.other n1
  have o0 : Var w5 (w.heap.size + 1) 0 (.int .i64 0) := by rw [hw5, hw4]; exact (k0.other (by simp)).other n2
  have o1 : Var w5 (w.heap.size + 1) 1 (.slice none 0 0) := by rw [hw5, hw4]; exact (k1.other (by simp)).other n2
  have o2 : Var w5 (w.heap.size + 1) 2 (.slice none 0 0) := by rw [hw5, hw4]; exact (k2.other (by simp)).other n2
  have HR5 : Hid (w5.heap[w.heap.size + 1]? = some (.cells #[.int .i64 0, .slice none 0 0, .slice none 0 0] 30 (0, 0))) := by
    show _ = _
    rw [hw5, heap_setCell_other _ _ _ _ n2, hw4, heap_setCell_other _ _ _ _ (by simp)]; exact hr3
  have hO4 : w4.ownsRow base 3 1 (.slice (some ⟨bx, 0, none⟩) m cb) m (xs.map iv) := by rw [hw4]; exact own_set HO3.out (by simp [Value.ownBlock]; omega)
  have hO5 := (hO4.stored i (.int .i64 x)).1
  rw [← hw5] at hO5
  have hcell4 := hO4.cellAt i (by omega)
  have hfree4 := hO4.frozenAt i
  obtain ⟨vv, hvv⟩ : ∃ vv, w4.cell? ⟨bx, i, none⟩ = some vv := by
    rw [hcell4]
    have hl := hO4.1
    exact ⟨_, List.getElem?_eq_getElem (by omega)⟩
  have O0 := Lib.hid o0
  have O1 := Lib.hid o1
  have O2 := Lib.hid o2
  have HO5 := Lib.hid hO5
  have p0 := m0.cell
  have p1 := m1.cell
  have p2 := m2.cell
  have r0 := o0.cell
  have r1 := o1.cell
  have r2 := o2.cell
  have s0 := o0.free
  have s1 := o1.free
  have s2 := o2.free
  have gg := g2.cell
  have gf := g2.free
  have g4 : w4.cell? ⟨w.heap.size, 2, none⟩ = some (.slice (some ⟨bx, 0, none⟩) m cb) := by rw [hw4]; exact g2.set.cell
  have HB5 : Hid (Below w.heap.size w w5) := by
    show Below _ _ _
    rw [hw5, hw4]
    exact ((HB2.out.trans (hB3.mono (by have := HS2.out; omega))).setCell (p := ⟨w.heap.size, 2, none⟩) (Nat.le_refl _) _).setCell (p := ⟨bx, i, none⟩) (by show w.heap.size ≤ bx; omega) _
  have HW4 := Lib.hid hw4
  have HW5 := Lib.hid hw5
  have HN2 := Lib.hid n2
  clear hO3 hB3 hbx hbl hr3 hs2' g0 g1 g2 k0 k1 k2 hw4 hw5 m0 m1 m2 o0 o1 o2 hO4 hO5 hcell4 x0' n1 n2
  have HR6 := Lib.hid (row3 (a := .int .i64 room) (b := .slice ph m ch) (c := .slice (some ⟨bx, 0, none⟩) m cb) HR5.out)
  go_wp2_with (first
    | rw [← HW4.out]
    | rw [← HW5.out])
  refine ret30 rfl rfl rfl rfl HR6.out rfl ?_
  have hBF := ((HB5.out.setCell (p := ⟨w.heap.size + 1, 0, none⟩) (Nat.le_succ _) (.int .i64 room)).setCell (p := ⟨w.heap.size + 1, 1, none⟩) (Nat.le_succ _) (.slice ph m ch)).setCell (p := ⟨w.heap.size + 1, 2, none⟩) (Nat.le_succ _) (.slice (some ⟨bx, 0, none⟩) m cb)
  have hRF := HR.out.step hBF
  refine ⟨bx, cb, i, rfl, HK.out, him, ⟨hRF.ownH, ?_, hsm, hRF.fits, fun j b y h1 h2 => ?_, fun j hj => ?_⟩, hBF⟩
  · have hz : (Value.slice (some ⟨bx, 0, none⟩) m cb).ownBlock ≠ some (w.heap.size + 1) := by simp [Value.ownBlock]; exact fun e => HN2.out e.symm
    have t0 := own_set (a := ⟨w.heap.size + 1, 0, none⟩) (u := .int .i64 room) HO5.out hz
    have t1 := own_set (a := ⟨w.heap.size + 1, 1, none⟩) (u := .slice ph m ch) t0 hz
    have t2 := own_set (a := ⟨w.heap.size + 1, 2, none⟩) (u := .slice (some ⟨bx, 0, none⟩) m cb) t1 hz
    rw [List.map_set]
    exact t2
  · have hfi := HF.out
    rw [HK.out] at hfi ⊢
    rw [List.getElem?_set] at h2
    split at h2
    · rename_i e
      subst e
      split at h2
      · cases h2
        have hbt : b = true := by
          have h4 := HR.out.hit i b x0 h1 HX0.out
          rw [h4] at hfi
          cases b
          · simp at hfi
          · rfl
        subst hbt
        rw [updI_at]; rfl
      · cases h2
    · rename_i e
      rw [updI_ne _ _ _ _ (by omega)]
      exact HR.out.hit j b y h1 h2
  · unfold updI at hj
    by_cases e : j = k
    · rw [e]; have := HK.out; omega
    · rw [if_neg e] at hj; exact HR.out.out j hj

set_option maxHeartbeats 800000 in
theorem drop12_none {w : World} {base ch ca m : Nat} {ph pa : Option Addr} {hs : List Bool} {xs : List Int} {f : Int → Option Int} (h : Rt w base ph ch pa ca m hs xs f) (room k : Int) (hk : wf64 k) (hf : f k = none) :
    Calls Try.prog 12 #[.agg #[.int .i64 room, .slice ph m ch, .slice pa m ca], .int .i64 k] w fun e w' => e = .returned (.tuple #[.agg #[.int .i64 room, .slice ph m ch, .slice pa m ca], .int .i64 6]) ∧ Below w.heap.size w w' := by
  obtain ⟨W, hW⟩ : ∃ W, W = (w.alloc (.cells #[.int .i64 room, .slice ph m ch, .slice pa m ca] 30)).alloc (.cells #[.int .i64 0, .slice none 0 0, .slice none 0 0] 30) := ⟨_, rfl⟩
  have s1 : (w.alloc (.cells #[.int .i64 room, .slice ph m ch, .slice pa m ca] 30)).heap.size = w.heap.size + 1 := World.size_alloc _ _
  have hB : Below w.heap.size w W := by rw [hW]; exact ((Below.refl _ _).alloc (Nat.le_refl _) _).alloc (by omega) _
  have v0 : ∀ j v, (#[.int .i64 room, .slice ph m ch, .slice pa m ca] : Array Value)[j]? = some v → Var W w.heap.size j v := fun j v hv => by rw [hW]; exact (Var.new rfl hv).alloc _
  have u0 : ∀ j v, (#[.int .i64 0, .slice none 0 0, .slice none 0 0] : Array Value)[j]? = some v → Var W (w.heap.size + 1) j v := fun j v hv => by rw [hW]; exact Var.new s1.symm hv
  have a0 := v0 0 _ rfl
  have a1 := v0 1 _ rfl
  have a2 := v0 2 _ rfl
  have e0 := u0 0 _ rfl
  have e1 := u0 1 _ rfl
  have e2 := u0 2 _ rfl
  have HT := Lib.hid (there22 (h.step hB) room k hk false (by rw [hf]; rfl))
  have hrow : W.heap[w.heap.size + 1]? = some (.cells #[.int .i64 0, .slice none 0 0, .slice none 0 0] 30 (0, 0)) := by rw [hW]; exact heap_alloc2_new _ _ _
  have HROW := Lib.hid hrow
  have hwl : w.heap.size + 1 < W.heap.size := (Array.getElem?_eq_some_iff.1 hrow).1
  have HWL : Hid (w.heap.size + 1 < W.heap.size) := hwl
  clear hrow hwl
  have HB := Lib.hid hB
  have HW := Lib.hid hW
  have hnot : ∀ (x : Bool) (w : World), (Op.unary .not (.bool x)).run Try.prog w = .ok (.bool (!x)) w := fun _ _ => rfl
  have A0 := Lib.hid a0
  have A1 := Lib.hid a1
  have A2 := Lib.hid a2
  have E0 := Lib.hid e0
  have E1 := Lib.hid e1
  have E2 := Lib.hid e2
  have c0 := a0.cell
  have c1 := a1.cell
  have c2 := a2.cell
  clear h hW s1 hB v0 u0 a0 a1 a2 e0 e1 e2 hk hf
  go_enter Try.func12, Try.ntmps12
  go_wp2_with (rw [← HW.out])
  refine HT.out.mono ?_
  rintro e w2 ⟨rfl, hB2⟩
  have x0 := (A0.out.step hB2).cell
  have x1 := (A1.out.step hB2).cell
  have x2 := (A2.out.step hB2).cell
  have y0 := (E0.out.step hB2).cell
  have y1 := (E1.out.step hB2).cell
  have y2 := (E2.out.step hB2).cell
  have z0 := (E0.out.step hB2).free
  have z1 := (E1.out.step hB2).free
  have z2 := (E2.out.step hB2).free
  have HB2 := Lib.hid (Below.step HB.out hB2)
  have hr2 : w2.heap[w.heap.size + 1]? = some (.cells #[.int .i64 0, .slice none 0 0, .slice none 0 0] 30 (0, 0)) := (hB2.block (w.heap.size + 1) HWL.out).trans HROW.out
  have HR6 := Lib.hid (row3 (a := .int .i64 room) (b := .slice ph m ch) (c := .slice pa m ca) hr2)
  clear hB2 c0 c1 c2 hr2
  go_wp2_with fail
  refine ret30 rfl rfl rfl rfl HR6.out rfl ?_
  exact ⟨rfl, ((HB2.out.setCell (p := ⟨w.heap.size + 1, 0, none⟩) (Nat.le_succ _) _).setCell (p := ⟨w.heap.size + 1, 1, none⟩) (Nat.le_succ _) _).setCell (p := ⟨w.heap.size + 1, 2, none⟩) (Nat.le_succ _) _⟩

set_option maxRecDepth 100000 in
set_option maxHeartbeats 1600000 in
theorem drop12_some {w : World} {base ch ca m : Nat} {ph pa : Option Addr} {hs : List Bool} {xs : List Int} {f : Int → Option Int} (h : Rt w base ph ch pa ca m hs xs f) (room k : Int) (hk : wf64 k) (hf : (f k).isSome = true) :
    Calls Try.prog 12 #[.agg #[.int .i64 room, .slice ph m ch, .slice pa m ca], .int .i64 k] w fun e w' => ∃ (bx cb i : Nat), e = .returned (.tuple #[.agg #[.int .i64 room, .slice (some ⟨bx, 0, none⟩) m cb, .slice pa m ca], .int .i64 0]) ∧ k = (i : Int) + 1 ∧ i < m ∧ Rt w' base (some ⟨bx, 0, none⟩) cb pa ca m (hs.set i false) xs (updI f k none) ∧ Below w.heap.size w w' := by
  have hlow := h.out k hf
  have hsm := h.small
  obtain ⟨i, hi⟩ : ∃ i : Nat, k = (i : Int) + 1 := ⟨(k - 1).toNat, by omega⟩
  have him : i < m := by omega
  obtain ⟨W, hW⟩ : ∃ W, W = (w.alloc (.cells #[.int .i64 room, .slice ph m ch, .slice pa m ca] 30)).alloc (.cells #[.int .i64 0, .slice none 0 0, .slice none 0 0] 30) := ⟨_, rfl⟩
  have s1 : (w.alloc (.cells #[.int .i64 room, .slice ph m ch, .slice pa m ca] 30)).heap.size = w.heap.size + 1 := World.size_alloc _ _
  have sW : W.heap.size = w.heap.size + 2 := by rw [hW, World.size_alloc, s1]
  have hB : Below w.heap.size w W := by rw [hW]; exact ((Below.refl _ _).alloc (Nat.le_refl _) _).alloc (by omega) _
  have v0 : ∀ j v, (#[.int .i64 room, .slice ph m ch, .slice pa m ca] : Array Value)[j]? = some v → Var W w.heap.size j v := fun j v hv => by rw [hW]; exact (Var.new rfl hv).alloc _
  have u0 : ∀ j v, (#[.int .i64 0, .slice none 0 0, .slice none 0 0] : Array Value)[j]? = some v → Var W (w.heap.size + 1) j v := fun j v hv => by rw [hW]; exact Var.new s1.symm hv
  have a0 := v0 0 _ rfl
  have a1 := v0 1 _ rfl
  have a2 := v0 2 _ rfl
  have e0 := u0 0 _ rfl
  have e1 := u0 1 _ rfl
  have e2 := u0 2 _ rfl
  have HT := Lib.hid (there22 (h.step hB) room k hk true hf)
  have hrow : W.heap[w.heap.size + 1]? = some (.cells #[.int .i64 0, .slice none 0 0, .slice none 0 0] 30 (0, 0)) := by rw [hW]; exact heap_alloc2_new _ _ _
  have HROW := Lib.hid hrow
  have hwl : w.heap.size + 1 < W.heap.size := (Array.getElem?_eq_some_iff.1 hrow).1
  have HWL : Hid (w.heap.size + 1 < W.heap.size) := hwl
  clear hrow hwl
  have HB := Lib.hid hB
  have HW := Lib.hid hW
  have SW := Lib.hid sW
  have HR := Lib.hid h
  have HK := Lib.hid hi
  have hnot : ∀ (x : Bool) (w : World), (Op.unary .not (.bool x)).run Try.prog w = .ok (.bool (!x)) w := fun _ _ => rfl
  have A0 := Lib.hid a0
  have A1 := Lib.hid a1
  have A2 := Lib.hid a2
  have E0 := Lib.hid e0
  have E1 := Lib.hid e1
  have E2 := Lib.hid e2
  have HF := Lib.hid hf
  have c0 := a0.cell
  have c1 := a1.cell
  have c2 := a2.cell
  have q0 : IntKind.i64.wrap (k - 1) = (i : Int) := by rw [IntWalk.i64_in _ (by omega)]; omega
  have b0 : (0 : Int) ≤ (i : Int) := by omega
  have b1 : (i : Int) < (m : Int) := by omega
  obtain ⟨x0, hx0⟩ : ∃ x0, xs[i]? = some x0 := ⟨xs[i]'(by have := h.lenA; omega), List.getElem?_eq_getElem (by have := h.lenA; omega)⟩
  have HX0 := Lib.hid hx0
  clear h hW s1 hB v0 u0 a0 a1 a2 e0 e1 e2 hk hf hi hlow sW hx0
  go_enter Try.func12, Try.ntmps12
  go_wp2_with (rw [← HW.out])
  refine HT.out.mono ?_
  rintro e w2 ⟨rfl, hB2⟩
  have A0' := Lib.hid (A0.out.step hB2)
  have A1' := Lib.hid (A1.out.step hB2)
  have A2' := Lib.hid (A2.out.step hB2)
  have E0' := Lib.hid (E0.out.step hB2)
  have E1' := Lib.hid (E1.out.step hB2)
  have E2' := Lib.hid (E2.out.step hB2)
  have x0' := A1'.out.cell
  have HB2 := Lib.hid (Below.step HB.out hB2)
  have HR2W := Lib.hid ((hB2.block (w.heap.size + 1) HWL.out).trans HROW.out)
  have HS2 : Hid (w.heap.size + 2 ≤ w2.heap.size) := by show _ ≤ _; have := SW.out; have := hB2.size; omega
  have hR2 := HR.out.step HB2.out
  obtain ⟨blk, hpx, _, hmc, _⟩ : ∃ blk, ph = some ⟨blk, 0, none⟩ ∧ True ∧ True ∧ True := by
    rcases hR2.ownH.2 with ⟨q, q2⟩ | ⟨gq, cq, curq, q, _⟩
    · omega
    · cases q; exact ⟨gq, rfl, trivial, trivial, trivial⟩
  subst hpx
  have HR2 := Lib.hid hR2
  clear hB2 c0 c1 c2 hR2 hmc
  go_wp2_with (at_builtin; refine stop ?_)
  refine unhid ?_
  refine wpList_append_copy Try.underlying27 info4 rfl (by decide) rfl _ _ (by rfl) base blk m ch (hs.map bv) (by rfl) (by rfl) HR2.out.ownH (by
    intro v hv
    rw [List.mem_map] at hv
    obtain ⟨q, _, rfl⟩ := hv
    rfl) (by omega) (by omega) HR2.out.fits ?_
  intro bx cb w3 hO3 hB3 hbx hbl
  have HO3 := Lib.hid hO3
  have HB3 := Lib.hid hB3
  have hs2' := HS2.out
  have hr3 : w3.heap[w.heap.size + 1]? = some (.cells #[.int .i64 0, .slice none 0 0, .slice none 0 0] 30 (0, 0)) := (hB3.block (w.heap.size + 1) (by omega)).trans HR2W.out
  have HBX : Hid (w.heap.size + 2 ≤ bx) := by show _ ≤ _; have := HS2.out; omega
  have n1 : ¬ w.heap.size = bx := by omega
  have n2 : ¬ w.heap.size + 1 = bx := by omega
  have g0 := (A0'.out.step hB3)
  have g1 := (A1'.out.step hB3)
  have g2 := (A2'.out.step hB3)
  have k0 := (E0'.out.step hB3)
  have k1 := (E1'.out.step hB3)
  have k2 := (E2'.out.step hB3)
  obtain ⟨w4, hw4⟩ : ∃ w4, w4 = w3.setCell ⟨w.heap.size, 1, none⟩ (.slice (some ⟨bx, 0, none⟩) m cb) := ⟨_, rfl⟩
  obtain ⟨w5, hw5⟩ : ∃ w5, w5 = w4.setCell ⟨bx, i, none⟩ (.bool false) := ⟨_, rfl⟩
  have m0 : Var w5 w.heap.size 0 (.int .i64 room) := by rw [hw5, hw4]; exact (g0.off (by decide)).other n1
  have m1 : Var w5 w.heap.size 1 (.slice (some ⟨bx, 0, none⟩) m cb) := by rw [hw5, hw4]; exact g1.set.other n1
  have m2 : Var w5 w.heap.size 2 (.slice pa m ca) := by rw [hw5, hw4]; exact (g2.off (by decide)).other n1
  have o0 : Var w5 (w.heap.size + 1) 0 (.int .i64 0) := by rw [hw5, hw4]; exact (k0.other (by simp)).other n2
  have o1 : Var w5 (w.heap.size + 1) 1 (.slice none 0 0) := by rw [hw5, hw4]; exact (k1.other (by simp)).other n2
  have o2 : Var w5 (w.heap.size + 1) 2 (.slice none 0 0) := by rw [hw5, hw4]; exact (k2.other (by simp)).other n2
  have HR5 : Hid (w5.heap[w.heap.size + 1]? = some (.cells #[.int .i64 0, .slice none 0 0, .slice none 0 0] 30 (0, 0))) := by
    show _ = _
    rw [hw5, heap_setCell_other _ _ _ _ n2, hw4, heap_setCell_other _ _ _ _ (by simp)]; exact hr3
  have hO4 : w4.ownsRow base 4 1 (.slice (some ⟨bx, 0, none⟩) m cb) m (hs.map bv) := by rw [hw4]; exact own_set HO3.out (by simp [Value.ownBlock]; omega)
  have hO5 := (hO4.stored i (.bool false)).1
  rw [← hw5] at hO5
  have hcell4 := hO4.cellAt i (by omega)
  have hfree4 := hO4.frozenAt i
  obtain ⟨vv, hvv⟩ : ∃ vv, w4.cell? ⟨bx, i, none⟩ = some vv := by
    rw [hcell4]
    have hl := hO4.1
    exact ⟨_, List.getElem?_eq_getElem (by omega)⟩
  have O0 := Lib.hid o0
  have O1 := Lib.hid o1
  have O2 := Lib.hid o2
  have HO5 := Lib.hid hO5
  have p0 := m0.cell
  have p1 := m1.cell
  have p2 := m2.cell
  have r0 := o0.cell
  have r1 := o1.cell
  have r2 := o2.cell
  have s0 := o0.free
  have s1 := o1.free
  have s2 := o2.free
  have gg := g1.cell
  have gf := g1.free
  have g4 : w4.cell? ⟨w.heap.size, 1, none⟩ = some (.slice (some ⟨bx, 0, none⟩) m cb) := by rw [hw4]; exact g1.set.cell
  have HB5 : Hid (Below w.heap.size w w5) := by
    show Below _ _ _
    rw [hw5, hw4]
    exact ((HB2.out.trans (hB3.mono (by have := HS2.out; omega))).setCell (p := ⟨w.heap.size, 1, none⟩) (Nat.le_refl _) _).setCell (p := ⟨bx, i, none⟩) (by show w.heap.size ≤ bx; omega) _
  have HW4 := Lib.hid hw4
  have HW5 := Lib.hid hw5
  have HN2 := Lib.hid n2
  clear hO3 hB3 hbx hbl hr3 hs2' g0 g1 g2 k0 k1 k2 hw4 hw5 m0 m1 m2 o0 o1 o2 hO4 hO5 hcell4 x0' n1 n2
  have HR6 := Lib.hid (row3 (a := .int .i64 room) (b := .slice (some ⟨bx, 0, none⟩) m cb) (c := .slice pa m ca) HR5.out)
  go_wp2_with (first
    | rw [← HW4.out]
    | rw [← HW5.out])
  refine ret30 rfl rfl rfl rfl HR6.out rfl ?_
  have hBF := ((HB5.out.setCell (p := ⟨w.heap.size + 1, 0, none⟩) (Nat.le_succ _) (.int .i64 room)).setCell (p := ⟨w.heap.size + 1, 1, none⟩) (Nat.le_succ _) (.slice (some ⟨bx, 0, none⟩) m cb)).setCell (p := ⟨w.heap.size + 1, 2, none⟩) (Nat.le_succ _) (.slice pa m ca)
  have hRF := HR.out.step hBF
  refine ⟨bx, cb, i, rfl, HK.out, him, ⟨?_, hRF.ownA, hsm, hRF.fits, fun j b y h1 h2 => ?_, fun j hj => ?_⟩, hBF⟩
  · have hz : (Value.slice (some ⟨bx, 0, none⟩) m cb).ownBlock ≠ some (w.heap.size + 1) := by simp [Value.ownBlock]; exact fun e => HN2.out e.symm
    have t0 := own_set (a := ⟨w.heap.size + 1, 0, none⟩) (u := .int .i64 room) HO5.out hz
    have t1 := own_set (a := ⟨w.heap.size + 1, 1, none⟩) (u := .slice (some ⟨bx, 0, none⟩) m cb) t0 hz
    have t2 := own_set (a := ⟨w.heap.size + 1, 2, none⟩) (u := .slice pa m ca) t1 hz
    rw [List.map_set]
    exact t2
  · have hfi := HF.out
    rw [HK.out] at hfi ⊢
    rw [List.getElem?_set] at h1
    split at h1
    · rename_i e
      subst e
      split at h1
      · cases h1
        rw [updI_at]; rfl
      · cases h1
    · rename_i e
      rw [updI_ne _ _ _ _ (by omega)]
      exact HR.out.hit j b y h1 h2
  · unfold updI at hj
    by_cases e : j = k
    · rw [e]; have := HK.out; omega
    · rw [if_neg e] at hj; exact HR.out.out j hj

end Go.Proofs.Ytenmgjmbiamhcaa
