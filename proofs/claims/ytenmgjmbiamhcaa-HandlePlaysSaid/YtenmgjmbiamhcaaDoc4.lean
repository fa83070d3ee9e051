/-
  The document's table, by value: Add.
-/
import Derived.Test.YtenmgjmbiamhcaaSplit
namespace Go.Proofs.Ytenmgjmbiamhcaa
open Go.RowKit
set_option linter.unusedVariables false

theorem results_row30' {fn : Func} {p u v : Tmp} (h : fn.results = #[.cell p 30, .tmp u, .tmp v]) (tmps : Array Value) (w : World) (g : Nat) (cs : Array Value) (n k : Value)
    (hp : tmps.getD p undef = .pointer (some ⟨g, 0, none⟩)) (hn : tmps.getD u undef = n) (hk : tmps.getD v undef = k) (hg : w.heap[g]? = some (.cells cs 30 (0, 0))) (hs : cs.size = 3) :
    (results fn tmps).run Try.prog w = .ok (.tuple #[.agg cs, n, k]) w := by
  have hl := run_loadVar_row (P := Try.prog) w g 30 30 cs (0, 0) _ hg Try.underlying30 rfl (by rw [hs]; exact size30)
  have hp' : tmps[p]?.getD undef = .pointer (some ⟨g, 0, none⟩) := by simpa using hp
  have hn' : tmps[u]?.getD undef = n := by simpa using hn
  have hk' : tmps[v]?.getD undef = k := by simpa using hk
  simp only [results, h]
  simp [Result.andThen, hp', hn', hk', asAddr, hl]
theorem ret30' {fn : Func} {p u v : Tmp} {a : Act} {W : World} {R : Ending → World → Prop} {g : Nat} {cs : Array Value} {n k : Value} (h : fn.results = #[.cell p 30, .tmp u, .tmp v]) (hp : a.tmps.getD p undef = .pointer (some ⟨g, 0, none⟩)) (hn : a.tmps.getD u undef = n) (hk : a.tmps.getD v undef = k) (hd : a.defers = [])
    (hg : W.heap[g]? = some (.cells cs 30 (0, 0))) (hs : cs.size = 3) (hR : R (.returned (.tuple #[.agg cs, n, k])) W) : bodyPost Try.prog fn R .ret a W :=
  bodyPost_ret (results_row30' h _ _ g cs _ _ hp hn hk hg hs) hd hR

theorem loadVar_row30 {w : World} {g : Nat} {a b c : Value} (h : w.heap[g]? = some (.cells #[a, b, c] 30 (0, 0))) : (loadVar 30 ⟨g, 0, none⟩).run Try.prog w = .ok (.agg #[a, b, c]) w :=
  run_loadVar_row (P := Try.prog) w g 30 30 #[a, b, c] (0, 0) _ h Try.underlying30 rfl size30

set_option maxRecDepth 100000 in
set_option maxHeartbeats 1600000 in
theorem add14_full {w : World} {base ch ca m : Nat} {ph pa : Option Addr} {hs : List Bool} {xs : List Int} {f : Int → Option Int} (h : Rt w base ph ch pa ca m hs xs f) (room : Int) (x : Int) (hr : room = (cntB hs m : Int)) :
    Calls Try.prog 14 #[.agg #[.int .i64 room, .slice ph m ch, .slice pa m ca], .int .i64 x] w fun e w' => e = .returned (.tuple #[.agg #[.int .i64 room, .slice ph m ch, .slice pa m ca], .int .i64 0, .int .i64 10]) ∧ Below w.heap.size w w' := by
  obtain ⟨W, hW⟩ : ∃ W, W = (w.alloc (.cells #[.int .i64 room, .slice ph m ch, .slice pa m ca] 30)).alloc (.cells #[.int .i64 0, .slice none 0 0, .slice none 0 0] 30) := ⟨_, rfl⟩
  have s1 : (w.alloc (.cells #[.int .i64 room, .slice ph m ch, .slice pa m ca] 30)).heap.size = w.heap.size + 1 := World.size_alloc _ _
  have sW : W.heap.size = w.heap.size + 2 := by rw [hW, World.size_alloc, s1]
  have hB : Below w.heap.size w W := by rw [hW]; exact ((Below.refl _ _).alloc (Nat.le_refl _) _).alloc (by omega) _
  have hrow : W.heap[w.heap.size + 1]? = some (.cells #[.int .i64 0, .slice none 0 0, .slice none 0 0] 30 (0, 0)) := by rw [hW]; exact heap_alloc2_new _ _ _
  have hrow0 : W.heap[w.heap.size]? = some (.cells #[.int .i64 room, .slice ph m ch, .slice pa m ca] 30 (0, 0)) := by
    rw [hW]; exact heap_alloc2_old _ _ _
  have v0 : ∀ j v, (#[.int .i64 room, .slice ph m ch, .slice pa m ca] : Array Value)[j]? = some v → Var W w.heap.size j v := fun j v hv => by rw [hW]; exact (Var.new rfl hv).alloc _
  have a0 := v0 0 _ rfl
  have HA0 := Lib.hid a0
  have HROW := Lib.hid hrow
  have HROW0 := Lib.hid hrow0
  have HB := Lib.hid hB
  have HW := Lib.hid hW
  have SW := Lib.hid sW
  have HR := Lib.hid (h.step hB)
  subst hr
  clear h hW s1 sW hB hrow hrow0 v0 a0
  go_enter Try.func14, Try.ntmps14
  go_wp2_with (rw [← HW.out])
  refine region_quiet (C := fun W' => Below W.heap.size W W') (by kernel_rfl) (by kernel_rfl) ((Below.refl _ _).drew) ?_
  repeat (
    refine wpQuiet_step (fun K hK => ?_)
    first
    | (refine quiet_load (by rfl) 30 _ (by rfl) ⟨w.heap.size, 0, none⟩ (by rfl) (.agg #[.int .i64 (cntB hs m), .slice ph m ch, .slice pa m ca]) (fun W' hC => loadVar_row30 ((hC.block w.heap.size (by have := SW.out; omega)).trans HROW0.out)) ?_
       refine hK _ ?_; clear hK K)
    | (refine quiet_load (by rfl) 3 _ (by rfl) ⟨w.heap.size, 0, none⟩ (by rfl) (.int .i64 (cntB hs m)) (fun W' hC => loadVar_cell (Try.isAgg3 _) (HA0.out.step hC).cell) ?_
       refine hK _ ?_; clear hK K)
    | (refine quiet_call (by rfl) 24 #[.agg #[.int .i64 (cntB hs m), .slice ph m ch, .slice pa m ca]] ?_ (.int .i64 (cntB hs m)) (fun W' hC => (len24 (HR.out.step hC) _).mono ?_) ?_
       · (intro W'; go_simp)
       · rintro e w' ⟨he, hw⟩; exact ⟨he, by rw [hw]; exact hC.alloc hC.size _⟩
       refine hK _ ?_; clear hK K)
    | (refine quiet_pure (v := ?_) (by rfl) ?_ ?_
       rotate_left
       focus (intro W'; go_simp; try (with_reducible rfl))
       refine hK _ ?_; clear hK K)
    try simp only [Act.put, List.setIfInBounds_toArray, List.set_cons_zero, List.set_cons_succ])
  refine wpQuiet_nil ?_
  intro w2 hB2
  have hz := SW.out
  have hr0 := (hB2.block w.heap.size (by omega)).trans HROW0.out
  have hr1 := (hB2.block (w.heap.size + 1) (by omega)).trans HROW.out
  have HR6 := Lib.hid (row3 (a := .int .i64 (cntB hs m)) (b := .slice ph m ch) (c := .slice pa m ca) hr1)
  have c0 : w2.cell? ⟨w.heap.size, 0, none⟩ = some (.int .i64 (cntB hs m)) := cell_of_row _ _ _ _ _ _ hr0
  have c1 : w2.cell? ⟨w.heap.size, 1, none⟩ = some (.slice ph m ch) := cell_of_row _ _ _ _ _ _ hr0
  have c2 : w2.cell? ⟨w.heap.size, 2, none⟩ = some (.slice pa m ca) := cell_of_row _ _ _ _ _ _ hr0
  have d0 : w2.cell? ⟨w.heap.size + 1, 0, none⟩ = some (.int .i64 0) := cell_of_row _ _ _ _ _ _ hr1
  have d1 : w2.cell? ⟨w.heap.size + 1, 1, none⟩ = some (.slice none 0 0) := cell_of_row _ _ _ _ _ _ hr1
  have d2 : w2.cell? ⟨w.heap.size + 1, 2, none⟩ = some (.slice none 0 0) := cell_of_row _ _ _ _ _ _ hr1
  have z0 : w2.frozen? ⟨w.heap.size + 1, 0, none⟩ = false := frozen_of_row _ _ _ _ _ hr1
  have z1 : w2.frozen? ⟨w.heap.size + 1, 1, none⟩ = false := frozen_of_row _ _ _ _ _ hr1
  have z2 : w2.frozen? ⟨w.heap.size + 1, 2, none⟩ = false := frozen_of_row _ _ _ _ _ hr1
  have HB2 := Lib.hid (Below.step HB.out hB2)
  clear hz hr0 hr1 hB2
  go_wp2_with fail
  refine ret30' rfl rfl rfl rfl rfl HR6.out rfl ?_
  exact ⟨rfl, ((HB2.out.setCell (p := ⟨w.heap.size + 1, 0, none⟩) (Nat.le_succ _) _).setCell (p := ⟨w.heap.size + 1, 1, none⟩) (Nat.le_succ _) _).setCell (p := ⟨w.heap.size + 1, 2, none⟩) (Nat.le_succ _) _⟩

/-- a row that is owned lies in no block of another type -/
theorem own_ne {w : World} {base : Nat} {e t : TypeId} {v : Value} {n : Nat} {vs : List Value} {b : Nat} {cs : Array Value} {fr : Nat × Nat} (h : w.ownsRow base e 1 v n vs) (hb : w.heap[b]? = some (.cells cs t fr)) (he : e ≠ t) : v.ownBlock ≠ some b := by
  intro hv
  rcases h.2 with ⟨hn, _⟩ | ⟨g, cap, cur, hn, _, hg, _⟩
  · rw [hn] at hv; cases hv
  · rw [hn] at hv
    have : g = b := by simpa [Value.ownBlock] using hv
    subst this
    rw [hg] at hb
    cases hb
    exact he rfl
theorem own_type {w : World} {base base' : Nat} {e t : TypeId} {v v' : Value} {n n' : Nat} {vs vs' : List Value} (h : w.ownsRow base e 1 v n vs) (h' : w.ownsRow base' t 1 v' n' vs') (he : e ≠ t) : ∀ g, v'.ownBlock = some g → v.ownBlock ≠ some g := by
  intro g hg
  rcases h'.2 with ⟨hn, _⟩ | ⟨g', cap, cur, hn, _, hg', _⟩
  · rw [hn] at hg; cases hg
  · rw [hn] at hg
    have : g' = g := by simpa [Value.ownBlock] using hg
    subst this
    exact own_ne h hg' he

/-- blocks that hold neither yes-or-no's nor integers alone are as they were -/
def Others (w w' : World) : Prop := ∀ (b : Nat) (cs : Array Value) (t : TypeId), t ≠ 4 → t ≠ 3 → w.heap[b]? = some (.cells cs t (0, 0)) → w'.heap[b]? = some (.cells cs t (0, 0))

/-- the worlds on the way through Add: both rows, both variables -/
structure Hd (w w' : World) (base b0 : Nat) (r0 r1 : Array Value) (vh : Value) (mh : Nat) (lh : List Value) (va : Value) (ma : Nat) (la : List Value) : Prop where
  oh : w'.ownsRow base 4 1 vh mh lh
  oa : w'.ownsRow base 3 1 va ma la
  r0 : w'.heap[b0]? = some (.cells r0 30 (0, 0))
  r1 : w'.heap[b0 + 1]? = some (.cells r1 30 (0, 0))
  bl : Below base w w'
  fit : base ≤ w'.heap.size
  oth : Others w w'

theorem blk_lt {w : World} {b : Nat} {o : Obj} (h : w.heap[b]? = some o) : b < w.heap.size := (Array.getElem?_eq_some_iff.1 h).1

theorem Hd.alloc {w w' : World} {base b0 : Nat} {r0 r1 : Array Value} {vh va : Value} {mh ma : Nat} {lh la : List Value} (h : Hd w w' base b0 r0 r1 vh mh lh va ma la) (o : Obj) : Hd w (w'.alloc o) base b0 r0 r1 vh mh lh va ma la :=
  ⟨h.oh.alloc _, h.oa.alloc _, by rw [heap_alloc_old _ _ (blk_lt h.r0)]; exact h.r0, by rw [heap_alloc_old _ _ (blk_lt h.r1)]; exact h.r1, h.bl.alloc h.fit _, by rw [World.size_alloc]; have := h.fit; omega,
    fun b cs t h1 h2 hb => by rw [heap_alloc_old _ _ (blk_lt (h.oth b cs t h1 h2 hb))]; exact h.oth b cs t h1 h2 hb⟩
theorem Hd.growH {w w' w2 : World} {base b0 : Nat} {r0 r1 : Array Value} {vh va v : Value} {mh ma n : Nat} {lh la l : List Value} (h : Hd w w' base b0 r0 r1 vh mh lh va ma la) (ho : w2.ownsRow base 4 1 v n l) (hg : w'.grownBy w2 vh.ownBlock) : Hd w w2 base b0 r0 r1 v n l va ma la :=
  ⟨ho, own_block h.oa fun g hg' => hg.block g (own_lt h.oa g hg').2 (fun e => own_type h.oh h.oa (by decide) g hg' e.symm),
    (hg.block b0 (blk_lt h.r0) (fun e => own_ne h.oh h.r0 (by decide) e.symm)).trans h.r0, (hg.block (b0 + 1) (blk_lt h.r1) (fun e => own_ne h.oh h.r1 (by decide) e.symm)).trans h.r1,
    h.bl.grown hg h.fit (fun k hk => (own_lt h.oh k hk).1), Nat.le_trans h.fit hg.size,
    fun b cs t h1 h2 hb => (hg.block b (blk_lt (h.oth b cs t h1 h2 hb)) (fun e => own_ne h.oh (h.oth b cs t h1 h2 hb) (fun e => h1 e.symm) e.symm)).trans (h.oth b cs t h1 h2 hb)⟩
theorem Hd.growA {w w' w2 : World} {base b0 : Nat} {r0 r1 : Array Value} {vh va v : Value} {mh ma n : Nat} {lh la l : List Value} (h : Hd w w' base b0 r0 r1 vh mh lh va ma la) (ho : w2.ownsRow base 3 1 v n l) (hg : w'.grownBy w2 va.ownBlock) : Hd w w2 base b0 r0 r1 vh mh lh v n l :=
  ⟨own_block h.oh fun g hg' => hg.block g (own_lt h.oh g hg').2 (fun e => own_type h.oa h.oh (by decide) g hg' e.symm), ho,
    (hg.block b0 (blk_lt h.r0) (fun e => own_ne h.oa h.r0 (by decide) e.symm)).trans h.r0, (hg.block (b0 + 1) (blk_lt h.r1) (fun e => own_ne h.oa h.r1 (by decide) e.symm)).trans h.r1,
    h.bl.grown hg h.fit (fun k hk => (own_lt h.oa k hk).1), Nat.le_trans h.fit hg.size,
    fun b cs t h1 h2 hb => (hg.block b (blk_lt (h.oth b cs t h1 h2 hb)) (fun e => own_ne h.oa (h.oth b cs t h1 h2 hb) (fun e => h2 e.symm) e.symm)).trans (h.oth b cs t h1 h2 hb)⟩

theorem Hd.put {w w' : World} {base b0 : Nat} {a b c u v : Value} {r1 : Array Value} {vh va : Value} {mh ma : Nat} {lh la : List Value} (h : Hd w w' base b0 #[a, b, c] r1 vh mh lh va ma la) (hb : base ≤ b0) (hw : w.heap.size ≤ b0) :
    Hd w ((w'.setCell ⟨b0, 1, none⟩ u).setCell ⟨b0, 2, none⟩ v) base b0 #[a, u, v] r1 vh mh lh va ma la := by
  have k1 := own_ne h.oh h.r0 (by decide)
  have k2 := own_ne h.oa h.r0 (by decide)
  refine ⟨own_set (own_set h.oh k1) k1, own_set (own_set h.oa k2) k2, ?_, ?_, (h.bl.setCell (p := ⟨b0, 1, none⟩) hb _).setCell (p := ⟨b0, 2, none⟩) hb _, ?_, fun b cs t h1 h2 hb' => ?_⟩
  · rw [heap_setCell_same _ b0 2 _ 30 v (heap_setCell_same _ b0 1 _ 30 u h.r0)]
    rfl
  · rw [heap_setCell_other _ _ _ _ (by simp), heap_setCell_other _ _ _ _ (by simp)]; exact h.r1
  · rw [World.size_setCell, World.size_setCell]; exact h.fit
  · have hne : ¬ b = b0 := by have := blk_lt hb'; omega
    rw [heap_setCell_other _ _ _ _ hne, heap_setCell_other _ _ _ _ hne]; exact h.oth b cs t h1 h2 hb'
theorem Hd.put1 {w w' : World} {base b0 : Nat} {a b c x y z : Value} {r0 : Array Value} {vh va : Value} {mh ma : Nat} {lh la : List Value} (h : Hd w w' base b0 r0 #[x, y, z] vh mh lh va ma la) (hb : base ≤ b0) (hw : w.heap.size ≤ b0) :
    Hd w (((w'.setCell ⟨b0 + 1, 0, none⟩ a).setCell ⟨b0 + 1, 1, none⟩ b).setCell ⟨b0 + 1, 2, none⟩ c) base b0 r0 #[a, b, c] vh mh lh va ma la := by
  have k1 := own_ne h.oh h.r1 (by decide)
  have k2 := own_ne h.oa h.r1 (by decide)
  refine ⟨own_set (own_set (own_set h.oh k1) k1) k1, own_set (own_set (own_set h.oa k2) k2) k2, ?_, row3 h.r1,
    ((h.bl.setCell (p := ⟨b0 + 1, 0, none⟩) (Nat.le_succ_of_le hb) _).setCell (p := ⟨b0 + 1, 1, none⟩) (Nat.le_succ_of_le hb) _).setCell (p := ⟨b0 + 1, 2, none⟩) (Nat.le_succ_of_le hb) _, ?_, fun b cs t h1 h2 hb' => ?_⟩
  · rw [heap_setCell_other _ _ _ _ (by simp), heap_setCell_other _ _ _ _ (by simp), heap_setCell_other _ _ _ _ (by simp)]; exact h.r0
  · rw [World.size_setCell, World.size_setCell, World.size_setCell]; exact h.fit
  · have hne : ¬ b = b0 + 1 := by have := blk_lt hb'; omega
    rw [heap_setCell_other _ _ _ _ hne, heap_setCell_other _ _ _ _ hne, heap_setCell_other _ _ _ _ hne]; exact h.oth b cs t h1 h2 hb'

/-- append of one thing, as one operation -/
theorem wp_one {T e : TypeId} {z : Value} {by' : Nat} {w : World} {o : Oper} {a : Act} {K : Act → World → Prop} {Q : Exit → Act → World → Prop} (hT : Try.prog.underlying T = some (.slice e)) (hinfo : (Try.prog.info? e).map (fun i => (i.zero, i.size, i.bytes)) = some (some z, 1, by'))
    (hzs : z.cells.size = 1) (hby : by' ≤ 8) (s x : Operand) (ho : o.op = .call { callee := .builtin .append, args := #[s, x], argTypes := #[T, T] })
    (base : Nat) (v : Value) (n : Nat) (vs : List Value) (hs : a.eval s = v) (hown : w.ownsRow base e 1 v n vs) (blk : Nat) (u : Value) (t : TypeId) (hx : a.eval x = .slice (some ⟨blk, 0, none⟩) 1 1) (hc : w.heap[blk]? = some (.cells #[u] t (0, 0)))
    (h1 : u.oneCell' = true) (hn : n ≤ 4096) (hbase : base ≤ w.heap.size)
    (h : ∀ g c w', w'.ownsRow base e 1 (.slice (some ⟨g, 0, none⟩) (n + 1) c) (n + 1) (vs ++ [u]) → w.grownBy w' v.ownBlock → K (a.put o.dst (.slice (some ⟨g, 0, none⟩) (n + 1) c)) w') :
    Oper.wp Try.prog o a w K Q := by
  obtain ⟨i0, hi, hz0, hz1, hz2⟩ := info_parts hinfo
  exact wp_append_lies w s x T ho base e i0 z 1 by' hT hi hz0 hz1 hz2 hzs (by decide) v n vs hs hown ⟨blk, 0, none⟩ 1 1 [u] hx rfl (World.news_of_block hc) (by intro q hq; rcases List.mem_cons.1 hq with rfl | hq; exact h1; cases hq) (by decide) (by unfold maxLen; omega)
    (Nat.le_trans (Nat.mul_le_mul (show n + 1 ≤ 4097 by omega) hby) (by decide)) hbase _ rfl (fun g c w' ho' hg' _ _ => h g c w' ho' hg')

end Go.Proofs.Ytenmgjmbiamhcaa
