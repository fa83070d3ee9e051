/-
  For the statement TopOwners: stats: down; Comparison of two ends; stats: shared; Quiet operations of a region that draws its order, over any class of worlds.
-/
import Derived.Test.YtbihlmkjoplkoaaGreatDoorM32
import Derived.Deep.QuietTactic
/-
  stats: down.
-/
namespace Go.Proofs.YtbihlmkjoplkoaaGreatDoor
open Go.RowKit
set_option linter.unusedVariables false

theorem size109 : (Tryz.prog.info? 109).map (·.size) = some 2 := by kernel_rfl

/-- an end, as a value -/
def endV (p : Option Nat) (g : Nat) : Value := .agg #[.pointer (pt p), .int .i64 g]

section
variable {B : Nat} {w : World} {S : Store}

set_option maxHeartbeats 1600000 in
set_option maxRecDepth 100000 in
theorem down60 (hs : Sto B w S) {id : Nat} {d : ND} (hd : S id = some d) (g s b : Nat) (hb : b < 256) (hg : g ≤ 65536) (hs2 : s ≤ 65536) :
    Calls Tryz.prog 60 #[endV (some id) g, .int .i64 s, .int .u8 b] w fun e w' => e = .returned (if g + s < d.part.length then endV (some id) (g + s + 1) else endV (d.kid b) 0) ∧ Below w.heap.size w w' := by
  have hb1 : Below w.heap.size w (w.alloc (.cells #[.pointer (some ⟨id, 0, none⟩), .int .i64 g] 109)) := (Below.refl _ _).alloc (Nat.le_refl _) _
  have hb2 : Below w.heap.size w ((w.alloc (.cells #[.pointer (some ⟨id, 0, none⟩), .int .i64 g] 109)).alloc (.cells #[.pointer none, .int .i64 0] 109)) := hb1.alloc hb1.size _
  have hA : ((w.alloc (.cells #[.pointer (some ⟨id, 0, none⟩), .int .i64 g] 109)).alloc (.cells #[.pointer none, .int .i64 0] 109)).heap[w.heap.size]? = some (.cells #[.pointer (some ⟨id, 0, none⟩), .int .i64 g] 109 (0, 0)) := by
    rw [Below.heap_alloc _ _ _ (by rw [World.size_alloc]; omega)]
    exact heap_alloc_new _ _
  have hR := heap_alloc_new (w.alloc (.cells #[.pointer (some ⟨id, 0, none⟩), .int .i64 g] 109)) (.cells #[.pointer none, .int .i64 0] 109)
  rw [World.size_alloc] at hR
  have HA := Lib.hid hA
  have HR := Lib.hid hR
  have HB := Lib.hid hb2
  have HS := Lib.hid (hs.step hb2)
  have HD := Lib.hid (show S id = some d ∧ b < 256 ∧ g ≤ 65536 ∧ s ≤ 65536 from ⟨hd, hb, hg, hs2⟩)
  have q1 : wrap64 ((g : Int) + s) = (g : Int) + s := IntWalk.wrap64_in _ (by omega)
  have q0 : IntKind.i64.wrap ((g : Int) + s) = (g : Int) + s := IntWalk.i64_in _ (by omega)
  have q2 : wrap64 ((g : Int) + s + 1) = (g : Int) + s + 1 := IntWalk.wrap64_in _ (by omega)
  have c0d : ((w.alloc (.cells #[.pointer (some ⟨id, 0, none⟩), .int .i64 g] 109)).alloc (.cells #[.pointer none, .int .i64 0] 109)).drew.cell? ⟨w.heap.size, 0, none⟩ = some (.pointer (some ⟨id, 0, none⟩)) := by
    have := cell_row hA 0; exact this
  have c1d : ((w.alloc (.cells #[.pointer (some ⟨id, 0, none⟩), .int .i64 g] 109)).alloc (.cells #[.pointer none, .int .i64 0] 109)).drew.cell? ⟨w.heap.size, 1, none⟩ = some (.int .i64 g) := by
    have := cell_row hA 1; exact this
  obtain ⟨pl, hpl⟩ : ∃ pl, d.part.length = pl := ⟨_, rfl⟩
  rw [hpl]
  clear hs hd hb hg hs2 hb1 hb2 hA hR
  unfold endV
  obtain ⟨kp, hkp⟩ : ∃ kp, pt (d.kid b) = kp := ⟨_, rfl⟩
  rw [hkp]
  have HKP := Lib.hid hkp
  clear hkp
  simp only [pt]
  go_enter Tryz.func60, Tryz.ntmps60
  go_wp2_with fail
  go_region_held3 (fun W' : World => W'.cell? ⟨w.heap.size, 0, none⟩ = some (.pointer (some ⟨id, 0, none⟩)) ∧ W'.cell? ⟨w.heap.size, 1, none⟩ = some (.int .i64 g))
    (first
      | exact ⟨c0d, c1d⟩
      | exact X)
    (first
      | (go_at_call 58
         refine (part58x (HS.out.drewN 1) HD.out.1).mono ?_
         rintro e w2 ⟨rfl, hk2, hb2⟩
         have HA2 := Lib.hid ((hb2.block _ (heap_lt HA.out)).trans HA.out)
         have X := And.intro (show w2.cell? ⟨w.heap.size, 0, none⟩ = some (.pointer (some ⟨id, 0, none⟩)) by rw [cell_row HA2.out]; rfl) (show w2.cell? ⟨w.heap.size, 1, none⟩ = some (.int .i64 g) by rw [cell_row HA2.out]; rfl)))
  have HB2 := Lib.hid (Below.step (below_drewN HB.out 1) hb2)
  have HR2 := Lib.hid ((hb2.block _ (heap_lt HR.out)).trans HR.out)
  have HS2 := Lib.hid ((HS.out.drewN 1).step hb2)
  have X0 := X.1
  have X1 := X.2
  clear X hk2 hb2 c0d c1d
  by_cases hlt : g + s < pl
  · have d1 : (g : Int) + s < pl := by omega
    have HL := Lib.hid hlt
    clear hlt
    go_wp2_with (refine wpList_store_row rfl 109 _ _ (by rfl) (w.heap.size + 1) #[.pointer (some ⟨id, 0, none⟩), .int .i64 ((g : Int) + s + 1)] (by rfl) (by rfl) 109 #[.pointer none, .int .i64 0] HR2.out size109 rfl (by simp [Value.oneCell']) ?_; refine stop ?_)
    refine unhid ?_
    have HG := Lib.hid (setRow_heap _ (w.heap.size + 1) _ #[.pointer (some ⟨id, 0, none⟩), .int .i64 ((g : Int) + s + 1)] 109 _ HR2.out)
    go_wp2_with fail
    refine bodyPost_ret (results_cell_row rfl _ _ (w.heap.size + 1) 109 #[.pointer (some ⟨id, 0, none⟩), .int .i64 ((g : Int) + s + 1)] (0, 0) _ (by rfl) HG.out Tryz.underlying109 rfl size109) rfl ?_
    exact ⟨by first | rfl | (rw [if_pos HL.out]; rfl), below_setRow HB2.out (Nat.le_succ _) _⟩
  · have d1 : ¬ ((g : Int) + s < pl) := by omega
    have HL := Lib.hid hlt
    clear hlt
    go_wp2_with fail
    refine (kid38 HS2.out HD.out.1 b HD.out.2.1).mono ?_; rintro e w3 ⟨rfl, z, hw3⟩
    rw [hw3]; clear hw3 w3
    have HR3 : Hid ((w2.drewN z).heap[w.heap.size + 1]? = some (.cells #[.pointer none, .int .i64 0] 109 (0, 0))) := HR2.out
    rw [HKP.out]
    go_wp2_with (refine wpList_store_row rfl 109 _ _ (by rfl) (w.heap.size + 1) #[.pointer kp, .int .i64 0] (by rfl) (by rfl) 109 #[.pointer none, .int .i64 0] HR3.out size109 rfl (by simp [Value.oneCell']) ?_; refine stop ?_)
    refine unhid ?_
    have HG := Lib.hid (setRow_heap _ (w.heap.size + 1) _ #[.pointer kp, .int .i64 0] 109 _ HR3.out)
    go_wp2_with fail
    refine bodyPost_ret (results_cell_row rfl _ _ (w.heap.size + 1) 109 #[.pointer kp, .int .i64 0] (0, 0) _ (by rfl) HG.out Tryz.underlying109 rfl size109) rfl ?_
    exact ⟨by first | rfl | (rw [if_neg HL.out]; rfl), below_setRow (below_drewN HB2.out z) (Nat.le_succ _) _⟩
end
end Go.Proofs.YtbihlmkjoplkoaaGreatDoor
/-
  Comparison of two ends.
-/
namespace Go.Proofs.YtbihlmkjoplkoaaGreatDoor
open Go.RowKit
set_option linter.unusedVariables false

set_option maxRecDepth 100000 in
theorem eq109 (w : World) (p q : Option Addr) (g h : Int) (r : Bool) (hr : ∀ d : Nat, (Op.equalIn (d + 1) 48 (.pointer p) (.pointer q)).run Tryz.prog w = .ok r w) :
    (Op.equalIn 10000 109 (.agg #[.pointer p, .int .i64 g]) (.agg #[.pointer q, .int .i64 h])).run Tryz.prog w = .ok (r && (g == h)) w := by
  have he : ∀ (d : Nat) (a b : Int) (w : World), (Op.equalIn (d + 1) 3 (.int .i64 a) (.int .i64 b)).run Tryz.prog w = .ok (a == b) w := fun d a b w => run_equalIn_int w d 3 _ _ a b Tryz.underlying3
  have key : ∀ d : Nat, (Op.equalIn (d + 1 + 1) 109 (.agg #[.pointer p, .int .i64 g]) (.agg #[.pointer q, .int .i64 h])).run Tryz.prog w = .ok (r && (g == h)) w := fun d => by
    have hst : Tryz.prog.stoodInHeld 109 = false := by kernel_rfl
    rw [Op.equalIn]
    simp only [Sem.run_bind, run_underlying Tryz.underlying109, Result.andThen_ok]
    have p0 : ∀ (v u : Value), (part 48 #[v, u] 0).run Tryz.prog w = .ok v w := fun v u => by simp [part, isAgg, run_underlying Tryz.underlying48]
    have p1 : ∀ (v u : Value), (part 3 #[v, u] 1).run Tryz.prog w = .ok u w := fun v u => by simp [part, isAgg, run_underlying Tryz.underlying3]
    cases r with
    | false => simp [hst, hr, p0]
    | true =>
      cases hg : (g == h) with
      | false => simp [hst, hr, he, p0, p1, hg]
      | true => simp [hst, hr, he, p0, p1, hg]
  exact key 9998

theorem equal48 {w : World} (x y : Nat) (hx : Cellsy w x) (hy : Cellsy w y) (d : Nat) : (Op.equalIn (d + 1) 48 (.pointer (some ⟨x, 0, none⟩)) (.pointer (some ⟨y, 0, none⟩))).run Tryz.prog w = .ok (decide (x = y)) w := by
  obtain ⟨j, h1, h2⟩ := info48
  by_cases e : x = y
  · subst e
    simp [Op.equalIn, run_underlying Tryz.underlying48, sizeOf, typeInfo, h1, run_sameAddr_same]
  · obtain ⟨ca, ta, ha⟩ := hx
    obtain ⟨cb, tb, hb⟩ := hy
    have hne : (⟨x, 0, none⟩ : Addr) ≠ ⟨y, 0, none⟩ := fun h => e (by cases h; rfl)
    simp [Op.equalIn, run_underlying Tryz.underlying48, sizeOf, typeInfo, h1, h2, run_sameAddr_other w hne ha hb, e]

/-- two ends of nodes, compared -/
theorem eqEnds {w : World} (x y g h : Nat) (hx : Cellsy w x) (hy : Cellsy w y) :
    (Op.equalIn 10000 109 (.agg #[.pointer (some ⟨x, 0, none⟩), .int .i64 g]) (.agg #[.pointer (some ⟨y, 0, none⟩), .int .i64 h])).run Tryz.prog w = .ok (decide (x = y ∧ g = h)) w := by
  rw [eq109 w _ _ g h (decide (x = y)) (fun d => equal48 x y hx hy d)]
  congr 1
  by_cases e1 : x = y <;> by_cases e2 : g = h <;> simp [e1, e2] <;> omega
end Go.Proofs.YtbihlmkjoplkoaaGreatDoor
/-
  stats: shared.
-/
namespace Go.Proofs.YtbihlmkjoplkoaaGreatDoor
open Go.RowKit
set_option linter.unusedVariables false

/-- how long a root's part is -/
def T.plen : T → Nat
  | .nil => 0
  | .node _ _ part _ _ _ _ => part.length

/-- what shared tells -/
def ShareH (B : Nat) (S : Store) (f : Nat) : Prop := ∀ (w : World) (ta tb : T) (ga gb : Nat) (ha hb : List Int), Sto B w S → B ≤ w.heap.size → Rep S ta → Rep S tb → ta.All Short ha → tb.All Short hb →
  65560 * (ta.cnt (fun _ => true) + 1) ≤ 140737488351000 → ga ≤ ta.plen → gb ≤ tb.plen → ta.cnt (fun _ => true) + tb.cnt (fun _ => true) ≤ f →
  Calls Tryz.prog 39 #[endV ta.ptr ga, endV tb.ptr gb] w fun e w' => e = .returned (.int .i64 (wrap64 (sh f ta ga tb gb))) ∧ Below w.heap.size w w'

section
variable {B : Nat} {w : World} {S : Store}

set_option maxHeartbeats 800000 in
theorem share_nilL (w : World) (p : Option Addr) (g h : Int) : Calls Tryz.prog 39 #[.agg #[.pointer none, .int .i64 g], .agg #[.pointer p, .int .i64 h]] w fun e w' => e = .returned (.int .i64 0) ∧ Below w.heap.size w w' := by
  have HB : Hid (Below w.heap.size w ((w.alloc (.cells #[.pointer none, .int .i64 g] 109)).alloc (.cells #[.pointer p, .int .i64 h] 109))) := ((Below.refl _ _).alloc (Nat.le_refl _) _).alloc (by rw [World.size_alloc]; omega) _
  go_enter Tryz.func39, Tryz.ntmps39
  go_wp2_with fail
  go_ret
  exact ⟨rfl, HB.out⟩

set_option maxHeartbeats 800000 in
theorem share_nilR (w : World) (x : Nat) (g h : Int) : Calls Tryz.prog 39 #[.agg #[.pointer (some ⟨x, 0, none⟩), .int .i64 g], .agg #[.pointer none, .int .i64 h]] w fun e w' => e = .returned (.int .i64 0) ∧ Below w.heap.size w w' := by
  have HB : Hid (Below w.heap.size w ((w.alloc (.cells #[.pointer (some ⟨x, 0, none⟩), .int .i64 g] 109)).alloc (.cells #[.pointer none, .int .i64 h] 109))) := ((Below.refl _ _).alloc (Nat.le_refl _) _).alloc (by rw [World.size_alloc]; omega) _
  have he := run_eql_pointer_nil (P := Tryz.prog) ((w.alloc (.cells #[.pointer (some ⟨x, 0, none⟩), .int .i64 g] 109)).alloc (.cells #[.pointer none, .int .i64 h] 109)) 48 (some ⟨x, 0, none⟩) (by kernel_rfl)
  go_enter Tryz.func39, Tryz.ntmps39
  go_wp2_with fail
  go_ret
  exact ⟨rfl, HB.out⟩

/-- the world behind the two boxes -/
def two (w : World) (x y : Nat) (g h : Int) : World := (w.alloc (.cells #[.pointer (some ⟨x, 0, none⟩), .int .i64 g] 109)).alloc (.cells #[.pointer (some ⟨y, 0, none⟩), .int .i64 h] 109)
theorem two_bel (w : World) (x y : Nat) (g h : Int) : Below w.heap.size w (two w x y g h) := ((Below.refl _ _).alloc (Nat.le_refl _) _).alloc (by rw [World.size_alloc]; omega) _
theorem two_a (w : World) (x y : Nat) (g h : Int) : (two w x y g h).heap[w.heap.size]? = some (.cells #[.pointer (some ⟨x, 0, none⟩), .int .i64 g] 109 (0, 0)) := by
  unfold two
  rw [Below.heap_alloc _ _ _ (by rw [World.size_alloc]; omega)]
  exact heap_alloc_new _ _
theorem two_b (w : World) (x y : Nat) (g h : Int) : (two w x y g h).heap[w.heap.size + 1]? = some (.cells #[.pointer (some ⟨y, 0, none⟩), .int .i64 h] 109 (0, 0)) := by
  have := heap_alloc_new (w.alloc (.cells #[.pointer (some ⟨x, 0, none⟩), .int .i64 g] 109)) (.cells #[.pointer (some ⟨y, 0, none⟩), .int .i64 h] 109)
  rw [World.size_alloc] at this
  exact this

set_option maxHeartbeats 1600000 in
set_option maxRecDepth 100000 in
/-- one node, both ends at its start -/
theorem share_same (hs : Sto B w S) (hB : B ≤ w.heap.size) {t : T} {id : Nat} (ht : t.ptr = some id) (hr : Rep S t) {hd : List Int} (ha : t.All Short hd) (hn : 65560 * (t.cnt (fun _ => true) + 1) ≤ 140737488351000) :
    Calls Tryz.prog 39 #[.agg #[.pointer (some ⟨id, 0, none⟩), .int .i64 0], .agg #[.pointer (some ⟨id, 0, none⟩), .int .i64 0]] w fun e w' => e = .returned (.int .i64 (wrap64 (t.cnt (fun _ => true)))) ∧ Below w.heap.size w w' := by
  have hb := two_bel w id id 0 0
  have hc : Cellsy (two w id id 0 0) id := (hs.step hb).cellsy (by
    obtain ⟨_, _, _, _, _, _, e⟩ := ptr_node ht
    rw [e] at hr; rw [hr.1]; simp)
  have he : (Op.equalIn 9999 48 (.pointer (some ⟨id, 0, none⟩)) (.pointer (some ⟨id, 0, none⟩))).run Tryz.prog (two w id id 0 0) = .ok true (two w id id 0 0) := by
    have := equal48 id id hc hc 9998
    rw [decide_eq_true rfl] at this
    exact this
  have hn1 := run_eql_pointer_nil (P := Tryz.prog) (two w id id 0 0) 48 (some ⟨id, 0, none⟩) (by kernel_rfl)
  have HO := Lib.hid (Of19 (hs.step hb) (Nat.le_trans hB hb.size) hr ha hn)
  rw [ht] at HO
  have HB := Lib.hid hb
  simp only [pt] at HO
  unfold two at *
  clear hs hB hr ha hn hb hc ht
  generalize t.cnt (fun _ => true) = m at *
  go_enter Tryz.func39, Tryz.ntmps39
  go_wp2_with fail
  refine HO.out.mono ?_; rintro e w2 ⟨a0, a1, i0, i1, i2, i3, a3, a4, a5, a6, a7, rfl, hsum, hb2⟩
  have HB2 := Lib.hid (Below.step HB.out hb2)
  have HN := Lib.hid (Nodes18 w2 m a0 a1 i0 i1 i2 i3 a3 a4 a5 a6 a7 hsum)
  clear hsum hb2 he hn1
  go_wp2_with fail
  refine HN.out.mono ?_; rintro e w3 ⟨rfl, hb3⟩
  have HB3 := Lib.hid (Below.step HB2.out hb3)
  clear hb3
  go_wp2_with fail
  go_ret
  exact ⟨rfl, HB3.out⟩

theorem Shared17 {f : Nat} (H : ShareH B S f) {ta tb : T} {ha hb : List Int} (hs : Sto B w S) (hB : B ≤ w.heap.size) (ra : Rep S ta) (rb : Rep S tb) (aa : ta.All Short ha) (ab : tb.All Short hb)
    (hn : 65560 * (ta.cnt (fun _ => true) + 1) ≤ 140737488351000) (hf : ta.cnt (fun _ => true) + tb.cnt (fun _ => true) ≤ f) :
    Calls Tryz.prog 17 #[.pointer (pt ta.ptr), .pointer (pt tb.ptr)] w fun e w' => e = .returned (.int .i64 (wrap64 (sh f ta 0 tb 0))) ∧ Below w.heap.size w w' := by
  have h := H w ta tb 0 0 ha hb hs hB ra rb aa ab hn (Nat.zero_le _) (Nat.zero_le _) hf
  unfold endV at h
  rw [show ((0 : Nat) : Int) = 0 from rfl] at h
  have HC := Lib.hid h
  clear h H hs hB ra rb aa ab hn hf
  generalize wrap64 ((sh f ta 0 tb 0 : Nat) : Int) = r at *
  generalize pt ta.ptr = p at *
  generalize pt tb.ptr = q at *
  go_enter Tryz.func17, Tryz.ntmps17
  go_wp2_with fail
  refine HC.out.mono ?_; rintro e w1 ⟨rfl, hb1⟩
  have HB := Lib.hid hb1
  clear hb1
  go_wp2_with fail
  go_ret
  exact ⟨rfl, HB.out⟩
end
end Go.Proofs.YtbihlmkjoplkoaaGreatDoor
/-
  Quiet operations of a region that draws its order, over any class of worlds.
-/
namespace Go.Proofs.YtbihlmkjoplkoaaGreatDoor
open Go.RowKit
set_option linter.unusedVariables false

section
variable {P : Program} {ops : Array Oper} {C : World → Prop} {o : Oper} {a : Act} {K : Act → Prop}

theorem quiet_load (hw : Region.wanted o (yielded ops a.tmps) = true) (ty : TypeId) (x : Operand) (ho : o.op = .load ty x) (p : Addr) (hx : a.eval x = .pointer (some p)) (v : Value)
    (hL : ∀ W, C W → (loadVar ty p).run P W = .ok v W)
    (h : K (a.put o.dst v)) : if Region.wanted o (yielded ops a.tmps) = true then o.quiet P a C K else K (a.put o.dst undef) := by
  rw [if_pos hw]
  refine ⟨v, fun W hW => ?_, h⟩
  unfold Oper.quietAt execOp
  simp only [ho, hx, Instr.loadAt, Instr.sureAddr, Sem.run_bind, Sem.run_pure, Result.andThen_ok, hL W hW]
  exact ⟨rfl, rfl⟩

theorem quiet_pure (hw : Region.wanted o (yielded ops a.tmps) = true) (v : Value) (hP : ∀ W, (execOp a.eval o).run P W = .ok (.value v) W)
    (h : K (a.put o.dst v)) : if Region.wanted o (yielded ops a.tmps) = true then o.quiet P a C K else K (a.put o.dst undef) := by
  rw [if_pos hw]
  refine ⟨v, fun W hW => ?_, h⟩
  unfold Oper.quietAt
  rw [hP W]
  exact ⟨rfl, rfl⟩

theorem quiet_skip (hw : Region.wanted o (yielded ops a.tmps) = false) (h : K (a.put o.dst undef)) : if Region.wanted o (yielded ops a.tmps) = true then o.quiet P a C K else K (a.put o.dst undef) := by
  rw [if_neg (by rw [hw]; simp)]
  exact h

theorem quiet_call (hw : Region.wanted o (yielded ops a.tmps) = true) (f : FuncId) (args : Array Value) (hE : ∀ W, (execOp a.eval o).run P W = .ok (.enter f args) W) (v : Value)
    (hC : ∀ W, C W → Calls P f args W fun e w' => e = .returned v ∧ C w') (h : K (a.put o.dst v)) : if Region.wanted o (yielded ops a.tmps) = true then o.quiet P a C K else K (a.put o.dst undef) := by
  rw [if_pos hw]
  refine ⟨v, fun W hW => ?_, h⟩
  unfold Oper.quietAt
  rw [hE W]
  exact ⟨rfl, hC W hW⟩

theorem quiet_len (hw : Region.wanted o (yielded ops a.tmps) = true) (m : Operand) (t : TypeId) (ho : o.op = Op.call { callee := Callee.builtin Builtin.len, args := #[m], argTypes := #[t] }) (mv v : Value) (hm : a.eval m = mv)
    (hL : ∀ W ty, C W → (Builtin.len_ #[t] ty #[mv]).run P W = .ok v W)
    (h : K (a.put o.dst v)) : if Region.wanted o (yielded ops a.tmps) = true then o.quiet P a C K else K (a.put o.dst undef) := by
  rw [if_pos hw]
  refine ⟨v, fun W hW => ?_, h⟩
  unfold Oper.quietAt
  simp [execOp, ho, resolve, invoke, builtin, hm, hL W _ hW, Result.andThen]
  exact ⟨rfl, rfl⟩

theorem loadVar_cell {ty : TypeId} {p : Addr} {v : Value} {W : World} (hA : (isAgg ty).run P W = .ok false W) (hC : W.cell? p = some v) : (loadVar ty p).run P W = .ok v W := by
  simp [loadVar, Sem.run_bind, hA]
  rw [hC]
end

theorem region_quiet {P : Program} {C : World → Prop} {id : Nat} {Q : Exit → Act → World → Prop} {a : Act} {w : World} {l : List Oper} (hm : P.follows .mixedOrders = true) (hB : Region.lexB .any l.toArray = true) (hC : C w.drew)
    (h : wpQuiet P l.toArray C (fun a' => ∀ w', C w' → Q .normal a' w') l a) : (Code.region id l.toArray true).wp P Q a w :=
  wp_region_quiet (C := C) hm hB hC (by simpa using h)

theorem loadVar109 {W : World} {g : Nat} {cs : Array Value} (hg : W.heap[g]? = some (.cells cs 109 (0, 0))) (hs : cs.size = 2) : (loadVar 109 ⟨g, 0, none⟩).run Tryz.prog W = .ok (.agg cs) W :=
  run_loadVar_row W g 109 109 cs (0, 0) _ hg Tryz.underlying109 rfl (by rw [hs]; exact size109)
theorem Gw.cell {a b : World} (h : Gw a b) {p : Addr} {v : Value} (hc : a.cell? p = some v) : b.cell? p = some v := by
  rw [Below.cell h (block_lt_of_cell hc)]; exact hc

end Go.Proofs.YtbihlmkjoplkoaaGreatDoor
