/-
  For the statement TopOwners: The board: Drop; The board as a whole: what Drop leaves; Len, Room, Used, Get, Next, Prev of a board.
-/
import Derived.Test.YtbihlmkjoplkoaaGreatDoorM04
import Derived.Deep.RegionLaw
/-
  The board: Drop.
-/
namespace Go.Proofs.YtbihlmkjoplkoaaGreatDoor
open Go.RowKit
set_option linter.unusedVariables false

set_option maxHeartbeats 400000 in
theorem drop13_no (g room n b : Nat) (A : Nat → Nat) (vx vf : Value) (w : World) (h : Bc w g room n A vx vf) (h0 : 0 < room) (hb : b < 256) (ha : A b = 0) :
    Calls Tryz.prog 168 #[.pointer (some ⟨g, 0, none⟩), .int .u8 b] w fun e w' => e = .returned (.int .i64 6) ∧ w' = w := by
  have H := Lib.hid (ok52 g room w h.vRoom.cell h0)
  have g1 := (h.at b hb).cell
  rw [ha] at g1
  have b0 : (0 : Int) ≤ (b : Int) := by omega
  have b1 : (b : Int) < 256 := by omega
  have hnot : ∀ (x : Bool) (w : World), (Op.unary .not (.bool x)).run Tryz.prog w = .ok (.bool (!x)) w := fun _ _ => rfl
  clear h ha
  go_enter Tryz.func168, Tryz.ntmps168
  go_wp2_with fail
  refine H.out.mono ?_; rintro e w' ⟨rfl, rfl⟩
  go_wp2_with fail
  go_ret
  exact ⟨rfl, rfl⟩

theorem drop13_nobd (v : Value) (b : Int) (w : World) (h : NoBd w v) : Calls Tryz.prog 168 #[v, .int .u8 b] w fun e w' => e = .returned (.int .i64 2) ∧ w' = w := by
  have H := Lib.hid (ok52_no v w h)
  have hnot : ∀ (x : Bool) (w : World), (Op.unary .not (.bool x)).run Tryz.prog w = .ok (.bool (!x)) w := fun _ _ => rfl
  clear h
  go_enter Tryz.func168, Tryz.ntmps168
  go_wp2_with fail
  refine H.out.mono ?_; rintro e w' ⟨rfl, rfl⟩
  go_wp2_with fail
  go_ret
  exact ⟨rfl, rfl⟩

theorem set14_nobd (v : Value) (b : Int) (x : Th) (w : World) (h : NoBd w v) : Calls Tryz.prog 159 #[v, .int .u8 b, .pointer x] w fun e w' => e = .returned (.int .i64 2) ∧ w' = w := by
  have H := Lib.hid (ok52_no v w h)
  have hnot : ∀ (x : Bool) (w : World), (Op.unary .not (.bool x)).run Tryz.prog w = .ok (.bool (!x)) w := fun _ _ => rfl
  clear h
  go_enter Tryz.func159, Tryz.ntmps159
  go_wp2_with fail
  refine H.out.mono ?_; rintro e w' ⟨rfl, rfl⟩
  go_wp2_with fail
  go_ret
  exact ⟨rfl, rfl⟩

theorem app_keep {w1 W w2 : World} {o : Obj} {row : Option Nat} {g : Nat} (hW : W.heap = (w1.alloc o).heap) (hgrow : W.grownBy w2 row) (hg : g < w1.heap.size) (hr : ∀ k, row = some k → k ≠ g) : w2.heap[g]? = w1.heap[g]? := by
  have hlt : g < W.heap.size := by rw [hW, World.size_alloc]; omega
  rw [hgrow.block g hlt (fun e => hr g e.symm rfl), hW, Below.heap_alloc _ _ _ hg]

theorem app_exc {w1 W w2 : World} {o : Obj} {row : Option Nat} {S : List Nat} (hW : W.heap = (w1.alloc o).heap) (ho : W.os = w1.os) (ht : W.tape = w1.tape) (hp : W.output = w1.output) (hgrow : W.grownBy w2 row) (hr : ∀ k, row = some k → k ∈ S) : Exc S w1 w2 :=
  ⟨hgrow.os.trans ho, hgrow.tape.trans ht, hgrow.output.trans hp, by have := hgrow.size; rw [hW, World.size_alloc] at this; omega, fun k hk hS => app_keep hW hgrow hk (fun i hi e => hS (by rw [← e]; exact hr i hi))⟩

/-- behind the append to the free places -/
structure App16 (w1 w2 : World) (base g fl : Nat) (xs : List Value) (pf : Option Addr) (bf cap : Nat) : Prop where
  own : w2.ownsRow base 197 1 (.slice (some ⟨bf, 0, none⟩) (fl + 1) cap) (fl + 1) xs
  exc : ∀ S : List Nat, (∀ a, pf = some a → a.block ∈ S) → Exc S w1 w2
  same : w2.heap[g]? = w1.heap[g]?
  new : pf = some ⟨bf, 0, none⟩ ∨ w1.heap.size ≤ bf

theorem step_app16 {W w1 : World} {ops : Array Oper} {o : Oper} {a : Act} {K : Act → World → Prop} {Q : Exit → Act → World → Prop} {E : Prop} (hgd : o.guard = none) (s x : Operand)
    (ho : o.op = .call { callee := .builtin .append, args := #[s, x], argTypes := #[200, 200] }) (v : Int)
    (hW : W.heap = (w1.alloc (.cells #[.int .u16 v] 197)).heap) (hos : W.os = w1.os) (htp : W.tape = w1.tape) (hout : W.output = w1.output)
    (base g fl cf : Nat) (pf : Option Addr) (xs : List Value) (hs : a.eval s = .slice pf fl cf) (hx : a.eval x = .slice (some ⟨w1.heap.size, 0, none⟩) 1 1)
    (hown : w1.ownsRow base 197 1 (.slice pf fl cf) fl xs) (hfl : fl ≤ 65535) (hbase : base ≤ w1.heap.size) (hg : g < w1.heap.size) (hpf : ∀ a, pf = some a → a.block ≠ g) (vx : Value)
    (c1 : w1.cell? ⟨g, 259, none⟩ = some vx) (c2 : w1.frozen? ⟨g, 259, none⟩ = false)
    (h : ∀ bf cap w2, App16 w1 w2 base g fl (xs ++ [.int .u16 v]) pf bf cap → w2.cell? ⟨g, 259, none⟩ = some vx → w2.frozen? ⟨g, 259, none⟩ = false → K (a.put o.dst (.slice (some ⟨bf, 0, none⟩) (fl + 1) cap)) w2) :
    if Region.wanted o (yielded ops a.tmps) = true then Oper.wp Tryz.prog o a W K Q else E := by
  obtain ⟨i0, hi, hz0, hz1, hz2⟩ := info_parts info38
  have hsz : W.heap.size = w1.heap.size + 1 := by rw [hW, World.size_alloc]
  have hownW : W.ownsRow base 197 1 (.slice pf fl cf) fl xs := own_block hown fun k hk => by
    rw [hW, Below.heap_alloc _ _ _ (own_lt hown k hk).2]
  refine step_append_lies W hgd s x 200 ho base 197 i0 (.int .u16 0) 1 2 Tryz.underlying200 hi hz0 hz1 hz2 rfl (by decide) _ fl _ hs hownW ⟨w1.heap.size, 0, none⟩ 1 1 [.int .u16 v] hx rfl
    (World.news_of_block (by rw [hW]; exact heap_alloc_new w1 _)) (by intro z hz; rcases List.mem_cons.1 hz with rfl | hz; rfl; cases hz) (by decide) (by unfold maxLen; omega) (by omega) (by omega) _ rfl ?_
  intro bf cap w2 hown2 hgrow hnew _
  have hrow : ∀ k, (Value.slice pf fl cf).ownBlock = some k → k ≠ g := fun k hk => by
    cases hq : pf with
    | none => rw [hq] at hk; cases hk
    | some a =>
      rw [hq] at hk
      have : a.block = k := by simpa [Value.ownBlock] using hk
      rw [← this]; exact hpf a hq
  have hk2 := app_keep hW hgrow hg hrow
  refine h bf cap w2 ⟨hown2, fun S hS => app_exc hW hos htp hout hgrow (fun k hk => ?_), hk2, ?_⟩ ?_ ?_
  · cases hq : pf with
    | none => rw [hq] at hk; cases hk
    | some a =>
      rw [hq] at hk
      have : a.block = k := by simpa [Value.ownBlock] using hk
      rw [← this]; exact hS a hq
  · rcases hnew with e | e
    · left
      rcases hown.2 with ⟨e1, _⟩ | ⟨g', cap', cur, e1, _⟩
      · rw [e1] at e; cases e
      · cases e1
        have : g' = bf := by simpa [Value.ownBlock] using e
        rw [this]
    · right; omega
  · rw [World.cell?_of_block (w := w1) hk2]; exact c1
  · rw [World.frozen?_of_block (w := w1) hk2]; exact c2

set_option maxHeartbeats 1600000 in
theorem drop13_yes (base g room n b j m c bx fl cf : Nat) (y : Value) (A : Nat → Nat) (F : List Nat) (pf : Option Addr) (w : World) (h : Bc w g room n A (.slice (some ⟨bx, 0, none⟩) m c) (.slice pf fl cf)) (h0 : 0 < room) (hb : b < 256) (ha : A b = j + 1) (hj : j < m) (hm : m ≤ 256) (hn : 0 < n) (hn2 : n ≤ 256)
    (hy : Var w bx j y) (hg : bx ≠ g) (hfl : fl ≤ 65535) (hfl2 : F.length = fl)
    (ownF : w.ownsRow base 197 1 (.slice pf fl cf) fl (F.map fun i : Nat => Value.int .u16 (i : Int))) (hpx : ∀ a, pf = some a → a.block ≠ bx) (hpf : ∀ a, pf = some a → a.block ≠ g) (hbase : base ≤ w.heap.size) :
    Calls Tryz.prog 168 #[.pointer (some ⟨g, 0, none⟩), .int .u8 b] w fun e w' => e = .returned (.int .i64 0) ∧
      ∃ w1 w2 bf cap, w1 = (w.setCell ⟨bx, j, none⟩ (.pointer none)).drewN 1 ∧ App16 w1 w2 base g fl ((F.map fun i : Nat => Value.int .u16 (i : Int)) ++ [.int .u16 ((j : Int) + 1)]) pf bf cap ∧
        w' = (((w2.setCell ⟨g, 259, none⟩ (.slice (some ⟨bf, 0, none⟩) (fl + 1) cap)).setCell ⟨g, 2 + b, none⟩ (.int .u16 0)).setCell ⟨g, 1, none⟩ (.int .i64 ((n : Int) - 1))) := by
  have H := Lib.hid (ok52 g room w h.vRoom.cell h0)
  have q8 : IntKind.i64.wrap ((n : Int) - 1) = (n : Int) - 1 := IntWalk.i64_in _ (by omega)
  have HBC := Lib.hid h
  have g1 := (h.at b hb).cell
  rw [ha] at g1
  have g1' : w.cell? ⟨g, 2 + b, none⟩ = some (.int .u16 ((j : Int) + 1)) := by rw [g1]; norm_cast
  have g2 := h.x.cell
  have y1 := hy.cell
  have y2 := hy.free
  have b0 : (0 : Int) ≤ (b : Int) := by omega
  have b1 : (b : Int) < 256 := by omega
  have d1 : (((j : Int) + 1) == 0) = false := by simp; omega
  have q0 : IntKind.u16.wrap (j : Int) = (j : Int) := IntWalk.u16_in _ (by omega)
  have j0 : (0 : Int) ≤ (j : Int) := by omega
  have j1 : (j : Int) < (m : Int) := by omega
  have hnot : ∀ (x : Bool) (w : World), (Op.unary .not (.bool x)).run Tryz.prog w = .ok (.bool (!x)) w := fun _ _ => rfl
  have hgb : ¬ g = bx := fun e => hg e.symm
  clear h ha g1
  go_enter Tryz.func168, Tryz.ntmps168
  go_wp2_with fail
  refine H.out.mono ?_; rintro e w' ⟨rfl, rfl⟩
  go_wp2_with fail
  go_region_held3 (fun W => W.cell? ⟨g, 258, none⟩ = some (.slice (some ⟨bx, 0, none⟩) m c) ∧ W.cell? ⟨g, 2 + b, none⟩ = some (.int .u16 ((j : Int) + 1))) (first | go_keep | exact ⟨set_keep g2 hgb, set_keep g1' hgb⟩) (fail)
  all_goals
    go_wp2_with fail
    obtain ⟨w1, hw1⟩ : ∃ w1, w1 = (w'.setCell ⟨bx, j, none⟩ (.pointer none)).drew := ⟨_, rfl⟩
    rw [← hw1]
    have hb1 : Bc w1 g room n A (.slice (some ⟨bx, 0, none⟩) m c) (.slice pf fl cf) := by
      rw [hw1]; exact Bc.same HBC.out (heap_setCell_other _ _ _ _ hgb)
    have oF1 : w1.ownsRow base 197 1 (.slice pf fl cf) fl (F.map fun i : Nat => Value.int .u16 (i : Int)) := by
      rw [hw1]
      refine own_set ownF (fun e => ?_)
      cases hpf : pf with
      | none => rw [hpf] at e; cases e
      | some a => rw [hpf] at e; exact hpx a hpf (by simpa [Value.ownBlock] using e)
    have hs1 : base ≤ w1.heap.size := by rw [hw1]; simpa using hbase
    have c1 : w1.cell? ⟨g, 259, none⟩ = some (.slice pf fl cf) := hb1.f.cell
    have c2 : w1.frozen? ⟨g, 259, none⟩ = false := hb1.f.free
    have c3 : w1.cell? ⟨g, 2 + b, none⟩ = some (.int .u16 ((j : Int) + 1)) := by
      rw [hw1]; exact set_keep g1' hgb
    have hgl : g < w1.heap.size := hb1.vN.lt
    have HW1 := Lib.hid hw1
    have HB1 := Lib.hid hb1
    have OF1 := Lib.hid oF1
    clear hw1 hb1 oF1 g1' g2 y1 y2
    go_region_law (refine step_app16 (w1 := w1) (by rfl) _ _ (by rfl) ((j : Int) + 1) (by rfl) (by rfl) (by rfl) (by rfl) base g fl cf pf _ (by rfl) (by rfl) OF1.out hfl hs1 hgl hpf _ c1 c2 ?_; intro bf cap w2 happ e1 e2)
    all_goals
      obtain ⟨w3, hw3⟩ : ∃ w3, w3 = w2.setCell ⟨g, 259, none⟩ (.slice (some ⟨bf, 0, none⟩) (fl + 1) cap) := ⟨_, rfl⟩
      rw [← hw3]
      have h3 : Bc w3 g room n A (.slice (some ⟨bx, 0, none⟩) m c) (.slice (some ⟨bf, 0, none⟩) (fl + 1) cap) := by
        rw [hw3]; exact (Bc.same HB1.out happ.same).setF _
      have k1 := (h3.at b hb).cell
      have k2 := (h3.at b hb).free
      have k3 := h3.vN.cell
      have k4 := h3.vN.free
      have HW3 := Lib.hid hw3
      have HA := Lib.hid happ
      clear hw3 h3 happ e1 e2 c1 c2 c3
      go_wp2_with fail
      go_ret
      refine ⟨rfl, w1, w2, bf, cap, HW1.out, HA.out, ?_⟩
      rw [← HW3.out]

end Go.Proofs.YtbihlmkjoplkoaaGreatDoor
/-
  The board as a whole: what Drop leaves; Len, Room, Used, Get, Next, Prev of a board.
-/
namespace Go.Proofs.YtbihlmkjoplkoaaGreatDoor
open Go.RowKit
set_option linter.unusedVariables false

/-- what Drop tells, and leaves -/
def DropR (w w' : World) (base g room : Nat) (f : Nat → Option Th) (U : Nat) (fp : List Nat) (b : Nat) (e : Ending) : Prop :=
  (f b = none ∧ e = .returned (.int .i64 6) ∧ w' = w) ∨
  (f b ≠ none ∧ e = .returned (.int .i64 0) ∧ ∃ fp', BdE w' base g room (updF f b none) U fp' ∧ Exc fp w w' ∧ (∀ k ∈ fp', k ∈ fp ∨ w.heap.size ≤ k))

theorem held_drop {A : Nat → Nat} {X : List Th} {f : Nat → Option Th} {room b j : Nat} {F : List Nat} (hf : ∀ c, c < 256 → heldA A X c = f c) (hp : Plc room A X F) (hb : b < 256) (hj : A b = j + 1) :
    ∀ c, c < 256 → heldA (upd A b 0) (X.set j none) c = updF f b none c := fun c hc => by
  unfold updF
  by_cases e : c = b
  · rw [if_pos e]
    unfold heldA
    rw [if_pos (by rw [e, upd_same])]
  · rw [if_neg e, ← hf c hc]
    unfold heldA
    rw [upd_ne _ _ _ e]
    by_cases h0 : A c = 0
    · rw [if_pos h0, if_pos h0]
    · rw [if_neg h0, if_neg h0, List.getD_eq_getElem?_getD, List.getD_eq_getElem?_getD, List.getElem?_set, if_neg (fun h => e (hp.inj1 hb hj c hc (by omega)))]

theorem dropBd {w : World} {base g room : Nat} {f : Nat → Option Th} {U : Nat} {fp : List Nat} (h : BdE w base g room f U fp) (hbase : base ≤ w.heap.size) (b : Nat) (hb : b < 256) :
    Calls Tryz.prog 168 #[.pointer (some ⟨g, 0, none⟩), .int .u8 b] w fun e w' => DropR w w' base g room f U fp b e := by
  obtain ⟨A, X, F, px, cx, pf, cf, h, hf, rfl, rfl⟩ := h
  have hmost := h.plc.most
  by_cases h0 : A b = 0
  · have hfb : f b = none := by rw [← hf b hb]; unfold heldA; rw [if_pos h0]
    exact (drop13_no g room _ b A _ _ w h.blk h.rooms.1 hb h0).mono fun e w' ⟨he, hw⟩ => Or.inl ⟨hfb, he, hw⟩
  · obtain ⟨j, hj⟩ : ∃ j, A b = j + 1 := ⟨A b - 1, by omega⟩
    have hfn : f b ≠ none := by rw [← hf b hb]; unfold heldA; rw [if_neg h0]; simp
    have hle := h.plc.le b hb
    have hcnt := cnt_drop hb h0
    have hcl := h.plc.cnt_le
    have hfl : F.length ≤ 65535 := by have := h.plc.sum; omega
    rcases h.ownX.2 with ⟨e, e2⟩ | ⟨bx, cap, cur, e, _⟩
    · omega
    cases e
    have hc := h.ownX.cellAt j (by omega)
    rw [List.getElem?_map, List.getElem?_eq_getElem (show j < X.length by omega)] at hc
    have hv : Var w bx j (.pointer (X[j]'(by omega))) := ⟨hc, h.ownX.frozenAt j⟩
    have hne : bx ≠ g := h.apX _ rfl
    refine (drop13_yes base g room (cntA A) b j X.length cx bx F.length cf _ A F pf w h.blk h.rooms.1 hb hj (by omega) hmost (by omega) hcl hv hne hfl rfl h.ownF (fun a ha e => h.apart _ _ rfl ha e.symm) h.apF hbase).mono ?_
    rintro e w' ⟨he, w1, w2, bf, cap', hw1, happ, hw⟩
    have hB1 : Bd w1 base g room A (X.set j none) F (some ⟨bx, 0, none⟩) cx pf cf := by rw [hw1]; exact (h.lay j none).drewN 1
    have hsz : w1.heap.size = w.heap.size := by rw [hw1]; simp
    have hgl := hB1.blk.vN.lt
    have hxl : bx < w1.heap.size := (own_lt hB1.ownX _ rfl).2
    have hnf : bf ≠ g := by
      rcases happ.new with e | e
      · exact h.apF _ e
      · omega
    have hxf : bx ≠ bf := by
      rcases happ.new with e | e
      · exact h.apart _ _ rfl e
      · omega
    have hP := h.plc.drop hb hj
    have oX : w2.ownsRow base 48 1 (.slice (some ⟨bx, 0, none⟩) (X.set j none).length cx) (X.set j none).length ((X.set j none).map Value.pointer) := by
      refine own_exc hB1.ownX (happ.exc (pf.toList.map (·.block)) (fun a ha => by subst ha; simp)) (fun k hk => ?_)
      have hk' : bx = k := by simpa [Value.ownBlock] using hk
      intro hm
      simp at hm
      obtain ⟨q, hq, e⟩ := hm
      exact h.apart _ _ rfl hq (by rw [e]; exact hk')
    have hlf : (F ++ [j + 1]).length = F.length + 1 := by simp
    have oF : w2.ownsRow base 197 1 (.slice (some ⟨bf, 0, none⟩) (F ++ [j + 1]).length cap') (F ++ [j + 1]).length ((F ++ [j + 1]).map fun i : Nat => Value.int .u16 (i : Int)) := by
      rw [hlf, List.map_append]
      have := happ.own
      simpa using this
    have b3 : Bc w2 g room (cntA A) A (.slice (some ⟨bx, 0, none⟩) (X.set j none).length cx) (.slice pf F.length cf) := hB1.blk.same happ.same
    have kx : (Value.slice (some ⟨bx, 0, none⟩) (X.set j none).length cx).ownBlock ≠ some g := by simpa [Value.ownBlock] using hne
    have kf : (Value.slice (some ⟨bf, 0, none⟩) (F ++ [j + 1]).length cap').ownBlock ≠ some g := by simpa [Value.ownBlock] using hnf
    have hb4 : Bd w' base g room (upd A b 0) (X.set j none) (F ++ [j + 1]) (some ⟨bx, 0, none⟩) cx (some ⟨bf, 0, none⟩) cap' := by
      rw [hw]
      refine ⟨?_, ?_, ?_, hP, h.base, h.apX, ?_, ?_, h.rooms⟩
      · have := ((b3.setF (.slice (some ⟨bf, 0, none⟩) (F.length + 1) cap')).setAt b 0 hb).setN (cntA A - 1)
        rw [show cntA (upd A b 0) = cntA A - 1 by omega, hlf]
        rw [show ((cntA A - 1 : Nat) : Int) = (cntA A : Int) - 1 by omega] at this
        exact this
      · exact own_set (a := ⟨g, 1, none⟩) (own_set (a := ⟨g, 2 + b, none⟩) (own_set (a := ⟨g, 259, none⟩) oX kx) kx) kx
      · exact own_set (a := ⟨g, 1, none⟩) (own_set (a := ⟨g, 2 + b, none⟩) (own_set (a := ⟨g, 259, none⟩) oF kf) kf) kf
      · intro a e; cases e; exact hnf
      · intro a c e1 e2; cases e1; cases e2; exact hxf
    refine Or.inr ⟨hfn, he, fpOf g (some ⟨bx, 0, none⟩) (some ⟨bf, 0, none⟩), ⟨_, _, _, _, _, _, _, hb4, held_drop hf h.plc hb hj, List.length_set, rfl⟩, ?_, ?_⟩
    · rw [hw]
      have e1 : Exc (fpOf g (some ⟨bx, 0, none⟩) pf) w w1 := by rw [hw1]; exact ((Exc.refl _ w).set (p := ⟨bx, j, none⟩) (fp_x g ⟨bx, 0, none⟩ pf) _).drewN 1
      have e2 : Exc (fpOf g (some ⟨bx, 0, none⟩) pf) w1 w2 := happ.exc _ (fun a ha => by subst ha; exact fp_f _ _ _)
      exact (((e1.trans e2).set (p := ⟨g, 259, none⟩) (fp_g _ _ _) _).set (p := ⟨g, 2 + b, none⟩) (fp_g _ _ _) _).set (p := ⟨g, 1, none⟩) (fp_g _ _ _) _
    · intro k hk
      unfold fpOf at hk ⊢
      simp at hk ⊢
      rcases hk with e | e | e
      · exact Or.inl (Or.inl e)
      · exact Or.inl (Or.inr (Or.inl e))
      · rcases happ.new with q | q
        · left; right; right; exact ⟨_, q, e.symm⟩
        · right; omega

theorem lenE {w : World} {base g room : Nat} {f : Nat → Option Th} {U : Nat} {fp : List Nat} (h : BdE w base g room f U fp) :
    Calls Tryz.prog 157 #[.pointer (some ⟨g, 0, none⟩)] w fun e w' => e = .returned (.int .i64 (cntF f)) ∧ w' = w := by
  obtain ⟨A, X, F, px, cx, pf, cf, h, hf, rfl, rfl⟩ := h
  rw [← cnt_held A X f hf]
  exact len17 g room _ A _ _ w h.blk h.rooms.1
theorem roomE {w : World} {base g room : Nat} {f : Nat → Option Th} {U : Nat} {fp : List Nat} (h : BdE w base g room f U fp) :
    Calls Tryz.prog 125 #[.pointer (some ⟨g, 0, none⟩)] w fun e w' => e = .returned (.int .i64 room) ∧ w' = w := by
  obtain ⟨A, X, F, px, cx, pf, cf, h, hf, rfl, rfl⟩ := h
  exact room34 g room w h.blk.vRoom.cell h.rooms.1
theorem getE {w : World} {base g room : Nat} {f : Nat → Option Th} {U : Nat} {fp : List Nat} (h : BdE w base g room f U fp) (b : Nat) (hb : b < 256) :
    Calls Tryz.prog 89 #[.pointer (some ⟨g, 0, none⟩), .int .u8 b] w fun e w' => e = .returned (.tuple #[.pointer (valO (f b)), .bool (f b).isSome]) ∧ ∃ z, w' = w.drewN z := by
  obtain ⟨A, X, F, px, cx, pf, cf, h, hf, rfl, rfl⟩ := h
  rw [← hf b hb]
  exact getBd h b hb
theorem BdE.drewN {w : World} {base g room : Nat} {f : Nat → Option Th} {U : Nat} {fp : List Nat} (h : BdE w base g room f U fp) (z : Nat) : BdE (w.drewN z) base g room f U fp := by
  obtain ⟨A, X, F, px, cx, pf, cf, h, hf, e1, e2⟩ := h
  exact ⟨A, X, F, px, cx, pf, cf, h.drewN z, hf, e1, e2⟩
theorem okE {w : World} {base g room : Nat} {f : Nat → Option Th} {U : Nat} {fp : List Nat} (h : BdE w base g room f U fp) :
    Calls Tryz.prog 120 #[.pointer (some ⟨g, 0, none⟩)] w fun e w' => e = .returned (.bool true) ∧ w' = w := by
  obtain ⟨A, X, F, px, cx, pf, cf, h, hf, e1, e2⟩ := h
  exact okBd h
theorem nextE {w : World} {base g room : Nat} {f : Nat → Option Th} {U : Nat} {fp : List Nat} (h : BdE w base g room f U fp) (from' : Int) :
    Calls Tryz.prog 122 #[.pointer (some ⟨g, 0, none⟩), .int .i64 from'] w fun e w' => ∃ r, NextR f (max from' 0) r ∧ e = .returned (tri r) ∧ ∃ z, w' = w.drewN z :=
  next32_loop g from' _ f w (by omega) rfl (fun z => okE (h.drewN z)) (fun b z hb => getE (h.drewN z) b hb)
end Go.Proofs.YtbihlmkjoplkoaaGreatDoor
