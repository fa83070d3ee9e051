/-
  The board: Drop.
-/
import Derived.Test.YthohpeinmkdfeaaWide5
import Derived.Deep.RegionLaw
namespace Go.Proofs.Ythohpeinmkdfeaa
open Go.RowKit
set_option linter.unusedVariables false

set_option maxHeartbeats 400000 in
theorem drop13_no (g room n b : Nat) (A : Nat → Nat) (vx vf : Value) (w : World) (h : Bc w g room n A vx vf) (h0 : 0 < room) (hb : b < 256) (ha : A b = 0) :
    Calls Try.prog 13 #[.pointer (some ⟨g, 0, none⟩), .int .u8 b] w fun e w' => e = .returned (.int .i64 6) ∧ w' = w := by
  have H := Lib.hid (ok52 g room w h.vRoom.cell h0)
  have g1 := (h.at b hb).cell
  rw [ha] at g1
  have b0 : (0 : Int) ≤ (b : Int) := by omega
  have b1 : (b : Int) < 256 := by omega
  have hnot : ∀ (x : Bool) (w : World), (Op.unary .not (.bool x)).run Try.prog w = .ok (.bool (!x)) w := fun _ _ => rfl
  clear h ha
  go_enter Try.func13, Try.ntmps13
  go_wp2_with fail
  refine H.out.mono ?_; rintro e w' ⟨rfl, rfl⟩
  go_wp2_with fail
  go_ret
  exact ⟨rfl, rfl⟩

theorem drop13_nobd (v : Value) (b : Int) (w : World) (h : NoBd w v) : Calls Try.prog 13 #[v, .int .u8 b] w fun e w' => e = .returned (.int .i64 2) ∧ w' = w := by
  have H := Lib.hid (ok52_no v w h)
  have hnot : ∀ (x : Bool) (w : World), (Op.unary .not (.bool x)).run Try.prog w = .ok (.bool (!x)) w := fun _ _ => rfl
  clear h
  go_enter Try.func13, Try.ntmps13
  go_wp2_with fail
  refine H.out.mono ?_; rintro e w' ⟨rfl, rfl⟩
  go_wp2_with fail
  go_ret
  exact ⟨rfl, rfl⟩

theorem set14_nobd (v : Value) (b x : Int) (w : World) (h : NoBd w v) : Calls Try.prog 14 #[v, .int .u8 b, .int .i64 x] w fun e w' => e = .returned (.int .i64 2) ∧ w' = w := by
  have H := Lib.hid (ok52_no v w h)
  have hnot : ∀ (x : Bool) (w : World), (Op.unary .not (.bool x)).run Try.prog w = .ok (.bool (!x)) w := fun _ _ => rfl
  clear h
  go_enter Try.func14, Try.ntmps14
  go_wp2_with fail
  refine H.out.mono ?_; rintro e w' ⟨rfl, rfl⟩
  go_wp2_with fail
  go_ret
  exact ⟨rfl, rfl⟩

theorem app_keep {w1 W w2 : World} {o : Obj} {row : Option Nat} {g : Nat} (hW : W.heap = (w1.alloc o).heap) (hgrow : W.grownBy w2 row) (hg : g < w1.heap.size) (hr : ∀ k, row = some k → k ≠ g) : w2.heap[g]? = w1.heap[g]? := by
  have hlt : g < W.heap.size := by rw [hW, World.size_alloc]; omega
  rw [hgrow.block g hlt (fun e => hr g e.symm rfl), hW, Below.heap_alloc _ _ _ hg]

theorem app_exc {w1 W w2 : World} {o : Obj} {row : Option Nat} {S : List Nat} (hW : W.heap = (w1.alloc o).heap) (ho : W.os = w1.os) (ht : W.tape = w1.tape) (hp : W.output = w1.output) (hgrow : W.grownBy w2 row) (hr : ∀ k, row = some k → k ∈ S) : Exc S w1 w2 :=
  ⟨hgrow.os.trans ho, hgrow.tape.trans ht, hgrow.output.trans hp, by have := hgrow.size; rw [hW, World.size_alloc] at this; omega, fun k hk hS => app_keep hW hgrow hk (fun i hi e => hS (by rw [← e]; exact hr i hi))⟩

/-- behind the append to the free places -/
structure App16 (w1 w2 : World) (base g fl : Nat) (xs : List Value) (pf : Option Addr) (bf cap : Nat) : Prop where
  own : w2.ownsRow base 38 1 (.slice (some ⟨bf, 0, none⟩) (fl + 1) cap) (fl + 1) xs
  exc : ∀ S : List Nat, (∀ a, pf = some a → a.block ∈ S) → Exc S w1 w2
  same : w2.heap[g]? = w1.heap[g]?
  new : pf = some ⟨bf, 0, none⟩ ∨ w1.heap.size ≤ bf

theorem step_app16 {W w1 : World} {ops : Array Oper} {o : Oper} {a : Act} {K : Act → World → Prop} {Q : Exit → Act → World → Prop} {E : Prop} (hgd : o.guard = none) (s x : Operand)
    (ho : o.op = .call { callee := .builtin .append, args := #[s, x], argTypes := #[81, 81] }) (v : Int)
    (hW : W.heap = (w1.alloc (.cells #[.int .u16 v] 38)).heap) (hos : W.os = w1.os) (htp : W.tape = w1.tape) (hout : W.output = w1.output)
    (base g fl cf : Nat) (pf : Option Addr) (xs : List Value) (hs : a.eval s = .slice pf fl cf) (hx : a.eval x = .slice (some ⟨w1.heap.size, 0, none⟩) 1 1)
    (hown : w1.ownsRow base 38 1 (.slice pf fl cf) fl xs) (hfl : fl ≤ 65535) (hbase : base ≤ w1.heap.size) (hg : g < w1.heap.size) (hpf : ∀ a, pf = some a → a.block ≠ g) (vx : Value)
    (c1 : w1.cell? ⟨g, 259, none⟩ = some vx) (c2 : w1.frozen? ⟨g, 259, none⟩ = false)
    (h : ∀ bf cap w2, App16 w1 w2 base g fl (xs ++ [.int .u16 v]) pf bf cap → w2.cell? ⟨g, 259, none⟩ = some vx → w2.frozen? ⟨g, 259, none⟩ = false → K (a.put o.dst (.slice (some ⟨bf, 0, none⟩) (fl + 1) cap)) w2) :
    if Region.wanted o (yielded ops a.tmps) = true then Oper.wp Try.prog o a W K Q else E := by
  obtain ⟨i0, hi, hz0, hz1, hz2⟩ := info_parts info38
  have hsz : W.heap.size = w1.heap.size + 1 := by rw [hW, World.size_alloc]
  have hownW : W.ownsRow base 38 1 (.slice pf fl cf) fl xs := own_block hown fun k hk => by
    rw [hW, Below.heap_alloc _ _ _ (own_lt hown k hk).2]
  refine step_append_lies W hgd s x 81 ho base 38 i0 (.int .u16 0) 1 2 Try.underlying81 hi hz0 hz1 hz2 rfl (by decide) _ fl _ hs hownW ⟨w1.heap.size, 0, none⟩ 1 1 [.int .u16 v] hx rfl
    (World.news_of_block (by rw [hW]; exact heap_alloc_new w1 _)) (by intro z hz; rcases List.mem_cons.1 hz with rfl | hz; rfl; cases hz) (by decide) (by unfold maxLen; omega) (by omega) (by omega) _ rfl ?_
  intro bf cap w2 hown2 hgrow hnew _
  have hrow : ∀ k, (Value.slice pf fl cf).ownBlock = some k → k ≠ g := fun k hk => by
    cases hq : pf with
    | none => rw [hq] at hk; cases hk
    | some a =>
      rw [hq] at hk
      have : a.block = k := by simpa [Value.ownBlock] using hk
      rw [← this]; exact hpf a hq
  have hk2 := app_keep hW hgrow hg hrow
  refine h bf cap w2 ⟨hown2, fun S hS => app_exc hW hos htp hout hgrow (fun k hk => ?_), hk2, ?_⟩ ?_ ?_
  · cases hq : pf with
    | none => rw [hq] at hk; cases hk
    | some a =>
      rw [hq] at hk
      have : a.block = k := by simpa [Value.ownBlock] using hk
      rw [← this]; exact hS a hq
  · rcases hnew with e | e
    · left
      rcases hown.2 with ⟨e1, _⟩ | ⟨g', cap', cur, e1, _⟩
      · rw [e1] at e; cases e
      · cases e1
        have : g' = bf := by simpa [Value.ownBlock] using e
        rw [this]
    · right; omega
  · rw [World.cell?_of_block (w := w1) hk2]; exact c1
  · rw [World.frozen?_of_block (w := w1) hk2]; exact c2

set_option maxHeartbeats 1600000 in
theorem drop13_yes (base g room n b j m c bx fl cf : Nat) (y : Value) (A : Nat → Nat) (F : List Nat) (pf : Option Addr) (w : World) (h : Bc w g room n A (.slice (some ⟨bx, 0, none⟩) m c) (.slice pf fl cf)) (h0 : 0 < room) (hb : b < 256) (ha : A b = j + 1) (hj : j < m) (hm : m ≤ 256) (hn : 0 < n) (hn2 : n ≤ 256)
    (hy : Var w bx j y) (hg : bx ≠ g) (hfl : fl ≤ 65535) (hfl2 : F.length = fl)
    (ownF : w.ownsRow base 38 1 (.slice pf fl cf) fl (F.map fun i : Nat => Value.int .u16 (i : Int))) (hpx : ∀ a, pf = some a → a.block ≠ bx) (hpf : ∀ a, pf = some a → a.block ≠ g) (hbase : base ≤ w.heap.size) :
    Calls Try.prog 13 #[.pointer (some ⟨g, 0, none⟩), .int .u8 b] w fun e w' => e = .returned (.int .i64 0) ∧
      ∃ w1 w2 bf cap, w1 = (w.setCell ⟨bx, j, none⟩ (.int .i64 0)).drewN 1 ∧ App16 w1 w2 base g fl ((F.map fun i : Nat => Value.int .u16 (i : Int)) ++ [.int .u16 ((j : Int) + 1)]) pf bf cap ∧
        w' = (((w2.setCell ⟨g, 259, none⟩ (.slice (some ⟨bf, 0, none⟩) (fl + 1) cap)).setCell ⟨g, 2 + b, none⟩ (.int .u16 0)).setCell ⟨g, 1, none⟩ (.int .i64 ((n : Int) - 1))) := by
  have H := Lib.hid (ok52 g room w h.vRoom.cell h0)
  have q8 : IntKind.i64.wrap ((n : Int) - 1) = (n : Int) - 1 := IntWalk.i64_in _ (by omega)
  have HBC := Lib.hid h
  have g1 := (h.at b hb).cell
  rw [ha] at g1
  have g1' : w.cell? ⟨g, 2 + b, none⟩ = some (.int .u16 ((j : Int) + 1)) := by rw [g1]; norm_cast
  have g2 := h.x.cell
  have y1 := hy.cell
  have y2 := hy.free
  have b0 : (0 : Int) ≤ (b : Int) := by omega
  have b1 : (b : Int) < 256 := by omega
  have d1 : (((j : Int) + 1) == 0) = false := by simp; omega
  have q0 : IntKind.u16.wrap (j : Int) = (j : Int) := IntWalk.u16_in _ (by omega)
  have j0 : (0 : Int) ≤ (j : Int) := by omega
  have j1 : (j : Int) < (m : Int) := by omega
  have hnot : ∀ (x : Bool) (w : World), (Op.unary .not (.bool x)).run Try.prog w = .ok (.bool (!x)) w := fun _ _ => rfl
  have hgb : ¬ g = bx := fun e => hg e.symm
  clear h ha g1
  go_enter Try.func13, Try.ntmps13
  go_wp2_with fail
  refine H.out.mono ?_; rintro e w' ⟨rfl, rfl⟩
  go_wp2_with fail
  go_region_held3 (fun W => W.cell? ⟨g, 258, none⟩ = some (.slice (some ⟨bx, 0, none⟩) m c) ∧ W.cell? ⟨g, 2 + b, none⟩ = some (.int .u16 ((j : Int) + 1))) (first | go_keep | exact ⟨set_keep g2 hgb, set_keep g1' hgb⟩) (fail)
  all_goals
    go_wp2_with fail
    obtain ⟨w1, hw1⟩ : ∃ w1, w1 = (w'.setCell ⟨bx, j, none⟩ (.int .i64 0)).drew := ⟨_, rfl⟩
    rw [← hw1]
    have hb1 : Bc w1 g room n A (.slice (some ⟨bx, 0, none⟩) m c) (.slice pf fl cf) := by
      rw [hw1]; exact Bc.same HBC.out (heap_setCell_other _ _ _ _ hgb)
    have oF1 : w1.ownsRow base 38 1 (.slice pf fl cf) fl (F.map fun i : Nat => Value.int .u16 (i : Int)) := by
      rw [hw1]
      refine own_set ownF (fun e => ?_)
      cases hpf : pf with
      | none => rw [hpf] at e; cases e
      | some a => rw [hpf] at e; exact hpx a hpf (by simpa [Value.ownBlock] using e)
    have hs1 : base ≤ w1.heap.size := by rw [hw1]; simpa using hbase
    have c1 : w1.cell? ⟨g, 259, none⟩ = some (.slice pf fl cf) := hb1.f.cell
    have c2 : w1.frozen? ⟨g, 259, none⟩ = false := hb1.f.free
    have c3 : w1.cell? ⟨g, 2 + b, none⟩ = some (.int .u16 ((j : Int) + 1)) := by
      rw [hw1]; exact set_keep g1' hgb
    have hgl : g < w1.heap.size := hb1.vN.lt
    have HW1 := Lib.hid hw1
    have HB1 := Lib.hid hb1
    have OF1 := Lib.hid oF1
    clear hw1 hb1 oF1 g1' g2 y1 y2
    go_region_law (refine step_app16 (w1 := w1) (by rfl) _ _ (by rfl) ((j : Int) + 1) (by rfl) (by rfl) (by rfl) (by rfl) base g fl cf pf _ (by rfl) (by rfl) OF1.out hfl hs1 hgl hpf _ c1 c2 ?_; intro bf cap w2 happ e1 e2)
    all_goals
      obtain ⟨w3, hw3⟩ : ∃ w3, w3 = w2.setCell ⟨g, 259, none⟩ (.slice (some ⟨bf, 0, none⟩) (fl + 1) cap) := ⟨_, rfl⟩
      rw [← hw3]
      have h3 : Bc w3 g room n A (.slice (some ⟨bx, 0, none⟩) m c) (.slice (some ⟨bf, 0, none⟩) (fl + 1) cap) := by
        rw [hw3]; exact (Bc.same HB1.out happ.same).setF _
      have k1 := (h3.at b hb).cell
      have k2 := (h3.at b hb).free
      have k3 := h3.vN.cell
      have k4 := h3.vN.free
      have HW3 := Lib.hid hw3
      have HA := Lib.hid happ
      clear hw3 h3 happ e1 e2 c1 c2 c3
      go_wp2_with fail
      go_ret
      refine ⟨rfl, w1, w2, bf, cap, HW1.out, HA.out, ?_⟩
      rw [← HW3.out]

end Go.Proofs.Ythohpeinmkdfeaa
