/-
  The document's row by value: what is held by each byte; Len, Next, Prev of it.
-/
import Derived.Test.YthohpeinmkdfeaaSteps
import Derived.Laws.ResultCell
namespace Go.Proofs.Ythohpeinmkdfeaa
open Go.RowKit
set_option linter.unusedVariables false

/-- the cells of the document's row -/
structure Rf (cs : Array Value) (room : Int) (f : Nat → Option Int) : Prop where
  size : cs.size = 513
  room : cs[0]? = some (.int .i64 room)
  has : ∀ b, b < 256 → cs[1 + b]? = some (.bool (f b).isSome)
  val : ∀ b, b < 256 → cs[257 + b]? = some (.int .i64 (valO (f b)))
  one : cs.all (·.oneCell') = true

theorem cntF_H (f : Nat → Option Int) : cntF f = cntH (fun b => (f b).isSome) 256 := rfl

set_option maxRecDepth 100000 in
set_option maxHeartbeats 800000 in
theorem len61 (cs : Array Value) (room : Int) (f : Nat → Option Int) (w : World) (h : Rf cs room f) :
    Calls Try.prog 61 #[.agg cs] w fun e w' => e = .returned (.int .i64 (cntF f)) ∧ w' = w.alloc (.cells cs 72) := by
  rw [cntF_H]
  have H := Lib.hid h
  clear h
  go_enter Try.func61, Try.ntmps61
  go_wp2_with fail
  obtain ⟨W, hW⟩ : ∃ W, W = w.alloc (.cells cs 72) := ⟨_, rfl⟩
  rw [← hW]
  have HC : Hid (∀ b, b < 256 → W.cell? ⟨w.heap.size, 1 + b, none⟩ = some (.bool (f b).isSome)) := fun b hb => by
    rw [hW]; exact (Var.new rfl (H.out.has b hb)).cell
  have HW := Lib.hid hW
  clear hW H
  go_loop [3, 4] (fun u t => ∃ (b : Nat), u = .int .i64 (cntH (fun b => (f b).isSome) b) ∧ t = .int .i64 b ∧ b ≤ 256) (fun _ t => 256 - (intOf t).toNat)
  case atStart => exact ⟨0, rfl, rfl, by omega⟩
  case round =>
    obtain ⟨b, rfl, rfl, hb⟩ := hrel
    by_cases hlb : b < 256
    · have d2 : decide ((b : Int) < 256) = true := by simp; omega
      have b0 : (0 : Int) ≤ (b : Int) := by omega
      have b1 : (b : Int) < 256 := by omega
      have hc := HC.out b hlb
      have hcs := cntH_succ (fun b => (f b).isSome) b
      have hcl := cntH_le (fun b => (f b).isSome) b
      have q3 : IntKind.i64.wrap ((cntH (fun b => (f b).isSome) b : Int) + 1) = (cntH (fun b => (f b).isSome) b : Int) + 1 := IntWalk.i64_in _ (by omega)
      cases hf : f b with
      | some x =>
        rw [hf] at hc
        simp only [hf] at hcs
        have HCS := Lib.hid hcs
        clear hcs hf
        simp only [Option.isSome] at hc
        go_wp2_with fail
        go_round
        case rel => exact ⟨b + 1, by rw [HCS.out]; rfl, by go_num, by omega⟩
        case measure => simp [intOf]; omega
      | none =>
        rw [hf] at hc
        simp only [hf] at hcs
        have HCS := Lib.hid hcs
        clear hcs hf
        simp only [Option.isSome] at hc
        go_wp2_with fail
        go_round
        case rel => exact ⟨b + 1, by rw [HCS.out]; rfl, by go_num, by omega⟩
        case measure => simp [intOf]; omega
    · obtain rfl : b = 256 := by omega
      go_wp2_with fail
      go_ret
      exact ⟨rfl, HW.out⟩

set_option maxRecDepth 100000 in
set_option maxHeartbeats 800000 in
theorem next62 (cs : Array Value) (room : Int) (f : Nat → Option Int) (from' s : Int) (w : World) (h : Rf cs room f) (hs : 0 ≤ s) (hmax : max from' 0 = s) :
    Calls Try.prog 62 #[.agg cs, .int .i64 from'] w fun e w' => ∃ r, NextR f s r ∧ e = .returned (tri r) ∧ Below w.heap.size w w' := by
  have H := Lib.hid h
  clear h
  go_enter Try.func62, Try.ntmps62
  go_wp2_with fail
  all_goals
    obtain ⟨W, hW⟩ : ∃ W, W = w.alloc (.cells cs 72) := ⟨_, rfl⟩
    rw [← hW]
    have HC : Hid (∀ b, b < 256 → W.cell? ⟨w.heap.size, 1 + b, none⟩ = some (.bool (f b).isSome)) := fun b hb => by
      rw [hW]; exact (Var.new rfl (H.out.has b hb)).cell
    have HV : Hid (∀ b, b < 256 → W.cell? ⟨w.heap.size, 257 + b, none⟩ = some (.int .i64 (valO (f b)))) := fun b hb => by
      rw [hW]; exact (Var.new rfl (H.out.val b hb)).cell
    have HB : Hid (Below w.heap.size w W) := by
      show Below _ _ _; rw [hW]; exact (Below.refl _ _).alloc (Nat.le_refl _) _
    clear hW H
    go_loop [7] (fun t => ∃ (i : Int), t = .int .i64 i ∧ s ≤ i ∧ (i ≤ 256 ∨ i = s) ∧ Hid (∀ c : Nat, s ≤ c → (c : Int) < i → f c = none)) (fun t => (256 - intOf t).toNat)
    case atStart => exact ⟨s, vint (by omega), by omega, by omega, (fun c h1 h2 => by omega)⟩
    case round =>
      obtain ⟨i, rfl, hi, hi2, hno⟩ := hrel
      by_cases hlt : i < 256
      · obtain ⟨b, rfl⟩ := Int.eq_ofNat_of_zero_le (show 0 ≤ i by omega)
        have d0 : decide ((b : Int) < 256) = true := by simp; omega
        have q0 : IntKind.u8.wrap (b : Int) = (b : Int) := IntWalk.u8_in _ (by omega)
        have hb : b < 256 := by omega
        have b0 : (0 : Int) ≤ (b : Int) := by omega
        have b1 : (b : Int) < 256 := by omega
        have q1 : IntKind.i64.wrap ((b : Int) + 1) = (b : Int) + 1 := IntWalk.i64_in _ (by omega)
        have hc := HC.out b hb
        have hv := HV.out b hb
        cases hf : f b with
        | none =>
          rw [hf] at hc
          have HF := Lib.hid hf
          clear hf hv
          simp only [Option.isSome] at hc
          go_wp2_with fail
          go_round
          case rel => exact ⟨(b : Int) + 1, rfl, by omega, by omega, (fun c h1 h2 => by
            by_cases e : c = b
            · subst e; exact HF.out
            · exact hno.out c h1 (by omega))⟩
          case measure => simp [intOf]; omega
        | some x =>
          rw [hf] at hc hv
          have HF := Lib.hid hf
          clear hf
          simp only [Option.isSome, valO, Option.getD] at hc hv
          go_wp2_with fail
          go_quiet (fail)
          go_wp2_with fail
          go_ret3
          exact ⟨⟨b, x, true⟩, Or.inl ⟨b, x, hb, hi, HF.out, fun c h1 h2 => hno.out c h2 (by omega), rfl⟩, rfl, below_drewN HB.out _⟩
      · have d0 : decide (i < 256) = false := by simp; omega
        go_wp2_with fail
        go_ret3
        exact ⟨⟨0, 0, false⟩, Or.inr ⟨fun c h1 h2 => hno.out c h2 (by omega), rfl⟩, rfl, HB.out⟩

set_option maxRecDepth 100000 in
set_option maxHeartbeats 800000 in
theorem prev63 (cs : Array Value) (room : Int) (f : Nat → Option Int) (from' s : Int) (w : World) (h : Rf cs room f) (hs : s ≤ 255) (hmax : min from' 255 = s) :
    Calls Try.prog 63 #[.agg cs, .int .i64 from'] w fun e w' => ∃ r, PrevR f s r ∧ e = .returned (tri r) ∧ Below w.heap.size w w' := by
  have H := Lib.hid h
  clear h
  go_enter Try.func63, Try.ntmps63
  go_wp2_with fail
  all_goals
    obtain ⟨W, hW⟩ : ∃ W, W = w.alloc (.cells cs 72) := ⟨_, rfl⟩
    rw [← hW]
    have HC : Hid (∀ b, b < 256 → W.cell? ⟨w.heap.size, 1 + b, none⟩ = some (.bool (f b).isSome)) := fun b hb => by
      rw [hW]; exact (Var.new rfl (H.out.has b hb)).cell
    have HV : Hid (∀ b, b < 256 → W.cell? ⟨w.heap.size, 257 + b, none⟩ = some (.int .i64 (valO (f b)))) := fun b hb => by
      rw [hW]; exact (Var.new rfl (H.out.val b hb)).cell
    have HB : Hid (Below w.heap.size w W) := by
      show Below _ _ _; rw [hW]; exact (Below.refl _ _).alloc (Nat.le_refl _) _
    clear hW H
    go_loop [7] (fun t => ∃ (i : Int), t = .int .i64 i ∧ i ≤ s ∧ (-1 ≤ i ∨ i = s) ∧ Hid (∀ c : Nat, (c : Int) ≤ s → i < (c : Int) → f c = none)) (fun t => (intOf t + 1).toNat)
    case atStart => exact ⟨s, vint (by omega), by omega, by omega, (fun c h1 h2 => by omega)⟩
    case round =>
      obtain ⟨i, rfl, hi, hi2, hno⟩ := hrel
      by_cases hlt : 0 ≤ i
      · obtain ⟨b, rfl⟩ := Int.eq_ofNat_of_zero_le (show 0 ≤ i by omega)
        have d0 : decide ((0 : Int) ≤ (b : Int)) = true := by simp
        have q0 : IntKind.u8.wrap (b : Int) = (b : Int) := IntWalk.u8_in _ (by omega)
        have hb : b < 256 := by omega
        have b0 : (0 : Int) ≤ (b : Int) := by omega
        have b1 : (b : Int) < 256 := by omega
        have q1 : IntKind.i64.wrap ((b : Int) - 1) = (b : Int) - 1 := IntWalk.i64_in _ (by omega)
        have hc := HC.out b hb
        have hv := HV.out b hb
        cases hf : f b with
        | none =>
          rw [hf] at hc
          have HF := Lib.hid hf
          clear hf hv
          simp only [Option.isSome] at hc
          go_wp2_with fail
          go_round
          case rel => exact ⟨(b : Int) - 1, rfl, by omega, by omega, (fun c h1 h2 => by
            by_cases e : c = b
            · subst e; exact HF.out
            · exact hno.out c h1 (by omega))⟩
          case measure => simp [intOf]
        | some x =>
          rw [hf] at hc hv
          have HF := Lib.hid hf
          clear hf
          simp only [Option.isSome, valO, Option.getD] at hc hv
          go_wp2_with fail
          go_quiet (fail)
          go_wp2_with fail
          go_ret3
          exact ⟨⟨b, x, true⟩, Or.inl ⟨b, x, hb, hi, HF.out, fun c h1 h2 h3 => hno.out c h3 (by omega), rfl⟩, rfl, below_drewN HB.out _⟩
      · have d0 : decide (0 ≤ i) = false := by simp; omega
        go_wp2_with fail
        go_ret3
        exact ⟨⟨0, 0, false⟩, Or.inr ⟨fun c h1 h2 => hno.out c h2 (by omega), rfl⟩, rfl, HB.out⟩

theorem size72 : (Try.prog.info? 72).map (·.size) = some 513 := by kernel_rfl
theorem zeros72 : Try.zeroCells72.toList = .int .i64 0 :: (List.replicate 256 (.bool false) ++ List.replicate 256 (.int .i64 0)) := by kernel_rfl
theorem one72 : Try.zeroCells72.all (·.oneCell') = true := by kernel_rfl
theorem zsize72 : Try.zeroCells72.size = 513 := by kernel_rfl

theorem zero72_rf : Rf Try.zeroCells72 0 (fun _ => none) := by
  obtain ⟨n, hn⟩ : ∃ n, n = 256 := ⟨_, rfl⟩
  have h := zeros72
  rw [← hn] at h
  refine ⟨zsize72, ?_, fun b hb => ?_, fun b hb => ?_, one72⟩
  · rw [← Array.getElem?_toList, h]; rfl
  · rw [← Array.getElem?_toList, h, show 1 + b = b + 1 by omega, List.getElem?_cons_succ, List.getElem?_append_left (by rw [List.length_replicate]; omega), List.getElem?_replicate, if_pos (by omega)]
    rfl
  · rw [← Array.getElem?_toList, h, show 257 + b = (256 + b) + 1 by omega, List.getElem?_cons_succ, List.getElem?_append_right (by rw [List.length_replicate]; omega), List.length_replicate, List.getElem?_replicate, if_pos (by omega)]
    rfl

theorem Rf.upd {cs : Array Value} {room : Int} {f : Nat → Option Int} (h : Rf cs room f) (b : Nat) (hb : b < 256) (o : Option Int) :
    Rf ((cs.setIfInBounds (1 + b) (.bool o.isSome)).setIfInBounds (257 + b) (.int .i64 (valO o))) room (updF f b o) := by
  have hs := h.size
  refine ⟨by simp [hs], ?_, fun c hc => ?_, fun c hc => ?_, ?_⟩
  · rw [Array.getElem?_setIfInBounds_ne (by omega), Array.getElem?_setIfInBounds_ne (by omega)]; exact h.room
  · rw [Array.getElem?_setIfInBounds_ne (by omega)]
    unfold updF
    by_cases e : c = b
    · subst e; rw [if_pos rfl, Array.getElem?_setIfInBounds_self_of_lt (by omega)]
    · rw [if_neg e, Array.getElem?_setIfInBounds_ne (by omega)]; exact h.has c hc
  · unfold updF
    by_cases e : c = b
    · subst e; rw [if_pos rfl, Array.getElem?_setIfInBounds_self_of_lt (by simp; omega)]
    · rw [if_neg e, Array.getElem?_setIfInBounds_ne (by omega), Array.getElem?_setIfInBounds_ne (by omega)]; exact h.val c hc
  · rw [Array.all_eq_true_iff_forall_mem]
    intro v hv
    rcases Array.mem_or_eq_of_mem_setIfInBounds hv with hv | rfl
    · rcases Array.mem_or_eq_of_mem_setIfInBounds hv with hv | rfl
      · exact (Array.all_eq_true_iff_forall_mem.1 h.one) v hv
      · rfl
    · rfl

theorem updF_none (f : Nat → Option Int) (b : Nat) (h : f b = none) : updF f b none = f := by
  funext c
  unfold updF
  by_cases e : c = b
  · subst e; rw [if_pos rfl, h]
  · rw [if_neg e]

theorem Below.setRow {B : Nat} {w w' : World} (h : Below B w w') {g : Nat} (hg : B ≤ g) (cs : Array Value) : Below B w (w'.setRow g cs) :=
  ⟨h.os, h.tape, h.output, by rw [setRow_size]; exact h.size, fun i hi => by rw [setRow_other w' g i cs (by omega)]; exact h.block i hi⟩

theorem results_row {fn : Func} {p u : Tmp} (h : fn.results = #[.cell p 72, .tmp u]) (tmps : Array Value) (w : World) (g : Nat) (cs : Array Value) (n : Value)
    (hp : tmps.getD p undef = .pointer (some ⟨g, 0, none⟩)) (hn : tmps.getD u undef = n) (hg : w.heap[g]? = some (.cells cs 72 (0, 0))) (hs : cs.size = 513) :
    (results fn tmps).run Try.prog w = .ok (.tuple #[.agg cs, n]) w := by
  rw [results_cell_tmp h, hp, hn]
  have hl := run_loadVar_row (P := Try.prog) w g 72 72 cs (0, 0) _ hg Try.underlying72 rfl (by rw [hs]; exact size72)
  simp [asAddr, Result.andThen, hl]

/-- a row of the document, and a number -/
def OutRow (w : World) (room : Int) (f : Nat → Option Int) (n : Int) (e : Ending) (w' : World) : Prop :=
  ∃ cs', Rf cs' room f ∧ e = .returned (.tuple #[.agg cs', .int .i64 n]) ∧ Below w.heap.size w w'

theorem OutRow.ret {fn : Func} {p u : Tmp} {a : Act} {w W : World} {room n : Int} {f : Nat → Option Int} {cs : Array Value} {g : Nat} (h : fn.results = #[.cell p 72, .tmp u])
    (hp : a.tmps.getD p undef = .pointer (some ⟨g, 0, none⟩)) (hn : a.tmps.getD u undef = .int .i64 n) (hd : a.defers = []) (hg : W.heap[g]? = some (.cells cs 72 (0, 0))) (hr : Rf cs room f) (hb : Below w.heap.size w W) :
    bodyPost Try.prog fn (OutRow w room f n) .ret a W :=
  bodyPost_ret (results_row h _ _ g cs _ hp hn hg hr.size) hd ⟨cs, hr, rfl, hb⟩

set_option maxRecDepth 100000 in
set_option maxHeartbeats 800000 in
theorem drop28_no (cs : Array Value) (room : Int) (f : Nat → Option Int) (b : Nat) (w : World) (h : Rf cs room f) (hb : b < 256) (hf : (f b).isSome = false) :
    Calls Try.prog 28 #[.agg cs, .int .u8 b] w (OutRow w room (updF f b none) 6) := by
  have q0 : IntKind.i64.wrap (b : Int) = (b : Int) := IntWalk.i64_in _ (by omega)
  have b0 : (0 : Int) ≤ (b : Int) := by omega
  have b1 : (b : Int) < 256 := by omega
  obtain ⟨W, hW⟩ : ∃ W, W = (w.alloc (.cells cs 72)).alloc (.cells Try.zeroCells72 72) := ⟨_, rfl⟩
  have s1 : (w.alloc (.cells cs 72)).heap.size = w.heap.size + 1 := World.size_alloc _ _
  have g1 : W.heap[w.heap.size]? = some (.cells cs 72 (0, 0)) := by rw [hW]; exact heap_alloc2_old _ _ _
  have g2 : W.heap[w.heap.size + 1]? = some (.cells Try.zeroCells72 72 (0, 0)) := by rw [hW]; exact heap_alloc2_new _ _ _
  have hB : Below w.heap.size w W := by rw [hW]; exact ((Below.refl _ _).alloc (Nat.le_refl _) _).alloc (by omega) _
  have hi : (Try.prog.info? 72).map (·.size) = some cs.size := by rw [h.size]; exact size72
  have c1 : W.cell? ⟨w.heap.size, 1 + b, none⟩ = some (.bool (f b).isSome) := by rw [cell_of_row _ _ _ _ _ _ g1]; exact h.has b hb
  have c2 : W.cell? ⟨w.heap.size, 257 + b, none⟩ = some (.int .i64 (valO (f b))) := by rw [cell_of_row _ _ _ _ _ _ g1]; exact h.val b hb
  have z1 : W.frozen? ⟨w.heap.size, 1 + b, none⟩ = false := frozen_of_row _ _ _ _ _ g1
  have z2 : W.frozen? ⟨w.heap.size, 257 + b, none⟩ = false := frozen_of_row _ _ _ _ _ g1
  rw [hf] at c1
  have H := Lib.hid h
  have HG1 := Lib.hid g1
  have HG2 := Lib.hid g2
  have HB := Lib.hid hB
  have HI := Lib.hid hi
  have HW := Lib.hid hW
  have HF := Lib.hid hf
  clear h g1 g2 hB hi hW s1 hf
  go_enter Try.func28, Try.ntmps28
  go_wp2_with (first
    | rw [← HW.out]
    | (refine wpList_load_row rfl 72 _ (by rfl) w.heap.size (by rfl) 72 cs (0, 0) _ HG1.out Try.underlying72 rfl HI.out ?_; refine stop ?_))
  refine unhid ?_
  go_wp2_with (refine wpList_store_row rfl 72 _ _ (by rfl) (w.heap.size + 1) cs (by rfl) (by rfl) 72 Try.zeroCells72 HG2.out HI.out (zsize72.trans H.out.size.symm) H.out.one ?_; refine stop ?_)
  refine unhid ?_
  go_wp2_with fail
  refine OutRow.ret rfl rfl rfl rfl (setRow_heap _ _ _ cs _ _ HG2.out) ?_ (Below.setRow HB.out (by omega) _)
  rw [updF_none f b (by simpa using HF.out)]
  exact H.out

set_option maxRecDepth 100000 in
set_option maxHeartbeats 800000 in
theorem drop28_yes (cs : Array Value) (room : Int) (f : Nat → Option Int) (b : Nat) (w : World) (h : Rf cs room f) (hb : b < 256) (hf : (f b).isSome = true) :
    Calls Try.prog 28 #[.agg cs, .int .u8 b] w (OutRow w room (updF f b none) 0) := by
  have q0 : IntKind.i64.wrap (b : Int) = (b : Int) := IntWalk.i64_in _ (by omega)
  have b0 : (0 : Int) ≤ (b : Int) := by omega
  have b1 : (b : Int) < 256 := by omega
  obtain ⟨W, hW⟩ : ∃ W, W = (w.alloc (.cells cs 72)).alloc (.cells Try.zeroCells72 72) := ⟨_, rfl⟩
  have s1 : (w.alloc (.cells cs 72)).heap.size = w.heap.size + 1 := World.size_alloc _ _
  have g1 : W.heap[w.heap.size]? = some (.cells cs 72 (0, 0)) := by rw [hW]; exact heap_alloc2_old _ _ _
  have g2 : W.heap[w.heap.size + 1]? = some (.cells Try.zeroCells72 72 (0, 0)) := by rw [hW]; exact heap_alloc2_new _ _ _
  have hB : Below w.heap.size w W := by rw [hW]; exact ((Below.refl _ _).alloc (Nat.le_refl _) _).alloc (by omega) _
  have hi : (Try.prog.info? 72).map (·.size) = some cs.size := by rw [h.size]; exact size72
  have c1 : W.cell? ⟨w.heap.size, 1 + b, none⟩ = some (.bool (f b).isSome) := by rw [cell_of_row _ _ _ _ _ _ g1]; exact h.has b hb
  have c2 : W.cell? ⟨w.heap.size, 257 + b, none⟩ = some (.int .i64 (valO (f b))) := by rw [cell_of_row _ _ _ _ _ _ g1]; exact h.val b hb
  have z1 : W.frozen? ⟨w.heap.size, 1 + b, none⟩ = false := frozen_of_row _ _ _ _ _ g1
  have z2 : W.frozen? ⟨w.heap.size, 257 + b, none⟩ = false := frozen_of_row _ _ _ _ _ g1
  rw [hf] at c1
  have H := Lib.hid h
  have HG1 := Lib.hid g1
  have HG2 := Lib.hid g2
  have HB := Lib.hid hB
  have HI := Lib.hid hi
  have HW := Lib.hid hW
  have HF := Lib.hid hf
  clear h g1 g2 hB hi hW s1 hf
  have hs1 := heap_setCell_same W w.heap.size (1 + b) cs 72 (.bool false) HG1.out
  have hs2 := heap_setCell_same _ w.heap.size (257 + b) _ 72 (.int .i64 0) hs1
  have hs3 : ((W.setCell ⟨w.heap.size, 1 + b, none⟩ (.bool false)).setCell ⟨w.heap.size, 257 + b, none⟩ (.int .i64 0)).heap[w.heap.size + 1]? = some (.cells Try.zeroCells72 72 (0, 0)) := by
    rw [heap_setCell_other _ _ _ _ (by simp), heap_setCell_other _ _ _ _ (by simp)]; exact HG2.out
  have hb3 := (HB.out.setCell (p := ⟨w.heap.size, 1 + b, none⟩) (Nat.le_refl _) (.bool false)).setCell (p := ⟨w.heap.size, 257 + b, none⟩) (Nat.le_refl _) (.int .i64 0)
  have hr := H.out.upd b hb none
  have HS2 := Lib.hid hs2
  have HS3 := Lib.hid hs3
  have HB3 := Lib.hid hb3
  have HR := Lib.hid hr
  have HI2 : Hid ((Try.prog.info? 72).map (·.size) = some ((cs.setIfInBounds (1 + b) (.bool (none : Option Int).isSome)).setIfInBounds (257 + b) (.int .i64 (valO none))).size) := by
    show (Try.prog.info? 72).map (·.size) = some _
    rw [hr.size]; exact size72
  clear hs1 hs2 hs3 hb3 hr
  go_enter Try.func28, Try.ntmps28
  go_wp2_with (first
    | rw [← HW.out]
    | (refine wpList_load_row rfl 72 _ (by rfl) w.heap.size (by rfl) 72 _ (0, 0) _ HS2.out Try.underlying72 rfl HI2.out ?_; refine stop ?_))
  refine unhid ?_
  go_wp2_with (refine wpList_store_row rfl 72 _ _ (by rfl) (w.heap.size + 1) _ (by rfl) (by rfl) 72 Try.zeroCells72 HS3.out HI2.out (zsize72.trans HR.out.size.symm) HR.out.one ?_; refine stop ?_)
  refine unhid ?_
  go_wp2_with fail
  exact OutRow.ret rfl rfl rfl rfl (setRow_heap _ _ _ _ _ _ HS3.out) HR.out (Below.setRow HB3.out (by omega) _)

end Go.Proofs.Ythohpeinmkdfeaa
