/-
  The board: the place that is given.
-/
import Derived.Test.YthohpeinmkdfeaaWideP
import Derived.Deep.AppendLies
namespace Go.Proofs.Ythohpeinmkdfeaa
open Go.RowKit
set_option linter.unusedVariables false

theorem info3 : (Try.prog.info? 3).map (fun i => (i.zero, i.size, i.bytes)) = some (some (.int .i64 0), 1, 8) := by kernel_rfl
theorem info38 : (Try.prog.info? 38).map (fun i => (i.zero, i.size, i.bytes)) = some (some (.int .u16 0), 1, 2) := by kernel_rfl
theorem info_parts {e : TypeId} {z : Value} {s b : Nat} (h : (Try.prog.info? e).map (fun i => (i.zero, i.size, i.bytes)) = some (some z, s, b)) :
    ∃ i, Try.prog.info? e = some i ∧ i.zero = some z ∧ i.size = s ∧ i.bytes = b := by
  cases hq : Try.prog.info? e with
  | none => simp [hq] at h
  | some i => simp [hq] at h; exact ⟨i, rfl, h⟩

set_option maxHeartbeats 800000 in
/-- a place that was free -/
theorem place53_free (g room n m cf j bf : Nat) (A : Nat → Nat) (vx : Value) (w : World) (h : Bc w g room n A vx (.slice (some ⟨bf, 0, none⟩) (m + 1) cf)) (hm : m ≤ 65535) (hcf : m + 1 ≤ cf)
    (hi : w.cell? ⟨bf, m, none⟩ = some (.int .u16 ((j : Int) + 1))) :
    Calls Try.prog 53 #[.pointer (some ⟨g, 0, none⟩)] w fun e w' => e = .returned (.int .u16 ((j : Int) + 1)) ∧ w' = w.setCell ⟨g, 259, none⟩ (.slice (some ⟨bf, 0, none⟩) m cf) := by
  have g1 := h.f.cell
  have z1 := h.f.free
  have d1 : decide ((0 : Int) < ((m : Int) + 1)) = true := by simp <;> omega
  have m0 : (0 : Int) ≤ (m : Int) := by omega
  have m1 : (m : Int) < ((m : Int) + 1) := by omega
  have q1 : IntKind.i64.wrap (m : Int) = (m : Int) := IntWalk.i64_in _ (by omega)
  clear h
  go_enter Try.func53, Try.ntmps53
  go_wp2
  go_ret
  exact ⟨rfl, rfl⟩

/-- behind a place that was made -/
structure Grew (w w' : World) (base g room n : Nat) (A : Nat → Nat) (X : List Int) (px : Option Addr) (vf : Value) (bx cx' : Nat) : Prop where
  blk : Bc w' g room n A (.slice (some ⟨bx, 0, none⟩) (X.length + 1) cx') vf
  own : w'.ownsRow base 3 1 (.slice (some ⟨bx, 0, none⟩) (X.length + 1) cx') (X.length + 1) ((X ++ [0]).map (Value.int .i64))
  exc : ∀ S : List Nat, g ∈ S → (∀ a, px = some a → a.block ∈ S) → Exc S w w'
  new : px = some ⟨bx, 0, none⟩ ∨ w.heap.size ≤ bx

set_option maxHeartbeats 800000 in
/-- a place that is made -/
theorem place53_grow (base g room n cx cf : Nat) (px pf : Option Addr) (A : Nat → Nat) (X : List Int) (w : World) (h : Bc w g room n A (.slice px X.length cx) (.slice pf 0 cf)) (hX : X.length ≤ 255)
    (hown : w.ownsRow base 3 1 (.slice px X.length cx) X.length (X.map (Value.int .i64))) (hap : ∀ a, px = some a → a.block ≠ g) (hbase : base ≤ w.heap.size) :
    Calls Try.prog 53 #[.pointer (some ⟨g, 0, none⟩)] w fun e w' => e = .returned (.int .u16 ((X.length : Int) + 1)) ∧ ∃ bx cx', Grew w w' base g room n A X px (.slice pf 0 cf) bx cx' := by
  have g1 := h.f.cell
  have g2 := h.x.cell
  have hgl := h.x.lt
  have H := Lib.hid h
  have HO := Lib.hid hown
  generalize hL : X.length = L at *
  have HL := Lib.hid hL
  have q1 : IntKind.u16.wrap ((L : Int) + 1) = (L : Int) + 1 := IntWalk.u16_in _ (by omega)
  clear h hown hL
  go_enter Try.func53, Try.ntmps53
  go_wp2_with (at_builtin; refine stop ?_)
  refine unhid ?_
  obtain ⟨i0, hi, hz0, hz1, hz2⟩ := info_parts info3
  refine wpList_append_lies _ rfl _ _ 80 (by rfl) base 3 i0 (.int .i64 0) 1 8 Try.underlying80 hi hz0 hz1 hz2 rfl (by decide) _ L _ (by rfl) (HO.out.alloc _) ⟨w.heap.size, 0, none⟩ 1 1 [.int .i64 0] (by rfl) (by rfl) (World.news_of_block (heap_alloc_new w _)) (by intro z hz; rcases List.mem_cons.1 hz with rfl | hz; rfl; cases hz) (by decide) (by unfold maxLen; omega) (by omega) (by rw [World.size_alloc]; omega) _ rfl ?_
  intro bx cap w2 hown2 hgrow hnew hlt2
  have hrow : ∀ k, (Value.slice px L cx).ownBlock = some k → k ≠ g := fun k hk => by
    cases px with
    | none => cases hk
    | some a =>
      have : a.block = k := by simpa [Value.ownBlock] using hk
      rw [← this]; exact hap a rfl
  have hgs : w2.heap[g]? = w.heap[g]? := by
    rw [hgrow.block g (by rw [World.size_alloc]; omega) (fun e => hrow g e.symm rfl), Below.heap_alloc _ _ _ hgl]
  have h2 := H.out.same hgs
  have c1 := h2.x.cell
  have c2 := h2.x.free
  have hbxg : bx ≠ g := by
    rcases hnew with e | e
    · exact hrow bx e
    · rw [e, World.size_alloc]; omega
  have HGR : Hid (Grew w (w2.setCell ⟨g, 258, none⟩ (.slice (some ⟨bx, 0, none⟩) (L + 1) cap)) base g room n A X px (.slice pf 0 cf) bx cap) := by
    refine ⟨?_, ?_, ?_, ?_⟩
    · rw [HL.out]; exact h2.setX _
    · rw [HL.out, List.map_append]
      exact own_set hown2 (fun e => hbxg (by simpa [Value.ownBlock] using e))
    · intro S hg hp
      have e1 : Exc S w w2 := ⟨hgrow.os, hgrow.tape, hgrow.output, by have := hgrow.size; rw [World.size_alloc] at this; omega, fun k hk hS => by
        rw [hgrow.block k (by rw [World.size_alloc]; omega) (fun e => by
          cases px with
          | none => cases e
          | some a =>
            have : k = a.block := by simpa [Value.ownBlock] using e
            exact hS (by rw [this]; exact hp a rfl)), Below.heap_alloc _ _ _ hk]⟩
      exact e1.set (p := ⟨g, 258, none⟩) hg _
    · rcases hnew with e | e
      · left
        cases px with
        | none => cases e
        | some a =>
          rcases HO.out.2 with ⟨e1, _⟩ | ⟨g', cap', cur, e1, _⟩
          · cases e1
          · cases e1
            have : g' = bx := by simpa [Value.ownBlock] using e
            rw [this]
      · right; rw [e, World.size_alloc]; omega
  clear hown2 hgrow hnew hlt2 hrow hgs h2 hbxg hi hz0 hz1 hz2
  go_wp2
  go_ret
  exact ⟨rfl, bx, cap, HGR.out⟩

end Go.Proofs.Ythohpeinmkdfeaa
