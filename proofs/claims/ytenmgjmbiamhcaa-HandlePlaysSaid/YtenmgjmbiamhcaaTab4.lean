/-
  The table: New, Add.
-/
import Derived.Test.YtenmgjmbiamhcaaTab3
namespace Go.Proofs.Ytenmgjmbiamhcaa
open Go.RowKit
set_option linter.unusedVariables false

theorem new6_low (room : Int) (w : World) (h : room < 1) : Calls Try.prog 6 #[.int .i64 room] w fun e w' => e = .returned (.tuple #[.pointer none, .int .i64 1]) ∧ w' = w := by
  have d1 : decide (room < 1) = true := by simp; omega
  clear h
  go_enter Try.func6, Try.ntmps6
  go_wp2_with fail
  go_ret2
  exact ⟨rfl, rfl⟩
theorem new6_high (room : Int) (w : World) (h1 : ¬ room < 1) (h : 1024 < room) : Calls Try.prog 6 #[.int .i64 room] w fun e w' => e = .returned (.tuple #[.pointer none, .int .i64 1]) ∧ w' = w := by
  have d1 : decide (room < 1) = false := by simp; omega
  have d2 : decide (1024 < room) = true := by simp; omega
  clear h
  go_enter Try.func6, Try.ntmps6
  go_wp2_with fail
  go_ret2
  exact ⟨rfl, rfl⟩

theorem Tb.fresh (w : World) (room : Nat) (h : 1 ≤ room ∧ room ≤ 1024) :
    Tb ((w.alloc (.map #[] 0)).alloc (.cells #[.int .i64 room, .int .i64 0, .map (some w.heap.size)] 51)) (w.heap.size + 1) w.heap.size room 0 (.map []) (fun _ => none) 0 := by
  have s1 : (w.alloc (.map #[] 0)).heap.size = w.heap.size + 1 := World.size_alloc _ _
  refine ⟨?_, ⟨(World.ownsMap_made w Try.prog 3 entE).alloc _, rfl, fun k => rfl, fun k x z hk => by cases hk⟩, by omega, h.1, h.2, by omega, fun k hk => by cases hk⟩
  have := heap_alloc_new (w.alloc (.map #[] 0)) (.cells #[.int .i64 room, .int .i64 0, .map (some w.heap.size)] 51)
  rw [s1] at this
  exact this

set_option maxHeartbeats 800000 in
theorem new6_yes (room : Nat) (w : World) (h : 1 ≤ room ∧ room ≤ 1024) : Calls Try.prog 6 #[.int .i64 room] w fun e w' => e = .returned (.tuple #[.pointer (some ⟨w.heap.size + 1, 0, none⟩), .int .i64 0]) ∧
    Tb w' (w.heap.size + 1) w.heap.size room 0 (.map []) (fun _ => none) 0 ∧ Below w.heap.size w w' := by
  have d1 : decide ((room : Int) < 1) = false := by simp; omega
  have d2 : decide (1024 < (room : Int)) = false := by simp; omega
  have HT := Lib.hid (Tb.fresh w room h)
  have HB : Hid (Below w.heap.size w ((w.alloc (.map #[] 0)).alloc (.cells #[.int .i64 room, .int .i64 0, .map (some w.heap.size)] 51))) := ((Below.refl _ _).alloc (Nat.le_refl _) _).alloc (by rw [World.size_alloc]; omega) _
  have hmm := @run_makeMap Try.prog
  clear h
  go_enter Try.func6, Try.ntmps6
  go_wp2_with fail
  go_ret2
  exact ⟨rfl, HT.out, HB.out⟩

theorem add13_full {w : World} {g bm room last : Nat} {D : DataW Unit} {f : Int → Option Int} (h : Tb w g bm room last D f room) (x : Int) :
    Calls Try.prog 13 #[.pointer (some ⟨g, 0, none⟩), .int .i64 x] w fun e w' => e = .returned (.tuple #[.int .i64 0, .int .i64 10]) ∧ ∃ z, w' = w.drewN z := by
  have H := Lib.hid (ok23 g room w h.c0 (by have := h.room1; omega))
  have HF := Lib.hid (free19 h)
  have hnot : ∀ (x : Bool) (w : World), (Op.unary .not (.bool x)).run Try.prog w = .ok (.bool (!x)) w := fun _ _ => rfl
  have d0 : ((room : Int) - (room : Int) == 0) = true := by simp
  clear h
  go_enter Try.func13, Try.ntmps13
  go_wp2_with fail
  refine H.out.mono ?_; rintro e w' ⟨rfl, hw'⟩
  rw [hw']; clear hw' w'
  go_wp2_with fail
  refine HF.out.mono ?_; rintro e w' ⟨rfl, z, hw'⟩
  have HZ : Hid (∃ z, w' = w.drewN z) := ⟨z, hw'⟩
  clear hw'
  go_wp2_with fail
  go_ret2
  exact ⟨rfl, HZ.out⟩

set_option maxHeartbeats 1600000 in
theorem add13_yes {w : World} {g bm room last n : Nat} {D : DataW Unit} {f : Int → Option Int} (h : Tb w g bm room last D f n) (x : Int) (hn : n < room) (hl : last < 9223372036854775807) :
    Calls Try.prog 13 #[.pointer (some ⟨g, 0, none⟩), .int .i64 x] w fun e w' => e = .returned (.tuple #[.int .i64 ((last : Int) + 1), .int .i64 0]) ∧
      (∃ D', Tb w' g bm room (last + 1) D' (updI f ((last : Int) + 1) (some x)) (n + 1)) ∧ Exc [g, bm] w w' := by
  have H := Lib.hid (ok23 g room w h.c0 (by have := h.room1; omega))
  have HF := Lib.hid (free19 h)
  have HT := Lib.hid h
  have hnot : ∀ (x : Bool) (w : World), (Op.unary .not (.bool x)).run Try.prog w = .ok (.bool (!x)) w := fun _ _ => rfl
  have d0 : ((room : Int) - (n : Int) == 0) = false := by simp; omega
  have q0 : IntKind.i64.wrap ((last : Int) + 1) = (last : Int) + 1 := IntWalk.i64_in _ (by omega)
  have hkw : wf64 ((last : Int) + 1) := ⟨by omega, by omega⟩
  have HKW := Lib.hid hkw
  have HK := Lib.hid (key3 hkw)
  have hfn : f ((last : Int) + 1) = none := by
    cases hf : f ((last : Int) + 1) with
    | none => rfl
    | some y => have := (h.low ((last : Int) + 1) (by rw [hf]; rfl)).2; omega
  have HFN := Lib.hid hfn
  have r2 := h.room2
  clear h hkw hfn
  go_enter Try.func13, Try.ntmps13
  go_wp2_with fail
  refine H.out.mono ?_; rintro e w' ⟨rfl, hw'⟩
  rw [hw']; clear hw' w'
  go_wp2_with fail
  refine HF.out.mono ?_; rintro e w1 ⟨rfl, z, hw1⟩
  have HT1 : Hid (Tb w1 g bm room last D f n) := by show Tb _ _ _ _ _ _ _ _; rw [hw1]; exact HT.out.drewN z
  have HX1 : Hid (Exc [g, bm] w w1) := by show Exc _ _ _; rw [hw1]; exact (Exc.refl _ _).drewN z
  clear hw1 HF H HT
  have c1 := HT1.out.c1
  have z1 := HT1.out.z 1
  go_wp2_with fail
  obtain ⟨w2, hw2⟩ : ∃ w2, w2 = w1.setCell ⟨g, 1, none⟩ (.int .i64 ((last : Int) + 1)) := ⟨_, rfl⟩
  rw [← hw2]
  have hrow2 : w2.heap[g]? = some (.cells #[.int .i64 room, .int .i64 ((last : Int) + 1), .map (some bm)] 51 (0, 0)) := by
    rw [hw2, heap_setCell_same w1 g 1 _ 51 _ HT1.out.row]; rfl
  have hmap2 : Mp w2 bm D f n := HT1.out.map.same (by rw [hw2]; exact heap_setCell_other _ _ _ _ HT1.out.ne)
  have HX2 : Hid (Exc [g, bm] w w2) := by show Exc _ _ _; rw [hw2]; exact HX1.out.set (p := ⟨g, 1, none⟩) (by simp) _
  obtain ⟨w3, hrun, ho3, ht3⟩ := (hmap2.same (w' := w2.drew) rfl).own.store keyed3 Try.underlying49 (by have := HT1.out.room2; unfold maxLen; omega) (val := .agg #[.int .i64 x]) HK.out rfl
  have hm3 := hmap2.put ((last : Int) + 1) x HKW.out ho3
  rw [HFN.out] at hm3
  simp only [Option.isSome, Bool.false_eq_true, if_false] at hm3
  have hne := HT1.out.ne
  have hgl : g < w2.heap.size := (Array.getElem?_eq_some_iff.1 hrow2).1
  have hrow3 : w3.heap[g]? = some (.cells #[.int .i64 room, .int .i64 ((last : Int) + 1), .map (some bm)] 51 (0, 0)) := ((exc_turned ht3).block g hgl (fun hm => hne (by simp at hm; exact hm.symm))).trans hrow2
  have HT3 : Hid (Tb w3 g bm room (last + 1) (D.put (.int .i64 ((last : Int) + 1)) (.lit (.int .i64 x))) (updI f ((last : Int) + 1) (some x)) (n + 1)) := by
    refine ⟨hrow3, hm3, hne, HT1.out.room1, HT1.out.room2, by omega, fun j hj => ?_⟩
    unfold updI at hj
    by_cases e : j = (last : Int) + 1
    · omega
    · rw [if_neg e] at hj; have := HT1.out.low j hj; omega
  have HX3 : Hid (Exc [g, bm] w w3) := HX2.out.trans (Exc.wide (a := w2) (b := w3) (by have k := exc_turned ht3; exact ⟨k.os, k.tape, k.output, k.size, k.block⟩) (fun x hx => by simp at hx; subst hx; simp))
  have c1' : w2.cell? ⟨g, 1, none⟩ = some (.int .i64 ((last : Int) + 1)) := by rw [cell_of_row _ _ _ _ _ _ hrow2]; rfl
  have c2' : w2.cell? ⟨g, 2, none⟩ = some (.map (some bm)) := by rw [cell_of_row _ _ _ _ _ _ hrow2]; rfl
  have c1'' : w3.cell? ⟨g, 1, none⟩ = some (.int .i64 ((last : Int) + 1)) := by rw [cell_of_row _ _ _ _ _ _ hrow3]; rfl
  have c2'' : w3.cell? ⟨g, 2, none⟩ = some (.map (some bm)) := by rw [cell_of_row _ _ _ _ _ _ hrow3]; rfl
  clear hrow2 hrow3 hmap2 hm3 ho3 ht3 hw2 c1 z1 hgl
  go_wp2_with fail
  go_region_held3 (fun W => W.cell? ⟨g, 1, none⟩ = some (.int .i64 ((last : Int) + 1)) ∧ W.cell? ⟨g, 2, none⟩ = some (.map (some bm)))
    (first
      | (go_keep; done)
      | exact ⟨c1'', c2''⟩
      | exact ⟨c1', c2'⟩)
    (fail)
  go_wp2_with fail
  go_ret2
  exact ⟨rfl, ⟨_, HT3.out⟩, HX3.out⟩

end Go.Proofs.Ytenmgjmbiamhcaa
