/-
  For the statement TopOwners: The board: New, and Copy; The board: the clones of its rows.
-/
import Derived.Test.YtbihlmkjoplkoaaGreatDoorM05
import Derived.Deep.WholeRow
import Derived.Deep.MidRow
import Derived.Lib.SliceRun
/-
  The board: New, and Copy.
-/
namespace Go.Proofs.YtbihlmkjoplkoaaGreatDoor
open Go.RowKit
set_option linter.unusedVariables false

theorem new12_no (room : Int) (w : World) (h1 : ¬ room = 48) (h2 : ¬ room = 256) : Calls Tryz.prog 155 #[.int .i64 room] w fun e w' => e = .returned (.tuple #[.pointer none, .int .i64 1]) ∧ w' = w := by
  have d1 : (room != 48) = true := by simp [h1]
  have d2 : (room != 256) = true := by simp [h2]
  go_enter Tryz.func155, Tryz.ntmps155
  go_wp2
  go_ret2
  exact ⟨rfl, rfl⟩

theorem zero83 : Tryz.zeroCells202.toList = [.int .i64 0, .int .i64 0] ++ (List.replicate 256 (.int .u16 0) ++ [.slice none 0 0, .slice none 0 0]) := by kernel_rfl

theorem zero_get (n : Nat) (hn : n = 256) (i : Nat) : Tryz.zeroCells202[i]? = ([.int .i64 0, .int .i64 0] ++ (List.replicate n (.int .u16 0) ++ [.slice none 0 0, .slice none 0 0]) : List Value)[i]? := by
  subst hn
  rw [← zero83, Array.getElem?_toList]

theorem zero_size (n : Nat) (hn : n = 256) : Tryz.zeroCells202.size = n + 4 := by
  have h := zero83
  rw [← hn] at h
  rw [← Array.length_toList, h]
  simp only [List.length_append, List.length_replicate, List.length_cons, List.length_nil]
  omega

/-- an empty board's cells -/
theorem Bc.fresh (w : World) (room : Nat) : Bc (w.alloc (.cells (Tryz.zeroCells202.setIfInBounds 0 (.int .i64 room)) 202)) w.heap.size room 0 (fun _ => 0) (.slice none 0 0) (.slice none 0 0) := by
  obtain ⟨n, hn⟩ : ∃ n, n = 256 := ⟨_, rfl⟩
  have hs := zero_size n hn
  have l2 : ([.int .i64 0, .int .i64 0] : List Value).length = 2 := rfl
  refine ⟨_, heap_alloc_new w _, by rw [Array.size_setIfInBounds]; omega, ?_, ?_, fun b hb => ?_, ?_, ?_⟩
  · rw [Array.getElem?_setIfInBounds_self_of_lt (by omega)]
  · rw [Array.getElem?_setIfInBounds_ne (by decide), zero_get n hn]; rfl
  · rw [Array.getElem?_setIfInBounds_ne (by omega), zero_get n hn, List.getElem?_append_right (by omega), List.getElem?_append_left (by rw [List.length_replicate]; omega), List.getElem?_replicate, if_pos (by omega)]
    rfl
  · rw [Array.getElem?_setIfInBounds_ne (by decide), zero_get n hn, List.getElem?_append_right (by omega), List.getElem?_append_right (by rw [List.length_replicate]; omega), List.length_replicate, l2, show 258 - 2 - n = 0 by omega]
    rfl
  · rw [Array.getElem?_setIfInBounds_ne (by decide), zero_get n hn, List.getElem?_append_right (by omega), List.getElem?_append_right (by rw [List.length_replicate]; omega), List.length_replicate, l2, show 259 - 2 - n = 1 by omega]
    rfl

theorem cnt_zero : cntA (fun _ => 0) = 0 := by unfold cntA; simp

theorem BdE.fresh (w : World) (base room : Nat) (hb : base ≤ w.heap.size) (hr : 0 < room ∧ room ≤ 256) :
    BdE (w.alloc (.cells (Tryz.zeroCells202.setIfInBounds 0 (.int .i64 room)) 202)) base w.heap.size room (fun _ => none) 0 [w.heap.size] := by
  refine ⟨fun _ => 0, [], [], none, 0, none, 0, ⟨?_, World.ownsRow_nil _ _ _ _, World.ownsRow_nil _ _ _ _, ?_, hb, by simp, by simp, by simp, hr⟩, by simp [heldA], rfl, rfl⟩
  · rw [cnt_zero]; exact Bc.fresh w room
  · exact ⟨by simp, by simp, List.nodup_nil, by simp, by rw [cnt_zero]; rfl, by simp, by rw [cnt_zero]; omega⟩

set_option maxHeartbeats 400000 in
theorem new12_yes (base : Nat) (room : Nat) (w : World) (h : room = 48 ∨ room = 256) (hb : base ≤ w.heap.size) : Calls Tryz.prog 155 #[.int .i64 room] w fun e w' => e = .returned (.tuple #[.pointer (some ⟨w.heap.size, 0, none⟩), .int .i64 0]) ∧
    BdE w' base w.heap.size room (fun _ => none) 0 [w.heap.size] ∧ Below w.heap.size w w' := by
  have H := Lib.hid (BdE.fresh w base room hb (by omega))
  have HB := Lib.hid (fun o => (Below.refl w.heap.size w).alloc (Nat.le_refl _) o)
  rcases h with rfl | rfl
  all_goals
    go_enter Tryz.func155, Tryz.ntmps155
    go_wp2
    go_ret2
    exact ⟨rfl, H.out, HB.out _⟩

end Go.Proofs.YtbihlmkjoplkoaaGreatDoor
/-
  The board: the clones of its rows.
-/
namespace Go.Proofs.YtbihlmkjoplkoaaGreatDoor
open Go.RowKit
set_option linter.unusedVariables false

theorem run_append_zero (w : World) (t ty e : TypeId) (i : TypeInfo) (ht : Tryz.prog.underlying t = some (.slice e)) (hi : Tryz.prog.info? e = some i)
    (b x : Option Addr) (k cap c : Nat) (hk : k ≤ cap) : (Builtin.append_ #[t, t] ty #[.slice b k cap, .slice x 0 c]).run Tryz.prog w = .ok (.slice b k cap) w := by
  cases b <;> cases x <;> simp [Builtin.append_, run_underlying ht, sizeOf, typeInfo, hi, Builtin.lenOf, Builtin.firstCells, hk, storeCells, loadCells, loadCellsFrom]

theorem wpList_append_zero {w : World} {ops : Array Oper} {rest : List Oper} {o : Oper} {a : Act} {Q : Exit → Act → World → Prop} (hgd : o.guard = none) (s x : Operand) (t : TypeId)
    (ho : o.op = .call { callee := .builtin .append, args := #[s, x], argTypes := #[t, t] })
    (e : TypeId) (i : TypeInfo) (ht : Tryz.prog.underlying t = some (.slice e)) (hi : Tryz.prog.info? e = some i)
    (b y : Option Addr) (k cap c : Nat) (hs : a.eval s = .slice b k cap) (hx : a.eval x = .slice y 0 c) (hk : k ≤ cap)
    (h : wpList Tryz.prog ops Q rest (a.put o.dst (.slice b k cap)) w) : wpList Tryz.prog ops Q (o :: rest) a w := by
  refine wpList_plain hgd fun K hK => ?_
  have hrun := run_append_zero w t o.type e i ht hi b y k cap c hk
  unfold Oper.wp
  simp [execOp, ho, resolve, invoke, builtin, hs, hx, hrun, Result.andThen]
  exact hK _ _ h

/-- what a clone of a row is -/
structure ClR (w w' : World) (base e : Nat) (q : Option Addr) (n d : Nat) (xs : List Value) : Prop where
  own : w'.ownsRow base e 1 (.slice q n d) n xs
  below : Below w.heap.size w w'
  new : ∀ a, q = some a → w.heap.size ≤ a.block

theorem own_empty (w : World) (base e : TypeId) (t : TypeId) (hb : base ≤ w.heap.size) : (w.alloc (.cells #[] e)).ownsRow base e 1 (.slice (some ⟨w.heap.size, 0, none⟩) 0 0) 0 [] :=
  ⟨rfl, .inr ⟨_, _, #[], rfl, hb, heap_alloc_new w _, Nat.le_refl _, by unfold maxLen; omega, rfl, rfl⟩⟩

set_option maxRecDepth 100000 in
set_option maxHeartbeats 800000 in
theorem clone54 (base n c : Nat) (p : Option Addr) (xs : List Value) (w : World) (hown : w.ownsRow base 48 1 (.slice p n c) n xs) (hn : n ≤ 65535) (hb : base ≤ w.heap.size) (h1 : ∀ u ∈ xs, u.oneCell' = true) :
    Calls Tryz.prog 186 #[.slice p n c] w fun e w' => ∃ q d, e = .returned (.slice q n d) ∧ ClR w w' base 48 q n d xs := by
  have heq := fun (a : Option Addr) (n c : Nat) (w : World) => Lib.run_eql_slice_nil w 199 48 a n c 0 0 Tryz.underlying199
  cases p with
  | none =>
    rcases hown.2 with ⟨e, hn0⟩ | ⟨g', cap', cur, e, _⟩
    · cases e
      have hx : xs = [] := List.length_eq_zero_iff.1 (by simpa using hown.1)
      subst hx
      go_enter Tryz.func186, Tryz.ntmps186
      go_wp2
      go_ret
      exact ⟨_, _, rfl, World.ownsRow_nil _ _ _ _, Below.refl _ _, (fun b hb => by cases hb)⟩
    · cases e
  | some a =>
    have hfm : ∃ bx, a = ⟨bx, 0, none⟩ := by
      rcases hown.2 with ⟨e, hn0⟩ | ⟨g', cap', cur, e, _⟩
      · cases e
      · cases e; exact ⟨_, rfl⟩
    obtain ⟨bx, rfl⟩ := hfm
    have HO := Lib.hid hown
    have hbx := (own_lt hown bx rfl).2
    have HE := Lib.hid (own_empty w base 48 0 hb)
    have hB0 := Lib.hid ((Below.refl w.heap.size w).alloc (Nat.le_refl _) (.cells #[] 48))
    clear hown
    obtain ⟨i0, hi, hz0, hz1, hz2⟩ := info_parts info3
    by_cases h0 : n = 0
    · subst h0
      have hx : xs = [] := List.length_eq_zero_iff.1 (by simpa using HO.out.1)
      subst hx
      go_enter Tryz.func186, Tryz.ntmps186
      go_wp2_with (at_builtin; refine stop ?_)
      refine unhid ?_
      refine wpList_append_zero rfl _ _ 199 (by rfl) 48 i0 Tryz.underlying199 hi _ _ 0 0 _ (by rfl) (by rfl) (Nat.le_refl _) ?_
      go_wp2
      go_ret
      exact ⟨_, _, rfl, HE.out, hB0.out, (fun b hb => by cases hb; exact Nat.le_refl _)⟩
    · go_enter Tryz.func186, Tryz.ntmps186
      go_wp2_with (at_builtin; refine stop ?_)
      refine unhid ?_
      refine wpList_append_lies _ rfl _ _ 199 (by rfl) base 48 i0 (.pointer none) 1 8 Tryz.underlying199 hi hz0 hz1 hz2 rfl (by decide) _ 0 _ (by rfl) HE.out ⟨bx, 0, none⟩ n c xs (by rfl) (by have := HO.out.1; simpa using this) (fun j u hj => ?_) h1 (by omega) (by unfold maxLen; omega) (by omega) (by rw [World.size_alloc]; omega) _ rfl ?_
      · have hjl : j < n := by
          have := (List.getElem?_eq_some_iff.1 hj).1
          have := HO.out.1
          omega
        have e : (⟨bx, 0, none⟩ : Addr).add j = ⟨bx, j, none⟩ := by unfold Addr.add; split <;> simp_all
        rw [e, World.cell?_alloc_past _ _ _ hbx, HO.out.cellAt j (by omega)]
        exact hj
      · intro bq cap w2 hown2 hgrow hnew hlt2
        rw [List.nil_append, Nat.zero_add] at hown2
        have hsz := World.size_alloc w (.cells #[] 48)
        have HC : Hid (ClR w w2 base 48 (some ⟨bq, 0, none⟩) n cap xs) := by
          refine ⟨hown2, hB0.out.grown hgrow (by omega) (fun k hk => by
            have : w.heap.size = k := by simpa [Value.ownBlock] using hk
            omega), fun a ha => ?_⟩
          cases ha
          rcases hnew with e | e
          · have : w.heap.size = bq := by simpa [Value.ownBlock] using e
            show w.heap.size ≤ bq
            omega
          · show w.heap.size ≤ bq
            omega
        clear hown2 hgrow hnew hlt2 hsz hi hz0 hz1 hz2
        rw [Nat.zero_add]
        go_wp2
        go_ret
        exact ⟨_, _, rfl, HC.out⟩

set_option maxRecDepth 100000 in
set_option maxHeartbeats 800000 in
theorem clone55 (base n c : Nat) (p : Option Addr) (xs : List Value) (w : World) (hown : w.ownsRow base 197 1 (.slice p n c) n xs) (hn : n ≤ 65535) (hb : base ≤ w.heap.size) (h1 : ∀ u ∈ xs, u.oneCell' = true) :
    Calls Tryz.prog 187 #[.slice p n c] w fun e w' => ∃ q d, e = .returned (.slice q n d) ∧ ClR w w' base 197 q n d xs := by
  have heq := fun (a : Option Addr) (n c : Nat) (w : World) => Lib.run_eql_slice_nil w 200 197 a n c 0 0 Tryz.underlying200
  cases p with
  | none =>
    rcases hown.2 with ⟨e, hn0⟩ | ⟨g', cap', cur, e, _⟩
    · cases e
      have hx : xs = [] := List.length_eq_zero_iff.1 (by simpa using hown.1)
      subst hx
      go_enter Tryz.func187, Tryz.ntmps187
      go_wp2
      go_ret
      exact ⟨_, _, rfl, World.ownsRow_nil _ _ _ _, Below.refl _ _, (fun b hb => by cases hb)⟩
    · cases e
  | some a =>
    have hfm : ∃ bx, a = ⟨bx, 0, none⟩ := by
      rcases hown.2 with ⟨e, hn0⟩ | ⟨g', cap', cur, e, _⟩
      · cases e
      · cases e; exact ⟨_, rfl⟩
    obtain ⟨bx, rfl⟩ := hfm
    have HO := Lib.hid hown
    have hbx := (own_lt hown bx rfl).2
    have HE := Lib.hid (own_empty w base 197 0 hb)
    have hB0 := Lib.hid ((Below.refl w.heap.size w).alloc (Nat.le_refl _) (.cells #[] 197))
    clear hown
    obtain ⟨i0, hi, hz0, hz1, hz2⟩ := info_parts info38
    by_cases h0 : n = 0
    · subst h0
      have hx : xs = [] := List.length_eq_zero_iff.1 (by simpa using HO.out.1)
      subst hx
      go_enter Tryz.func187, Tryz.ntmps187
      go_wp2_with (at_builtin; refine stop ?_)
      refine unhid ?_
      refine wpList_append_zero rfl _ _ 200 (by rfl) 197 i0 Tryz.underlying200 hi _ _ 0 0 _ (by rfl) (by rfl) (Nat.le_refl _) ?_
      go_wp2
      go_ret
      exact ⟨_, _, rfl, HE.out, hB0.out, (fun b hb => by cases hb; exact Nat.le_refl _)⟩
    · go_enter Tryz.func187, Tryz.ntmps187
      go_wp2_with (at_builtin; refine stop ?_)
      refine unhid ?_
      refine wpList_append_lies _ rfl _ _ 200 (by rfl) base 197 i0 (.int .u16 0) 1 2 Tryz.underlying200 hi hz0 hz1 hz2 rfl (by decide) _ 0 _ (by rfl) HE.out ⟨bx, 0, none⟩ n c xs (by rfl) (by have := HO.out.1; simpa using this) (fun j u hj => ?_) h1 (by omega) (by unfold maxLen; omega) (by omega) (by rw [World.size_alloc]; omega) _ rfl ?_
      · have hjl : j < n := by
          have := (List.getElem?_eq_some_iff.1 hj).1
          have := HO.out.1
          omega
        have e : (⟨bx, 0, none⟩ : Addr).add j = ⟨bx, j, none⟩ := by unfold Addr.add; split <;> simp_all
        rw [e, World.cell?_alloc_past _ _ _ hbx, HO.out.cellAt j (by omega)]
        exact hj
      · intro bq cap w2 hown2 hgrow hnew hlt2
        rw [List.nil_append, Nat.zero_add] at hown2
        have hsz := World.size_alloc w (.cells #[] 197)
        have HC : Hid (ClR w w2 base 197 (some ⟨bq, 0, none⟩) n cap xs) := by
          refine ⟨hown2, hB0.out.grown hgrow (by omega) (fun k hk => by
            have : w.heap.size = k := by simpa [Value.ownBlock] using hk
            omega), fun a ha => ?_⟩
          cases ha
          rcases hnew with e | e
          · have : w.heap.size = bq := by simpa [Value.ownBlock] using e
            show w.heap.size ≤ bq
            omega
          · show w.heap.size ≤ bq
            omega
        clear hown2 hgrow hnew hlt2 hsz hi hz0 hz1 hz2
        rw [Nat.zero_add]
        go_wp2
        go_ret
        exact ⟨_, _, rfl, HC.out⟩

end Go.Proofs.YtbihlmkjoplkoaaGreatDoor
