/-
  The table: its map; has, Get, Last, Len, Free.
-/
import Derived.Test.YtenmgjmbiamhcaaQuiet
namespace Go.Proofs.Ytenmgjmbiamhcaa
open Go.RowKit
set_option linter.unusedVariables false

/-- how an entry reads -/
def entE (v : Value) : Option (DataW Unit × List MemPlace) :=
  match v with
  | .agg cs => match cs.toList with
    | [.int .i64 x] => some (.lit (.int .i64 x), [])
    | _ => none
  | _ => none

theorem entE_mk (x : Int) : entE (.agg #[.int .i64 x]) = some (.lit (.int .i64 x), []) := rfl
theorem entE_inv {v : Value} {z : DataW Unit × List MemPlace} (h : entE v = some z) : ∃ x, v = .agg #[.int .i64 x] ∧ z = (.lit (.int .i64 x), []) := by
  unfold entE at h
  split at h
  · rename_i cs
    split at h
    · rename_i x hx
      cases h
      refine ⟨x, ?_, rfl⟩
      congr 1
      rw [← Array.toArray_toList (xs := cs), hx]
    · cases h
  · cases h

theorem keyed3 : Maps.Keyed Try.prog 3 := Maps.int_keyed Try.underlying3
theorem zeroE (w : World) : (zeroValue 55).run Try.prog w = .ok (.agg #[.int .i64 0]) w := by kernel_rfl
def wf64 (k : Int) : Prop := -9223372036854775808 ≤ k ∧ k ≤ 9223372036854775807
theorem wf64_lit {k : Int} (h : wf64 k) : (Lit.int .i64 k).wf = true := by
  obtain ⟨h1, h2⟩ := h
  simp [Lit.wf, IntKind.min, IntKind.max, IntKind.signed, IntKind.bits]
  omega
theorem key3 {k : Int} (h : wf64 k) : keyOf Try.prog 3 (.int .i64 k) = some (.int .i64 k) := Maps.keyOf_int_mk Try.underlying3 (wf64_lit h)

/-- what a map holds, read by numbers -/
structure Mp (w : World) (bm : Nat) (D : DataW Unit) (f : Int → Option Int) (n : Nat) : Prop where
  own : w.ownsMap Try.prog 3 entE bm n D
  size : Maps.size D = n
  has : ∀ k, Maps.has D (.int .i64 k) = (f k).isSome
  at' : ∀ k x z, f k = some x → D.atKey (.int .i64 k) z = .lit (.int .i64 x)

theorem tight {w : World} {bm n : Nat} {D : DataW Unit} (h : w.ownsMap Try.prog 3 entE bm n D) : w.ownsMap Try.prog 3 entE bm (Maps.size D) D := by
  obtain ⟨es, clock, hb, F, hs, rfl⟩ := h
  exact ⟨es, clock, hb, F, by simp [Maps.size, length_sorted], rfl⟩

theorem Mp.same {w w' : World} {bm n : Nat} {D : DataW Unit} {f : Int → Option Int} (h : Mp w bm D f n) (e : w'.heap[bm]? = w.heap[bm]?) : Mp w' bm D f n := by
  refine ⟨?_, h.size, h.has, h.at'⟩
  obtain ⟨es, clock, hb, r⟩ := h.own
  exact ⟨es, clock, e.trans hb, r⟩

/-- a table -/
structure Tb (w : World) (g bm room last : Nat) (D : DataW Unit) (f : Int → Option Int) (n : Nat) : Prop where
  row : w.heap[g]? = some (.cells #[.int .i64 room, .int .i64 last, .map (some bm)] 51 (0, 0))
  map : Mp w bm D f n
  ne : bm ≠ g
  room1 : 1 ≤ room
  room2 : room ≤ 1024
  le : n ≤ room
  low : ∀ k, (f k).isSome = true → 1 ≤ k ∧ k ≤ last

theorem Tb.c0 {w : World} {g bm room last n : Nat} {D : DataW Unit} {f : Int → Option Int} (h : Tb w g bm room last D f n) : w.cell? ⟨g, 0, none⟩ = some (.int .i64 room) := by
  rw [cell_of_row _ _ _ _ _ _ h.row]; rfl
theorem Tb.c1 {w : World} {g bm room last n : Nat} {D : DataW Unit} {f : Int → Option Int} (h : Tb w g bm room last D f n) : w.cell? ⟨g, 1, none⟩ = some (.int .i64 last) := by
  rw [cell_of_row _ _ _ _ _ _ h.row]; rfl
theorem Tb.c2 {w : World} {g bm room last n : Nat} {D : DataW Unit} {f : Int → Option Int} (h : Tb w g bm room last D f n) : w.cell? ⟨g, 2, none⟩ = some (.map (some bm)) := by
  rw [cell_of_row _ _ _ _ _ _ h.row]; rfl
theorem Tb.z {w : World} {g bm room last n : Nat} {D : DataW Unit} {f : Int → Option Int} (h : Tb w g bm room last D f n) (j : Nat) : w.frozen? ⟨g, j, none⟩ = false := frozen_of_row _ _ _ _ _ h.row
theorem Tb.lt {w : World} {g bm room last n : Nat} {D : DataW Unit} {f : Int → Option Int} (h : Tb w g bm room last D f n) : g < w.heap.size := block_lt_of_cell h.c0
theorem Tb.step {w w' : World} {g bm room last n : Nat} {D : DataW Unit} {f : Int → Option Int} (h : Tb w g bm room last D f n) (k : Below w.heap.size w w') : Tb w' g bm room last D f n :=
  ⟨(k.block g h.lt).trans h.row, h.map.same (k.block bm h.map.own.lt), h.ne, h.room1, h.room2, h.le, h.low⟩
theorem Tb.drewN {w : World} {g bm room last n : Nat} {D : DataW Unit} {f : Int → Option Int} (h : Tb w g bm room last D f n) (z : Nat) : Tb (w.drewN z) g bm room last D f n :=
  ⟨h.row, h.map.same rfl, h.ne, h.room1, h.room2, h.le, h.low⟩

theorem last17 {w : World} {g bm room last n : Nat} {D : DataW Unit} {f : Int → Option Int} (h : Tb w g bm room last D f n) : Calls Try.prog 17 #[.pointer (some ⟨g, 0, none⟩)] w fun e w' => e = .returned (.int .i64 last) ∧ w' = w := by
  have H := Lib.hid (ok23 g room w h.c0 (by have := h.room1; omega))
  have c1 := h.c1
  have hnot : ∀ (x : Bool) (w : World), (Op.unary .not (.bool x)).run Try.prog w = .ok (.bool (!x)) w := fun _ _ => rfl
  clear h
  go_enter Try.func17, Try.ntmps17
  go_wp2_with fail
  refine H.out.mono ?_; rintro e w' ⟨rfl, rfl⟩
  go_wp2_with fail
  go_ret
  exact ⟨rfl, rfl⟩

theorem len18 {w : World} {g bm room last n : Nat} {D : DataW Unit} {f : Int → Option Int} (h : Tb w g bm room last D f n) : Calls Try.prog 18 #[.pointer (some ⟨g, 0, none⟩)] w fun e w' => e = .returned (.int .i64 n) ∧ w' = w := by
  have H := Lib.hid (ok23 g room w h.c0 (by have := h.room1; omega))
  have HO := Lib.hid h.map.own
  have HSZ := Lib.hid h.map.size
  have c2 := h.c2
  have hnot : ∀ (x : Bool) (w : World), (Op.unary .not (.bool x)).run Try.prog w = .ok (.bool (!x)) w := fun _ _ => rfl
  clear h
  go_enter Try.func18, Try.ntmps18
  go_wp2_with fail
  refine H.out.mono ?_; rintro e w' ⟨rfl, rfl⟩
  go_wp2_with (at_len; refine stop ?_)
  refine unhid ?_
  refine wpList_len_own _ rfl _ 49 rfl 3 55 Try.underlying49 entE bm n D rfl HO.out ?_
  rw [HSZ.out]
  go_wp2_with fail
  go_ret
  exact ⟨rfl, rfl⟩

set_option maxHeartbeats 800000 in
theorem free19 {w : World} {g bm room last n : Nat} {D : DataW Unit} {f : Int → Option Int} (h : Tb w g bm room last D f n) : Calls Try.prog 19 #[.pointer (some ⟨g, 0, none⟩)] w fun e w' => e = .returned (.int .i64 ((room : Int) - n)) ∧ ∃ z, w' = w.drewN z := by
  have H := Lib.hid (ok23 g room w h.c0 (by have := h.room1; omega))
  have HSZ := Lib.hid h.map.size
  have HT := Lib.hid h
  have hle := h.le
  have r2 := h.room2
  have q0 : IntKind.i64.wrap ((room : Int) - (n : Int)) = (room : Int) - (n : Int) := IntWalk.i64_in _ (by omega)
  have hnot : ∀ (x : Bool) (w : World), (Op.unary .not (.bool x)).run Try.prog w = .ok (.bool (!x)) w := fun _ _ => rfl
  clear h
  go_enter Try.func19, Try.ntmps19
  go_wp2_with fail
  refine H.out.mono ?_; rintro e w' ⟨rfl, hw'⟩
  rw [hw']; clear hw' w'
  go_wp2_with fail
  refine region_quiet (C := fun W => ∃ z, W = w.drewN z) (by kernel_rfl) (by kernel_rfl) ⟨1, rfl⟩ ?_
  repeat (
    refine wpQuiet_step (fun K hK => ?_)
    first
    | (refine quiet_load (by rfl) 3 _ (by rfl) ⟨g, 0, none⟩ (by rfl) (.int .i64 room) (fun W' hC => loadVar_cell (Try.isAgg3 _) (by obtain ⟨z, rfl⟩ := hC; exact HT.out.c0)) ?_
       refine hK _ ?_; clear hK K)
    | (refine quiet_load (by rfl) 49 _ (by rfl) ⟨g, 2, none⟩ (by rfl) (.map (some bm)) (fun W' hC => loadVar_cell (Try.isAgg49 _) (by obtain ⟨z, rfl⟩ := hC; exact HT.out.c2)) ?_
       refine hK _ ?_; clear hK K)
    | (refine quiet_len (by rfl) _ 49 (by rfl) (.map (some bm)) (.int .i64 n) (by rfl) (fun W' ty hC => by obtain ⟨z, rfl⟩ := hC; have := (HT.out.drewN z).map.own.len Try.underlying49 ty; rwa [HSZ.out] at this) ?_
       refine hK _ ?_; clear hK K)
    | (refine quiet_pure (v := ?_) (by rfl) ?_ ?_
       rotate_left
       focus (intro W'; go_simp; try (with_reducible rfl))
       refine hK _ ?_; clear hK K)
    try simp only [Act.put, List.setIfInBounds_toArray, List.set_cons_zero, List.set_cons_succ])
  refine wpQuiet_nil ?_
  rintro w2 ⟨z, hz⟩
  have HZ := Lib.hid hz
  clear hz
  go_wp2_with fail
  go_ret
  exact ⟨rfl, z, HZ.out⟩

set_option maxHeartbeats 800000 in
theorem has21 {w : World} {g bm room last n : Nat} {D : DataW Unit} {f : Int → Option Int} (h : Tb w g bm room last D f n) (k : Int) (hk : wf64 k) (b : Bool) (hb : (f k).isSome = b) :
    Calls Try.prog 21 #[.pointer (some ⟨g, 0, none⟩), .int .i64 k] w fun e w' => e = .returned (.int .i64 (if b then 0 else 6)) ∧ Below w.heap.size w w' := by
  have H := Lib.hid (ok23 g room w h.c0 (by have := h.room1; omega))
  have HO := Lib.hid h.map.own
  have HH := Lib.hid ((h.map.has k).trans hb)
  have HK := Lib.hid (key3 hk)
  have c2 := h.c2
  have hnot : ∀ (x : Bool) (w : World), (Op.unary .not (.bool x)).run Try.prog w = .ok (.bool (!x)) w := fun _ _ => rfl
  clear h hb hk
  cases b with
  | true =>
    go_enter Try.func21, Try.ntmps21
    go_wp2_with fail
    refine H.out.mono ?_; rintro e w' ⟨rfl, hw'⟩
    rw [hw']; clear hw' w'
    go_wp2_with (at_lookup; refine stop ?_)
    refine unhid ?_
    refine wpList_lookup_own_ok _ rfl _ _ 49 rfl 3 55 keyed3 Try.underlying49 entE (zeroE _) (.lit (.int .i64 0)) [] rfl bm n D rfl HO.out _ _ rfl HK.out ?_
    intro v ps hv
    obtain ⟨x, rfl, _⟩ := entE_inv hv
    rw [HH.out]
    clear hv
    go_wp2_with fail
    go_ret
    exact ⟨rfl, (Below.refl _ _).alloc (Nat.le_refl _) _⟩
  | false =>
    go_enter Try.func21, Try.ntmps21
    go_wp2_with fail
    refine H.out.mono ?_; rintro e w' ⟨rfl, hw'⟩
    rw [hw']; clear hw' w'
    go_wp2_with (at_lookup; refine stop ?_)
    refine unhid ?_
    refine wpList_lookup_own_ok _ rfl _ _ 49 rfl 3 55 keyed3 Try.underlying49 entE (zeroE _) (.lit (.int .i64 0)) [] rfl bm n D rfl HO.out _ _ rfl HK.out ?_
    intro v ps hv
    obtain ⟨x, rfl, _⟩ := entE_inv hv
    rw [HH.out]
    clear hv
    go_wp2_with fail
    go_ret
    exact ⟨rfl, (Below.refl _ _).alloc (Nat.le_refl _) _⟩

end Go.Proofs.Ytenmgjmbiamhcaa
