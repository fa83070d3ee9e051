/-
  For the statement TopOwners: append to a row of bytes that others share: its block stays a row of its size; each, Count.
-/
import Derived.Test.YtbihlmkjoplkoaaGreatDoorM30
import Derived.Deep.AppendSrc
/-
  append to a row of bytes that others share: its block stays a row of its size.
-/
namespace Go.Proofs.YtbihlmkjoplkoaaGreatDoor
open Go.RowKit
set_option linter.unusedVariables false

/-- a row of bytes in memory laid since -/
structure Row (w : World) (base : Nat) (p : Option Addr) (n c : Nat) : Prop where
  le : n ≤ c
  lies : (p = none ∧ n = 0 ∧ c = 0) ∨ ∃ g cur, p = some ⟨g, 0, none⟩ ∧ base ≤ g ∧ w.heap[g]? = some (.cells cur 5 (0, 0)) ∧ c ≤ maxLen ∧ cur.size = c

/-- what a walk leaves: but for the counter, rows of bytes stay rows of their sizes, and all else stays as it was -/
structure Ef (base cb : Nat) (w w' : World) : Prop where
  os : w'.os = w.os
  tape : w'.tape = w.tape
  output : w'.output = w.output
  size : w.heap.size ≤ w'.heap.size
  keep : ∀ g, g < w.heap.size → g ≠ cb → w'.heap[g]? = w.heap[g]? ∨ (base ≤ g ∧ ∃ cur cur', w.heap[g]? = some (.cells cur 5 (0, 0)) ∧ w'.heap[g]? = some (.cells cur' 5 (0, 0)) ∧ cur'.size = cur.size)
  cnt : ∀ N, w.heap[cb]? = some (.cells #[.int .i64 N] 3 (0, 0)) → ∃ N', w'.heap[cb]? = some (.cells #[.int .i64 N'] 3 (0, 0))

section
variable {base cb : Nat} {a b c w w' : World}
theorem Ef.refl (base cb : Nat) (w : World) : Ef base cb w w := ⟨rfl, rfl, rfl, Nat.le_refl _, fun _ _ _ => Or.inl rfl, fun N h => ⟨N, h⟩⟩
theorem Ef.trans (h : Ef base cb a b) (k : Ef base cb b c) : Ef base cb a c := by
  refine ⟨k.os.trans h.os, k.tape.trans h.tape, k.output.trans h.output, Nat.le_trans h.size k.size, fun g hg hc => ?_, fun N hN => ?_⟩
  · rcases h.keep g hg hc with h1 | ⟨h1, cur, cur', h2, h3, h4⟩
    · rcases k.keep g (Nat.lt_of_lt_of_le hg h.size) hc with k1 | ⟨k1, cur, cur', k2, k3, k4⟩
      · exact Or.inl (k1.trans h1)
      · exact Or.inr ⟨k1, cur, cur', h1 ▸ k2, k3, k4⟩
    · rcases k.keep g (Nat.lt_of_lt_of_le hg h.size) hc with k1 | ⟨k1, cur2, cur3, k2, k3, k4⟩
      · exact Or.inr ⟨h1, cur, cur', h2, k1.trans h3, h4⟩
      · rw [h3] at k2; cases k2
        exact Or.inr ⟨h1, cur, cur3, h2, k3, k4.trans h4⟩
  · obtain ⟨N1, h1⟩ := h.cnt N hN
    exact k.cnt N1 h1
theorem Ef.below (h : Below w.heap.size w w') : Ef base cb w w' :=
  ⟨h.os, h.tape, h.output, h.size, fun g hg _ => Or.inl (h.block g hg), fun N hN => ⟨N, (h.block cb (heap_lt hN)).trans hN⟩⟩
theorem Ef.exc {l : List Nat} (h : Exc l w w') (hl : ∀ g ∈ l, g ≠ cb ∧ base ≤ g ∧ (g < w.heap.size → ∃ cur cur', w.heap[g]? = some (.cells cur 5 (0, 0)) ∧ w'.heap[g]? = some (.cells cur' 5 (0, 0)) ∧ cur'.size = cur.size)) : Ef base cb w w' := by
  refine ⟨h.os, h.tape, h.output, h.size, fun g hg hc => ?_, fun N hN => ⟨N, ?_⟩⟩
  · by_cases hin : g ∈ l
    · obtain ⟨_, h2, h3⟩ := hl g hin
      exact Or.inr ⟨h2, h3 hg⟩
    · exact Or.inl (h.block g hg hin)
  · rw [h.block cb (heap_lt hN) (fun hin => (hl cb hin).1 rfl)]; exact hN
theorem Row.ef {p : Option Addr} {n c : Nat} (h : Row w base p n c) (k : Ef base cb w w') (hcb : cb < base) : Row w' base p n c := by
  refine ⟨h.le, ?_⟩
  rcases h.lies with h1 | ⟨g, cur, h1, h2, h3, h4, h5⟩
  · exact Or.inl h1
  · refine Or.inr ?_
    rcases k.keep g (heap_lt h3) (by omega) with k1 | ⟨_, cur2, cur3, k2, k3, k4⟩
    · exact ⟨g, cur, h1, h2, k1.trans h3, h4, h5⟩
    · rw [h3] at k2; cases k2
      exact ⟨g, cur3, h1, h2, k3, h4, k4.trans h5⟩
end

theorem row_setCells (b : Nat) {t : TypeId} : ∀ (vs : List Value) (o : Nat) (w : World) (cur : Array Value), w.heap[b]? = some (.cells cur t (0, 0)) → ∃ cur', (w.setCells b o vs).heap[b]? = some (.cells cur' t (0, 0)) ∧ cur'.size = cur.size
  | [], _, _, cur, h => ⟨cur, h, rfl⟩
  | v :: r, o, w, cur, h => by
    have h1 := heap_setCell_same w b o cur t v h
    obtain ⟨cur', h2, h3⟩ := row_setCells b r (o + 1) _ _ h1
    exact ⟨cur', h2, by rw [h3]; simp⟩
theorem exc_setCells (b : Nat) : ∀ (vs : List Value) (o : Nat) (w : World), Exc [b] w (w.setCells b o vs)
  | [], _, _ => Exc.refl _ _
  | v :: r, o, w => ((Exc.refl _ _).set (p := ⟨b, o, none⟩) (by simp) v).trans (exc_setCells b r (o + 1) _)

theorem bytes_news {w : World} {b o n : Nat} {xs : List Int} (hl : xs.length = n) (hc : ∀ i, i < n → w.cell? ⟨b, o + i, none⟩ = some (.int .u8 (xs.getD i 0))) : ∀ j u, (xs.map (Value.int .u8))[j]? = some u → w.cell? ((⟨b, o, none⟩ : Addr).add j) = some u := by
  intro j u hj
  have hjl : j < xs.length := by
    have := (List.getElem?_eq_some_iff.1 hj).1
    rwa [List.length_map] at this
  have e : (⟨b, o, none⟩ : Addr).add j = ⟨b, o + j, none⟩ := by unfold Addr.add; split <;> simp_all
  rw [e, hc j (by rw [← hl]; exact hjl), ← hj]
  simp [List.getD_eq_getElem?_getD, hjl]

theorem cell_row {w : World} {g : Nat} {cur : Array Value} {t : TypeId} {z : Nat × Nat} (h : w.heap[g]? = some (.cells cur t z)) (j : Nat) : w.cell? ⟨g, j, none⟩ = cur[j]? := cell_of_row _ _ _ _ _ _ h

/-- append of bytes to a shared row -/
theorem wp_append_row {base cb : Nat} {w : World} {o : Oper} {a : Act} {K : Act → World → Prop} {Q : Exit → Act → World → Prop} (s x : Operand)
    (ho : o.op = .call { callee := .builtin .append, args := #[s, x], argTypes := #[41, 41] })
    {p0 : Option Addr} {k cap : Nat} (hs : a.eval s = .slice p0 k cap) (hr : Row w base p0 k cap) (hcb : cb < base) (hbase : base ≤ w.heap.size)
    (p : Option Addr) (n c : Nat) (xs : List Int) (hx : a.eval x = .slice p n c) (hl : xs.length = n) (hB : Lib.BytesIn w p n xs) (hsum : k + n ≤ 140737488351232)
    (h : ∀ p' cap' w', Row w' base p' (k + n) cap' → Ef base cb w w' → K (a.put o.dst (.slice p' (k + n) cap')) w') : Oper.wp Tryz.prog o a w K Q := by
  obtain ⟨i0, hi, hz0, hz1, hz2⟩ := info_parts info5
  by_cases hn : 0 < n
  · obtain ⟨b, o', rfl, hc⟩ := hB.at hn
    have hsrc : Src Tryz.prog i0.size 41 (.slice (some ⟨b, o', none⟩) n c) n (xs.map (Value.int .u8)) w :=
      Src.ofSlice w Tryz.underlying41 _ n c _ (by rw [List.length_map, hl, hz1]; omega) (bytes_news hl hc) (one_bytes xs)
    by_cases hroom : k + n ≤ cap
    · rcases hr.lies with ⟨_, _, h3⟩ | ⟨g, cur, rfl, h2, h3, h4, h5⟩
      · omega
      · have hrun := run_append_room_src (P := Tryz.prog) w 41 41 o.type 5 i0 Tryz.underlying41 hi g 0 k cap _ n _ hsrc hroom
          (fun j hj => by rw [cell_row h3, Array.getElem?_eq_getElem (by rw [List.length_map, hl] at hj; rw [hz1]; omega)]; rfl)
          (fun j hj => frozen_of_row _ _ _ _ _ h3)
        unfold Oper.wp
        simp [execOp, ho, resolve, invoke, builtin, hs, hx, hrun, Result.andThen]
        obtain ⟨cur', e1, e2⟩ := row_setCells g (xs.map (Value.int .u8)) (k * i0.size) w cur h3
        refine (h (some ⟨g, 0, none⟩) cap _ ⟨hroom, Or.inr ⟨g, cur', rfl, h2, e1, h4, e2.trans h5⟩⟩ (Ef.exc (exc_setCells g _ _ w) (fun g' hg' => ?_)))
        rw [List.mem_singleton] at hg'
        subst hg'
        exact ⟨by omega, h2, fun _ => ⟨cur, cur', h3, e1, e2⟩⟩
    · obtain ⟨olds, hol, hold⟩ : ∃ olds : List Value, olds.length = k ∧ (Builtin.firstCells i0.size k (.slice p0 k cap)).run Tryz.prog w.drew = .ok olds.toArray w.drew := by
        rcases hr.lies with ⟨rfl, rfl, rfl⟩ | ⟨g, cur, rfl, h2, h3, h4, h5⟩
        · exact ⟨[], rfl, run_firstCells_none _ _ _ _ _⟩
        · have hk := hr.le
          refine ⟨cur.toList.take k, by rw [List.length_take, Array.length_toList]; omega, run_firstCells_some w.drew i0.size k ⟨g, 0, none⟩ k cap _ (by rw [List.length_take, Array.length_toList, hz1]; omega) (fun j v hj => ?_)⟩
          have e : (⟨g, 0, none⟩ : Addr).add j = ⟨g, j, none⟩ := by unfold Addr.add; split <;> simp_all
          rw [e]
          have h6 : w.drew.heap[g]? = some (.cells cur 5 (0, 0)) := h3
          rw [cell_row h6]
          rw [List.getElem?_take] at hj
          split at hj
          · simpa using hj
          · cases hj
      have hrun := run_append_grow_src (P := Tryz.prog) w 41 41 o.type 5 i0 _ Tryz.underlying41 hi hz0 p0 k cap olds hold _ n _ hsrc (by omega) (by omega) (by rw [hz2]; exact growslice_fits (by omega) (by omega))
      unfold Oper.wp
      simp [execOp, ho, resolve, invoke, builtin, hs, hx, hrun, Result.andThen]
      have hge := grownCap_ge w (k + n) cap 5
      refine (h (some ⟨w.heap.size, 0, none⟩) _ _ ⟨hge, Or.inr ⟨w.heap.size, _, rfl, hbase, heap_alloc_new w.drew _, grownCap_le_maxLen _ _ _ _ (by unfold maxLen; omega), ?_⟩⟩ (Ef.below (((Below.refl _ _).drew).alloc (Nat.le_refl _) _)))
      rw [Array.size_append, size_zeroCells, List.size_toArray, List.length_append, List.length_map, hol, hl]
      simp [Value.cells]
      omega
  · obtain rfl : n = 0 := by omega
    have hrun := run_append_zero w 41 o.type 5 i0 Tryz.underlying41 hi p0 p k cap c hr.le
    unfold Oper.wp
    simp [execOp, ho, resolve, invoke, builtin, hs, hx, hrun, Result.andThen]
    have := h p0 cap w hr (Ef.refl _ _ _)
    rwa [Nat.add_zero] at this

theorem wpList_append_row {base cb : Nat} {w : World} {ops : Array Oper} {rest : List Oper} {o : Oper} {a : Act} {Q : Exit → Act → World → Prop} (hgd : o.guard = none) (s x : Operand)
    (ho : o.op = .call { callee := .builtin .append, args := #[s, x], argTypes := #[41, 41] })
    {p0 : Option Addr} {k cap : Nat} (hs : a.eval s = .slice p0 k cap) (hr : Row w base p0 k cap) (hcb : cb < base) (hbase : base ≤ w.heap.size)
    (p : Option Addr) (n c : Nat) (xs : List Int) (hx : a.eval x = .slice p n c) (hl : xs.length = n) (hB : Lib.BytesIn w p n xs) (hsum : k + n ≤ 140737488351232)
    (h : ∀ p' cap' w', Row w' base p' (k + n) cap' → Ef base cb w w' → wpList Tryz.prog ops Q rest (a.put o.dst (.slice p' (k + n) cap')) w') : wpList Tryz.prog ops Q (o :: rest) a w :=
  wpList_plain hgd fun K hK => wp_append_row s x ho hs hr hcb hbase p n c xs hx hl hB hsum (fun p' cap' w' h1 h2 => hK _ _ (h p' cap' w' h1 h2))

theorem step_append_row {base cb : Nat} {w : World} {ops : Array Oper} {K : Act → World → Prop} {E : Prop} {o : Oper} {a : Act} {Q : Exit → Act → World → Prop} (hgd : o.guard = none) (s x : Operand)
    (ho : o.op = .call { callee := .builtin .append, args := #[s, x], argTypes := #[41, 41] })
    {p0 : Option Addr} {k cap : Nat} (hs : a.eval s = .slice p0 k cap) (hr : Row w base p0 k cap) (hcb : cb < base) (hbase : base ≤ w.heap.size)
    (p : Option Addr) (n c : Nat) (xs : List Int) (hx : a.eval x = .slice p n c) (hl : xs.length = n) (hB : Lib.BytesIn w p n xs) (hsum : k + n ≤ 140737488351232)
    (h : ∀ p' cap' w', Row w' base p' (k + n) cap' → Ef base cb w w' → K (a.put o.dst (.slice p' (k + n) cap')) w') : if Region.wanted o (yielded ops a.tmps) = true then Oper.wp Tryz.prog o a w K Q else E := by
  have hw : Region.wanted o (yielded ops a.tmps) = true := by simp [Region.wanted, hgd]
  rw [if_pos hw]
  exact wp_append_row s x ho hs hr hcb hbase p n c xs hx hl hB hsum h
end Go.Proofs.YtbihlmkjoplkoaaGreatDoor
/-
  each, Count.
-/
namespace Go.Proofs.YtbihlmkjoplkoaaGreatDoor
open Go.RowKit
set_option linter.unusedVariables false

/-- the closures' cells at the start -/
structure Cl (B : Nat) (w0 : World) (S : Store) (cb fb rb : Nat) : Prop where
  sto : Sto B w0 S
  cnt : ∃ N, w0.heap[cb]? = some (.cells #[.int .i64 N] 3 (0, 0))
  fn : w0.heap[fb]? = some (.cells #[.func (.func 77) #[] #[.pointer (some ⟨cb, 0, none⟩)]] 154 (0, 0))
  again : w0.heap[rb]? = some (.cells #[.func (.func 109) #[] #[.pointer (some ⟨fb, 0, none⟩), .pointer (some ⟨rb, 0, none⟩)]] 154 (0, 0))
  low : B ≤ cb
  ne1 : fb ≠ cb
  ne2 : rb ≠ cb

section
variable {B : Nat} {w0 w : World} {S : Store} {cb fb rb : Nat}
theorem Cl.lt (h : Cl B w0 S cb fb rb) : cb < w0.heap.size := let ⟨N, h1⟩ := h.cnt; heap_lt h1
theorem Cl.stoAt (h : Cl B w0 S cb fb rb) (k : Ef w0.heap.size cb w0 w) : Sto B w S := by
  obtain ⟨N, h1⟩ := h.cnt
  refine h.sto.excOne h1 (by simp [stT]) (by decide) h.low ⟨k.os, k.tape, k.output, k.size, fun g hg hc => ?_⟩
  rcases k.keep g hg (by simpa using hc) with h2 | ⟨h2, _⟩
  · exact h2
  · omega
theorem Cl.cell (h : Cl B w0 S cb fb rb) (k : Ef w0.heap.size cb w0 w) {g j : Nat} {cs : Array Value} {t : TypeId} (hg : w0.heap[g]? = some (.cells cs t (0, 0))) (hne : g ≠ cb) : w.cell? ⟨g, j, none⟩ = cs[j]? := by
  rcases k.keep g (heap_lt hg) hne with h2 | ⟨h2, _⟩
  · exact cell_row (h2.trans hg) j
  · have := heap_lt hg; omega

set_option maxHeartbeats 800000 in
theorem count77 (h : Cl B w0 S cb fb rb) (k : Ef w0.heap.size cb w0 w) {id : Nat} {d : ND} (hd : S id = some d) (v : Value) :
    Calls Tryz.prog 77 #[v, .pointer (some ⟨id, 0, none⟩), .pointer (some ⟨cb, 0, none⟩)] w fun e w' => e = .returned (.tuple #[]) ∧ Ef w0.heap.size cb w w' := by
  obtain ⟨N0, hc0⟩ := h.cnt
  obtain ⟨N, hN⟩ := k.cnt N0 hc0
  have c0 : w.cell? ⟨cb, 0, none⟩ = some (.int .i64 N) := by rw [cell_row hN]; rfl
  have z0 : w.frozen? ⟨cb, 0, none⟩ = false := frozen_of_row _ _ _ _ _ hN
  have HV := Lib.hid (val63 (h.stoAt k) hd)
  have HE : Hid (Ef w0.heap.size cb w (w.setCell ⟨cb, 0, none⟩ (.int .i64 (wrap64 (N + 1))))) := by
    have x : Exc [cb] w (w.setCell ⟨cb, 0, none⟩ (.int .i64 (wrap64 (N + 1)))) := (Exc.refl _ _).set (p := ⟨cb, 0, none⟩) (by simp) _
    exact ⟨x.os, x.tape, x.output, x.size, fun g hg hc => Or.inl (x.block g hg (by simpa using hc)), fun M hM => ⟨wrap64 (N + 1), heap_setCell_same w cb 0 _ 3 _ hN⟩⟩
  clear h k hd hc0 hN
  cases hh : d.has with
  | true =>
    rw [hh] at HV
    go_enter Tryz.func77, Tryz.ntmps77
    go_wp2_with fail
    refine HV.out.mono ?_; rintro e w1 ⟨rfl, hw1⟩
    rw [hw1]; clear hw1 w1
    go_wp2_with fail
    go_end0
    exact ⟨rfl, HE.out⟩
  | false =>
    rw [hh] at HV
    go_enter Tryz.func77, Tryz.ntmps77
    go_wp2_with fail
    refine HV.out.mono ?_; rintro e w1 ⟨rfl, hw1⟩
    rw [hw1]; clear hw1 w1
    go_wp2_with fail
    go_end0
    exact ⟨rfl, Ef.refl _ _ _⟩

/-- what the walk does -/
def EachH (B : Nat) (w0 : World) (S : Store) (cb fb rb : Nat) (t : T) : Prop := ∀ (w : World) (p : Option Addr) (n c : Nat) (hd : List Int), Rep S t → t.All Short hd → Ef w0.heap.size cb w0 w → Row w w0.heap.size p n c → n + 65560 * t.cnt (fun _ => true) ≤ 140737488351000 →
  Calls Tryz.prog 109 #[.slice p n c, .pointer (pt t.ptr), .pointer (some ⟨fb, 0, none⟩), .pointer (some ⟨rb, 0, none⟩)] w fun e w' => e = .returned (.tuple #[]) ∧ Ef w0.heap.size cb w w'

theorem each_nil (v a b : Value) (w : World) : Calls Tryz.prog 109 #[v, .pointer none, a, b] w fun e w' => e = .returned (.tuple #[]) ∧ w' = w := by
  go_enter Tryz.func109, Tryz.ntmps109
  go_wp2_with fail
  try simp only [Exit.inBlock, Exit.then]
  refine bodyPost_ret (results_none rfl _ _ _) rfl ?_
  exact ⟨rfl, rfl⟩

set_option maxHeartbeats 3200000 in
set_option maxRecDepth 100000 in
theorem each_node (h : Cl B w0 S cb fb rb) {id : Nat} {own : Int} {part : List Int} {val : Int} {has leaf : Bool} {kid : Nat → T} (hr : Rep S (.node id own part val has leaf kid)) {hd : List Int} (ha : (T.node id own part val has leaf kid).All Short hd)
    (ih : ∀ b, EachH B w0 S cb fb rb (kid b)) {p : Option Addr} {n c : Nat} (k : Ef w0.heap.size cb w0 w) (hrow : Row w w0.heap.size p n c) (hn : n + 65560 * (T.node id own part val has leaf kid).cnt (fun _ => true) ≤ 140737488351000) :
    Calls Tryz.prog 109 #[.slice p n c, .pointer (some ⟨id, 0, none⟩), .pointer (some ⟨fb, 0, none⟩), .pointer (some ⟨rb, 0, none⟩)] w fun e w' => e = .returned (.tuple #[]) ∧ Ef w0.heap.size cb w w' := by
  have HH := Lib.hid h
  have HR := Lib.hid hr
  have HA := Lib.hid ha
  obtain ⟨f, hf⟩ : ∃ f : Nat → Nat, (fun b => (kid b).cnt (fun _ => true)) = f := ⟨_, rfl⟩
  have HC : Hid ((T.node id own part val has leaf kid).cnt (fun _ => true) = 1 + sumTo f 256) := by show _ = _; rw [← hf]; simp only [T.cnt, if_pos]
  have HF := Lib.hid hf
  have HI := Lib.hid ih
  have HK := Lib.hid k
  have HRW := Lib.hid hrow
  have HN := Lib.hid hn
  have HP := Lib.hid (part58x (h.stoAt k) hr.1)
  have he := run_eql_pointer_nil (P := Tryz.prog) w 48 (some ⟨id, 0, none⟩) (by kernel_rfl)
  have HL := Lib.hid h.lt
  have CF : Hid (∀ w', Ef w0.heap.size cb w0 w' → w'.cell? ⟨fb, 0, none⟩ = some (.func (.func 77) #[] #[.pointer (some ⟨cb, 0, none⟩)])) := fun w' k' => by rw [HH.out.cell k' HH.out.fn HH.out.ne1]; rfl
  have CR : Hid (∀ w', Ef w0.heap.size cb w0 w' → w'.cell? ⟨rb, 0, none⟩ = some (.func (.func 109) #[] #[.pointer (some ⟨fb, 0, none⟩), .pointer (some ⟨rb, 0, none⟩)])) := fun w' k' => by rw [HH.out.cell k' HH.out.again HH.out.ne2]; rfl
  have K77 : Hid (∀ w' v, Ef w0.heap.size cb w0 w' → Calls Tryz.prog 77 #[v, .pointer (some ⟨id, 0, none⟩), .pointer (some ⟨cb, 0, none⟩)] w' fun e w'' => e = .returned (.tuple #[]) ∧ Ef w0.heap.size cb w' w'') := fun w' v k' => count77 HH.out k' HR.out.1 v
  have K61 : Hid (∀ w' (s : Nat), Ef w0.heap.size cb w0 w' → Calls Tryz.prog 61 #[.pointer (some ⟨id, 0, none⟩), .int .i64 s] w' fun e w'' => ∃ r, NextK (fun b => (kid b).ptr) s r ∧ e = .returned (.tuple #[.int .u8 r.1, .pointer (pt r.2)]) ∧ Ef w0.heap.size cb w' w'') := fun w' s k' =>
    (next61 (HH.out.stoAt k') HR.out.1 s).mono fun e w'' ⟨r, h1, h2, z, h3⟩ => by
      subst h3
      exact ⟨r, h1, h2, Ef.below (below_drewN (Below.refl _ _) z)⟩
  clear h hr ha ih hf k hrow hn
  generalize hm : (T.node id own part val has leaf kid).cnt (fun _ => true) = m at *
  clear hm
  go_enter Tryz.func109, Tryz.ntmps109
  go_wp2_with fail
  refine HP.out.mono ?_; rintro e w1 ⟨rfl, hpk, hbel⟩
  have PL : Hid (part.length ≤ 65536) := HA.out.1
  have E1 := Lib.hid (Ef.below (base := w0.heap.size) (cb := cb) hbel)
  have R1 := Lib.hid (HRW.out.ef E1.out HL.out)
  have PK1 := Lib.hid hpk
  have S1 : Hid (w0.heap.size ≤ w1.heap.size) := Nat.le_trans HK.out.size hbel.size
  clear hpk hbel
  have M1 := Lib.hid (show n + 65560 ≤ 140737488351000 by have := HN.out; have h1 := HC.out; omega)
  go_wp2_with (at_builtin; refine stop ?_)
  refine unhid ?_
  refine wpList_append_row (base := w0.heap.size) (cb := cb) rfl _ _ (by rfl) (by rfl) R1.out HL.out S1.out (some ⟨w.heap.size, 0, none⟩) part.length part.length part (by rfl) rfl PK1.out.bs.cells (by have := M1.out; have := PL.out; omega) ?_
  intro p2 c2 w2 hrow2 hef2
  obtain ⟨n2, hn2⟩ : ∃ n2, n + part.length = n2 := ⟨_, rfl⟩
  rw [hn2] at hrow2 ⊢
  have H2 : Hid (n2 ≤ n + 65536) := by show _ ≤ _; have := PL.out; omega
  have E2 := Lib.hid (E1.out.trans hef2)
  have R2 := Lib.hid hrow2
  have A2 := Lib.hid (HK.out.trans E2.out)
  clear hn2 hrow2 hef2 PK1
  have cf := CF.out w2 A2.out
  go_wp2_with fail
  refine (K77.out _ _ A2.out).mono ?_; rintro e w3 ⟨rfl, hef3⟩
  have E3 := Lib.hid (E2.out.trans hef3)
  have A3 := Lib.hid (A2.out.trans hef3)
  have R3 := Lib.hid (R2.out.ef hef3 HL.out)
  clear hef3 cf
  go_wp2_with fail
  refine (K61.out _ 0 A3.out).mono ?_; rintro e w4 ⟨r, hnk, rfl, hef4⟩
  have NK := Lib.hid hnk
  have E4 := Lib.hid (E3.out.trans hef4)
  have R4 := Lib.hid (R3.out.ef hef4 HL.out)
  obtain ⟨pr, hpr⟩ : ∃ pr, pt r.2 = pr := ⟨_, rfl⟩
  obtain ⟨rb', hrb⟩ : ∃ rb' : Int, ((r.1 : Nat) : Int) = rb' := ⟨_, rfl⟩
  rw [hpr, hrb]
  have HPR := Lib.hid (And.intro hpr hrb)
  clear hpr hrb hnk hef4
  go_wp2_with fail
  go_loopg [6, 7] 257 (fun gk x q wr => ∃ (s : Nat) (r : Nat × Option Nat), gk = 257 - s ∧ s ≤ 256 ∧ x = .int .u8 r.1 ∧ q = .pointer (pt r.2) ∧ Hid (NextK (fun b => (kid b).ptr) s r) ∧ Hid (Ef w0.heap.size cb w wr) ∧ Hid (Row wr w0.heap.size p2 n2 c2))
  case atStart => exact ⟨0, r, by omega, by omega, by rw [HPR.out.2], by rw [HPR.out.1], NK.out, E4.out, R4.out⟩
  case round =>
    obtain ⟨s, ⟨b, a⟩, hgk, hs, rfl, rfl, hnk, hef, hrw⟩ := hrel
    have HG := Lib.hid hgk
    have HS2 := Lib.hid hs
    clear hgk hs
    simp only
    cases a with
    | none =>
      simp only [pt]
      go_wp2_with fail
      go_end0
      exact ⟨rfl, hef.out⟩
    | some a =>
      obtain ⟨hb, hsb, hka, hz⟩ := next_step hnk.out
      have HB1 := Lib.hid (show b < 256 ∧ s ≤ b from ⟨hb, hsb⟩)
      have HKA := Lib.hid hka
      have hn := run_neq_pointer_nil (P := Tryz.prog) wr 48 (some ⟨a, 0, none⟩) (by kernel_rfl)
      have HBD : Hid (n2 + 1 + 65560 * f b ≤ 140737488351000) := by
        show _ ≤ _
        have h2 := sumTo_mono f 256 (show b + 1 ≤ 256 by omega)
        have h3 := HC.out
        have h4 := HN.out
        have h5 : sumTo f (b + 1) = sumTo f b + f b := rfl
        have h6 := H2.out
        omega
      have AR := Lib.hid (HK.out.trans hef.out)
      have cr := CR.out wr AR.out
      have crd : wr.drew.cell? ⟨rb, 0, none⟩ = some (.func (.func 109) #[] #[.pointer (some ⟨fb, 0, none⟩), .pointer (some ⟨rb, 0, none⟩)]) := cr
      have ED : Hid (Ef w0.heap.size cb wr (wr.drew.alloc (.cells #[.int .u8 (b : Int)] 5))) := Ef.below (((Below.refl _ _).drew).alloc (Nat.le_refl _) _)
      have cra := CR.out _ (AR.out.trans ED.out)
      have RD := Lib.hid (hrw.out.ef ED.out HL.out)
      have SD : Hid (w0.heap.size ≤ (wr.drew.alloc (.cells #[.int .u8 (b : Int)] 5)).heap.size) := (AR.out.trans ED.out).size
      have K109 : Hid (∀ w' p' c', Ef w0.heap.size cb w0 w' → Row w' w0.heap.size p' (n2 + 1) c' → Calls Tryz.prog 109 #[.slice p' (n2 + 1) c', .pointer (some ⟨a, 0, none⟩), .pointer (some ⟨fb, 0, none⟩), .pointer (some ⟨rb, 0, none⟩)] w' fun e w'' => e = .returned (.tuple #[]) ∧ Ef w0.heap.size cb w' w'') := fun w' p' c' k1 k2 => by
        have := HI.out b w' p' (n2 + 1) c' _ (HR.out.2 b) (HA.out.2 b) k1 k2 (by rw [congrFun HF.out b]; exact HBD.out)
        rw [HKA.out] at this
        exact this
      clear hb hsb hka hz
      simp only [pt]
      go_wp2_with fail
      go_region_held3 (fun W' : World => W'.cell? ⟨rb, 0, none⟩ = some (.func (.func 109) #[] #[.pointer (some ⟨fb, 0, none⟩), .pointer (some ⟨rb, 0, none⟩)]))
        (first
          | assumption)
        (first
          | (refine step_append_row (base := w0.heap.size) (cb := cb) rfl (.tmp 34) (.tmp 36) (by rfl) (by rfl) RD.out HL.out SD.out (some ⟨wr.heap.size, 0, none⟩) 1 1 [(b : Int)] (by rfl) rfl (bytes_one (heap_alloc_new wr.drew _)) (by have := HBD.out; omega) ?_
             intro p3 c3 w5 hrow5 hef5
             have A5 := Lib.hid ((AR.out.trans ED.out).trans hef5)
             have X := CR.out w5 A5.out)
          | (go_at_call 109
             refine (K109.out _ _ _ A5.out hrow5).mono ?_
             rintro e w6 ⟨rfl, hef6⟩
             have Y := CR.out w6 (A5.out.trans hef6)))
      have A6 := Lib.hid (A5.out.trans hef6)
      have E6 := Lib.hid (((hef.out.trans ED.out).trans hef5).trans hef6)
      have R6 := Lib.hid ((RD.out.ef hef5 HL.out).ef hef6 HL.out)
      clear hrow5 hef5 hef6 X Y cr crd cra
      have q1 : wrap64 ((b : Int) + 1) = (b : Int) + 1 := IntWalk.wrap64_in _ (by have := HB1.out; omega)
      have q3 : wrap64 (b : Int) = (b : Int) := IntWalk.wrap64_in _ (by have := HB1.out; omega)
      go_wp2_with fail
      refine (K61.out _ (b + 1) A6.out).mono ?_; rintro e w7 ⟨r5, nk5, rfl, hef7⟩
      have NK5 := Lib.hid nk5
      have E7 := Lib.hid (E6.out.trans hef7)
      have R7 := Lib.hid (R6.out.ef hef7 HL.out)
      clear nk5 hef7
      go_wp2_with fail
      go_roundg (257 - (b + 1))
      case measure => rw [HG.out]; have := HB1.out; omega
      case rel => exact ⟨b + 1, r5, rfl, by have := HB1.out; omega, rfl, rfl, NK5.out, E7.out, R7.out⟩

theorem each109 (h : Cl B w0 S cb fb rb) : ∀ t : T, EachH B w0 S cb fb rb t := by
  intro t
  induction t with
  | nil =>
    intro w p n c hd _ _ _ _ _
    refine (each_nil _ _ _ w).mono ?_
    rintro e w' ⟨rfl, rfl⟩
    exact ⟨rfl, Ef.refl _ _ _⟩
  | node id own part val has leaf kid ih => exact fun w p n c hd hr ha k hrow hn => each_node h hr ha ih k hrow hn
end

theorem Ef.wide {base base' cb : Nat} {w w' : World} (h : Ef base cb w w') (hb : base' ≤ base) : Ef base' cb w w' :=
  ⟨h.os, h.tape, h.output, h.size, fun g hg hc => (h.keep g hg hc).imp (fun x => x) fun ⟨h1, h2⟩ => ⟨Nat.le_trans hb h1, h2⟩, h.cnt⟩

/-- what Count leaves: an int; memory has grown -/
def CountS (w w' : World) (e : Ending) : Prop := (∃ N : Int, e = .returned (.int .i64 N)) ∧ Below w.heap.size w w'

section
variable {B : Nat} {w : World} {S : Store} {t : T}

set_option maxHeartbeats 1600000 in
set_option maxRecDepth 100000 in
theorem each76 (hs : Sto B w S) (hr : Rep S t) {hd : List Int} (ha : t.All Short hd) (hn : 65560 * t.cnt (fun _ => true) ≤ 140737488351000) {cb : Nat} {N : Int} (hc : w.heap[cb]? = some (.cells #[.int .i64 N] 3 (0, 0))) (hB : B ≤ cb) :
    Calls Tryz.prog 76 #[.pointer (pt t.ptr), .func (.func 77) #[] #[.pointer (some ⟨cb, 0, none⟩)]] w fun e w' => e = .returned (.tuple #[]) ∧ Ef w.heap.size cb w w' := by
  obtain ⟨w0, hw0⟩ : ∃ w0, w0 = (w.alloc (.cells #[.func (.func 77) #[] #[.pointer (some ⟨cb, 0, none⟩)]] 154)).alloc (.cells #[.func (.func 109) #[] #[.pointer (some ⟨w.heap.size, 0, none⟩), .pointer (some ⟨w.heap.size + 1, 0, none⟩)]] 154) := ⟨_, rfl⟩
  have hlt := heap_lt hc
  have hb1 : Below w.heap.size w w0 := by
    rw [hw0]
    exact ((Below.refl _ _).alloc (Nat.le_refl _) _).alloc (by rw [World.size_alloc]; omega) _
  have hA := heap_alloc_new (w.alloc (.cells #[.func (.func 77) #[] #[.pointer (some ⟨cb, 0, none⟩)]] 154)) (.cells #[.nilFunc] 154)
  rw [World.size_alloc] at hA
  have hfb : w0.heap[w.heap.size]? = some (.cells #[.func (.func 77) #[] #[.pointer (some ⟨cb, 0, none⟩)]] 154 (0, 0)) := by
    rw [hw0, Below.heap_alloc _ _ _ (by rw [World.size_alloc]; omega)]
    exact heap_alloc_new _ _
  have hrb : w0.heap[w.heap.size + 1]? = some (.cells #[.func (.func 109) #[] #[.pointer (some ⟨w.heap.size, 0, none⟩), .pointer (some ⟨w.heap.size + 1, 0, none⟩)]] 154 (0, 0)) := by
    have := heap_alloc_new (w.alloc (.cells #[.func (.func 77) #[] #[.pointer (some ⟨cb, 0, none⟩)]] 154)) (.cells #[.func (.func 109) #[] #[.pointer (some ⟨w.heap.size, 0, none⟩), .pointer (some ⟨w.heap.size + 1, 0, none⟩)]] 154)
    rw [World.size_alloc] at this
    rw [hw0]; exact this
  have hsz : w.heap.size ≤ w0.heap.size := hb1.size
  have CL : Hid (Cl B w0 S cb w.heap.size (w.heap.size + 1)) := ⟨hs.step hb1, ⟨N, (hb1.block cb hlt).trans hc⟩, hfb, hrb, hB, by omega, by omega⟩
  have HC : Hid (Calls Tryz.prog 109 #[.slice none 0 0, .pointer (pt t.ptr), .pointer (some ⟨w.heap.size, 0, none⟩), .pointer (some ⟨w.heap.size + 1, 0, none⟩)] w0 fun e w' => e = .returned (.tuple #[]) ∧ Ef w.heap.size cb w w') := by
    refine (each109 CL.out t w0 none 0 0 _ hr ha (Ef.refl _ _ _) ⟨Nat.le_refl _, Or.inl ⟨rfl, rfl, rfl⟩⟩ (by omega)).mono ?_
    rintro e w' ⟨h1, h2⟩
    exact ⟨h1, (Ef.below hb1).trans (h2.wide hsz)⟩
  rw [hw0] at HC
  have cz : ((w.alloc (.cells #[.func (.func 77) #[] #[.pointer (some ⟨cb, 0, none⟩)]] 154)).alloc (.cells #[.nilFunc] 154)).cell? ⟨w.heap.size + 1, 0, none⟩ = some .nilFunc := by rw [cell_row hA]; rfl
  have fz : ((w.alloc (.cells #[.func (.func 77) #[] #[.pointer (some ⟨cb, 0, none⟩)]] 154)).alloc (.cells #[.nilFunc] 154)).frozen? ⟨w.heap.size + 1, 0, none⟩ = false := frozen_of_row _ _ _ _ _ hA
  have hst : (store ⟨w.heap.size + 1, 0, none⟩ (.func (.func 109) #[] #[.pointer (some ⟨w.heap.size, 0, none⟩), .pointer (some ⟨w.heap.size + 1, 0, none⟩)])).run Tryz.prog ((w.alloc (.cells #[.func (.func 77) #[] #[.pointer (some ⟨cb, 0, none⟩)]] 154)).alloc (.cells #[.nilFunc] 154)) = .ok () (((w.alloc (.cells #[.func (.func 77) #[] #[.pointer (some ⟨cb, 0, none⟩)]] 154)).alloc (.cells #[.nilFunc] 154)).setCell ⟨w.heap.size + 1, 0, none⟩ (.func (.func 109) #[] #[.pointer (some ⟨w.heap.size, 0, none⟩), .pointer (some ⟨w.heap.size + 1, 0, none⟩)])) := by
    rw [run_store _ _ _ _ _ rfl, cz]; simp [fz]
  clear hs hr ha hn hc hB hw0 hlt hb1 hA hfb hrb hsz CL
  generalize pt t.ptr = kp at *
  go_enter Tryz.func76, Tryz.ntmps76
  go_wp2_with fail
  refine HC.out.mono ?_; rintro e w1 ⟨rfl, hef⟩
  have HE := Lib.hid hef
  clear hef
  go_wp2_with fail
  go_end0
  exact ⟨rfl, HE.out⟩

theorem Count52 (hs : Sto B w S) (hB : B ≤ w.heap.size) (hr : Rep S t) {hd : List Int} (ha : t.All Short hd) (hn : 65560 * t.cnt (fun _ => true) ≤ 140737488351000) :
    Calls Tryz.prog 52 #[.pointer (pt t.ptr)] w fun e w' => CountS w w' e := by
  have h0 : Hid (∀ x : Int, ∀ W : World, W = w.alloc (.cells #[.int .i64 x] 3) → Calls Tryz.prog 76 #[.pointer (pt t.ptr), .func (.func 77) #[] #[.pointer (some ⟨w.heap.size, 0, none⟩)]] W fun e w' => e = .returned (.tuple #[]) ∧ (∃ N, w'.cell? ⟨w.heap.size, 0, none⟩ = some (.int .i64 N)) ∧ Below w.heap.size w w') := fun x W hW => by
    subst hW
    have hb : Below w.heap.size w (w.alloc (.cells #[.int .i64 x] 3)) := (Below.refl _ _).alloc (Nat.le_refl _) _
    refine (each76 (hs.step hb) hr ha hn (heap_alloc_new w (.cells #[.int .i64 x] 3)) hB).mono ?_
    rintro e w' ⟨h1, h2⟩
    obtain ⟨N', hN⟩ := h2.cnt x (heap_alloc_new w _)
    refine ⟨h1, ⟨N', by rw [cell_row hN]; rfl⟩, h2.os, h2.tape, h2.output, Nat.le_trans hb.size h2.size, fun g hg => ?_⟩
    rcases h2.keep g (Nat.lt_of_lt_of_le hg hb.size) (by omega) with h3 | ⟨h3, _⟩
    · exact h3.trans (hb.block g hg)
    · rw [World.size_alloc] at h3; omega
  clear hs hB hr ha hn
  generalize pt t.ptr = kp at *
  go_enter Tryz.func52, Tryz.ntmps52
  go_wp2_with fail
  refine (h0.out _ _ rfl).mono ?_; rintro e w1 ⟨rfl, ⟨N, c0⟩, hb⟩
  have HB := Lib.hid hb
  clear hb
  go_wp2_with fail
  go_ret
  exact ⟨⟨N, rfl⟩, HB.out⟩
end
end Go.Proofs.YtbihlmkjoplkoaaGreatDoor
