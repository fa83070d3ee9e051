/-
  The table: Handles.
-/
import Derived.Test.YtenmgjmbiamhcaaTab4
import Derived.Test.YtenmgjmbiamhcaaShelf
import Derived.Sort.OwnSorted
import Derived.Sort.KeysCollected
namespace Go.Proofs.Ytenmgjmbiamhcaa
open Go.RowKit Go.Sort Go.Maps
set_option linter.unusedVariables false

/-- a number as a value -/
def iv (x : Int) : Value := .int .i64 x

theorem holds_ints {w : World} {g : Nat} {cur : Array Value} {e : TypeId} {ss : List Int} (hb : w.heap[g]? = some (.cells cur e (0, 0))) (ht : cur.toList.take ss.length = ss.map iv) : Holds (Value.int .i64) w g 0 ss.toArray := by
  intro j hj
  have hj' : j < ss.length := by simpa using hj
  refine ⟨?_, by simp [World.frozen?, hb]⟩
  have h1 : (cur.toList.take ss.length)[j]? = (ss.map iv)[j]? := by rw [ht]
  rw [List.getElem?_take_of_lt hj'] at h1
  simp only [World.cell?, hb, Nat.zero_add]
  simp only [Option.isSome_none, Bool.false_eq_true, if_false]
  rw [← Array.getElem?_toList, h1]
  simp [hj', iv]

theorem heap_sortedI {w : World} {g n : Nat} {os : Array Obj} {cur : Array Value} {e : TypeId} {fr : Nat × Nat} (d : Array Int) (hb : w.heap[g]? = some (.cells cur e fr)) :
    (grow (putRow (Value.int .i64) (Sort.ahead w n) g 0 d) os).heap[g]? = some (.cells (putCells (Value.int .i64) 0 d cur) e fr) := by
  have hg : g < w.heap.size := (Array.getElem?_eq_some_iff.1 hb).1
  rw [heap_grow_old _ _ (by simpa using hg)]
  simp [putRow, mapBlock, Sort.ahead, Array.getElem?_modify, hb, onCells]

theorem exc_sortedI {w : World} {g n : Nat} {os : Array Obj} (d : Array Int) : Exc [g] w (grow (putRow (Value.int .i64) (Sort.ahead w n) g 0 d) os) := by
  refine ⟨rfl, rfl, rfl, by simp, fun k hk hne => ?_⟩
  rw [heap_grow_old _ _ (by simpa using hk)]
  have : g ≠ k := fun e => hne (by rw [e]; simp)
  simp [putRow, mapBlock, Sort.ahead, Array.getElem?_modify, this]

theorem take_putI (cur : Array Value) (ts : List Int) (h : ts.length ≤ cur.size) : (putCells (Value.int .i64) 0 ts.toArray cur).toList.take ts.length = ts.map iv := by
  apply List.ext_getElem?
  intro j
  by_cases hj : j < ts.length
  · rw [List.getElem?_take_of_lt hj, Array.getElem?_toList]
    simp [putCells, hj, show j < cur.size by omega, iv]
  · rw [List.getElem?_take_eq_none (by omega), List.getElem?_eq_none (by simp; omega)]

theorem own_sortedI {w : World} {base g cap n : Nat} {e : TypeId} {os : Array Obj} {cur : Array Value} {ss ts : List Int} (hl : ts.length = ss.length) (hbase : base ≤ g) (hb : w.heap[g]? = some (.cells cur e (0, 0)))
    (h1 : ss.length ≤ cap) (h2 : cap ≤ maxLen) (h3 : cur.size = cap * 1) :
    (grow (putRow (Value.int .i64) (Sort.ahead w n) g 0 ts.toArray) os).ownsRow base e 1 (.slice (some ⟨g, 0, none⟩) ss.length cap) ss.length (ts.map iv) :=
  ⟨by simp [hl], .inr ⟨g, cap, _, rfl, hbase, heap_sortedI _ hb, h1, h2, by simp [putCells, h3], by rw [Nat.mul_one, ← hl]; exact take_putI cur ts (by omega)⟩⟩

/-- no key twice; a key is on the list just where the map has it and it is no longer to come -/
structure Coll (D0 : DataW Unit) (left : Lit → Bool) (ss : List Int) : Prop where
  nodup : ss.Nodup
  mem : ∀ x, x ∈ ss ↔ (Maps.has D0 (.int .i64 x) = true ∧ left (.int .i64 x) = false)

theorem Coll.start (D0 : DataW Unit) : Coll D0 (Maps.has D0) [] := ⟨List.nodup_nil, fun x => by cases Maps.has D0 (.int .i64 x) <;> simp⟩
theorem Coll.step {D0 : DataW Unit} {left : Lit → Bool} {ss : List Int} (h : Coll D0 left ss) {x : Int} {y : DataW Unit} (hlk : left (.int .i64 x) = true) (hat : ∀ zd, D0.atKey (.int .i64 x) zd = y) :
    Coll D0 (fun z => left z && !z.sameKey (.int .i64 x)) (ss ++ [x]) := by
  have hhas : Maps.has D0 (.int .i64 x) = true := has_true_of_atKey hat
  have hnew : x ∉ ss := fun hx => by have := ((h.mem x).1 hx).2; rw [hlk] at this; cases this
  refine ⟨List.nodup_append.2 ⟨h.nodup, by simp, fun a ha b hb => by simp at hb; subst hb; exact fun e => hnew (e ▸ ha)⟩, fun y => ?_⟩
  by_cases hy : y = x
  · subst hy; simp [hhas, Lit.sameKey]
  · simp [h.mem y, hy, Lit.sameKey]

def intL : Lit → Int
  | .int _ a => a
  | _ => 0

theorem Coll.len {D0 : DataW Unit} {left : Lit → Bool} {ss : List Int} {w : World} {b n : Nat} (h : Coll D0 left ss) (hown : w.ownsMap Try.prog 3 entE b n D0) (hl : ∀ kl, left kl = false) : ss.length = Maps.size D0 := by
  obtain ⟨es, hD, hpw, _⟩ := hown.entries keyed3
  obtain ⟨es', hD', hko⟩ := hown.keysOf
  obtain rfl : es = es' := by rw [hD] at hD'; simpa using hD'
  subst hD
  have hk : ∀ p ∈ es, ∃ x, p.1 = .int .i64 x := fun p hp => by
    obtain ⟨v, hv⟩ := hko p hp
    obtain ⟨x, _, hx, _⟩ := Maps.keyOf_int_inv Try.underlying3 hv
    exact ⟨x, hx⟩
  have hp : ss.Perm (es.map fun p => intL p.1) := by
    refine (List.perm_ext_iff_of_nodup h.nodup ?_).2 fun x => ?_
    · refine List.pairwise_map.2 (hpw.imp_of_mem fun {p q} hp' hq' hne e => hne ?_)
      obtain ⟨a, ha⟩ := hk p hp'
      obtain ⟨b, hb⟩ := hk q hq'
      rw [ha, hb] at e ⊢
      exact congrArg _ e
    · rw [h.mem x, hl, Maps.has_eq, List.any_eq_true, List.mem_map]
      constructor
      · rintro ⟨⟨p, hp', hs⟩, _⟩
        obtain ⟨a, ha⟩ := hk p hp'
        rw [ha] at hs
        exact ⟨p, hp', by rw [ha]; simpa [Lit.sameKey, intL] using hs⟩
      · rintro ⟨p, hp', rfl⟩
        obtain ⟨a, ha⟩ := hk p hp'
        exact ⟨⟨p, hp', by rw [ha]; simp [Lit.sameKey, intL]⟩, rfl⟩
  rw [hp.length_eq, List.length_map]; rfl

/-- what Handles tells -/
def HOut (w : World) (f : Int → Option Int) (n : Nat) (e : Ending) (w' : World) : Prop :=
  ∃ (p : Option Addr) (c : Nat) (ks : List Int), e = .returned (.slice p n c) ∧ ks.length = n ∧ w'.ownsRow (w.heap.size + 1) 3 1 (.slice p n c) n (ks.map iv) ∧ ks.Pairwise (fun a b => a ≤ b) ∧ ks.Nodup ∧ (∀ x, x ∈ ks ↔ (f x).isSome = true) ∧ Below w.heap.size w w'

theorem info3 : (Try.prog.info? 3).map (fun i => (i.zero, i.size, i.bytes)) = some (some (.int .i64 0), 1, 8) := by kernel_rfl
theorem info_parts {e : TypeId} {z : Value} {s b : Nat} (h : (Try.prog.info? e).map (fun i => (i.zero, i.size, i.bytes)) = some (some z, s, b)) :
    ∃ i, Try.prog.info? e = some i ∧ i.zero = some z ∧ i.size = s ∧ i.bytes = b := by
  cases hi : Try.prog.info? e with
  | none => rw [hi] at h; cases h
  | some i =>
    rw [hi] at h
    simp at h
    exact ⟨i, rfl, h.1, h.2.1, h.2.2⟩

theorem wpList_append_int {w0 : World} {ops : Array Oper} {rest : List Oper} {o : Oper} {a : Act} {Q : Exit → Act → World → Prop} (hgd : o.guard = none) (s x : Operand)
    (ho : o.op = .call { callee := .builtin .append, args := #[s, x], argTypes := #[28, 28] })
    (b : Int) (base : Nat) (p : Option Addr) (k cap : Nat) (l : List Int) (hs : a.eval s = .slice p k cap) (hx : a.eval x = .slice (some ⟨w0.heap.size, 0, none⟩) 1 1)
    (hown : w0.ownsRow base 3 1 (.slice p k cap) k (l.map iv)) (hk : k ≤ 4096) (hbase : base ≤ w0.heap.size)
    (h : ∀ p' cap' w', w'.ownsRow base 3 1 (.slice p' (k + 1) cap') (k + 1) ((l ++ [b]).map iv) → Below base w0 w' →
      wpList Try.prog ops Q rest (a.put o.dst (.slice p' (k + 1) cap')) w') : wpList Try.prog ops Q (o :: rest) a (w0.alloc (.cells #[.int .i64 b] 3)) := by
  obtain ⟨i0, hi, hz0, hz1, hz2⟩ := info_parts info3
  have hownA : (w0.alloc (.cells #[.int .i64 b] 3)).ownsRow base 3 1 (.slice p k cap) k (l.map iv) := hown.alloc _
  refine wpList_append_lies _ hgd s x 28 ho base 3 i0 (.int .i64 0) 1 8 Try.underlying28 hi hz0 hz1 hz2 rfl (by decide) _ k _ hs hownA ⟨w0.heap.size, 0, none⟩ 1 1 [.int .i64 b] hx rfl (World.news_of_block (heap_alloc_new w0 _)) (by intro z hz; rcases List.mem_cons.1 hz with rfl | hz; rfl; cases hz) (by decide) (by unfold maxLen; omega) (by omega) (by rw [World.size_alloc]; omega) _ rfl ?_
  intro bx cap2 w2 hown2 hgrow _ _
  refine h _ _ w2 ?_ ?_
  · rw [List.map_append]; exact hown2
  · exact ((Below.refl base w0).alloc (o := .cells #[.int .i64 b] 3) hbase).grown hgrow (by rw [World.size_alloc]; omega) (fun k hk => (own_lt hownA k hk).1)

end Go.Proofs.Ytenmgjmbiamhcaa
