/-
  SmallWalks: lists of what is held; a byte appended to a slice of the call's own.
-/
import Derived.Test.YthohpeinmkdfeaaLaw09
namespace Go.Proofs.Ythohpeinmkdfeaa
open Go.RowKit
set_option linter.unusedVariables false

/-- what is held below n, rising -/
def heldL (f : Nat → Option Int) (n : Nat) : List Nat := (List.range n).filter fun b => (f b).isSome

theorem heldL_succ (f : Nat → Option Int) (n : Nat) : heldL f (n + 1) = heldL f n ++ (if (f n).isSome then [n] else []) := by
  unfold heldL
  rw [List.range_succ, List.filter_append]
  congr 1
  cases h : (f n).isSome <;> simp [h]
theorem heldL_zero (f : Nat → Option Int) : heldL f 0 = [] := rfl
theorem heldL_gap (f : Nat → Option Int) (a : Nat) : ∀ d : Nat, (∀ c, a ≤ c → c < a + d → f c = none) → heldL f (a + d) = heldL f a
  | 0, _ => rfl
  | d + 1, h => by
    rw [show a + (d + 1) = (a + d) + 1 by omega, heldL_succ, h (a + d) (by omega) (by omega), heldL_gap f a d (fun c h1 h2 => h c h1 (by omega))]
    simp
theorem heldL_same (f : Nat → Option Int) (a b : Nat) (hab : a ≤ b) (h : ∀ c, a ≤ c → c < b → f c = none) : heldL f b = heldL f a := by
  have := heldL_gap f a (b - a) (fun c h1 h2 => h c h1 (by omega))
  rwa [show a + (b - a) = b by omega] at this
theorem heldL_next (f : Nat → Option Int) (a b : Nat) (x : Int) (hab : a ≤ b) (hb : f b = some x) (h : ∀ c, a ≤ c → c < b → f c = none) : heldL f (b + 1) = heldL f a ++ [b] := by
  rw [heldL_succ, hb, heldL_same f a b hab h]
  simp
theorem heldL_pre (f : Nat → Option Int) (a : Nat) : ∀ d : Nat, ∃ t, heldL f (a + d) = heldL f a ++ t
  | 0 => ⟨[], by simp⟩
  | d + 1 => by
    obtain ⟨t, ht⟩ := heldL_pre f a d
    exact ⟨_, by rw [show a + (d + 1) = (a + d) + 1 by omega, heldL_succ, ht, List.append_assoc]⟩
theorem heldL_len (f : Nat → Option Int) (n : Nat) : (heldL f n).length ≤ n := by
  unfold heldL
  have := List.length_filter_le (fun b => (f b).isSome) (List.range n)
  rwa [List.length_range] at this
theorem heldL_cnt (f : Nat → Option Int) : cntF f = (heldL f 256).length := rfl
theorem heldL_mem (f : Nat → Option Int) (n b : Nat) : b ∈ heldL f n ↔ b < n ∧ (f b).isSome = true := by
  unfold heldL; simp
theorem heldL_nodup (f : Nat → Option Int) (n : Nat) : (heldL f n).Nodup := by
  unfold heldL
  exact List.Pairwise.filter _ List.nodup_range

/-- without some -/
def remF (f : Nat → Option Int) (l : List Nat) : Nat → Option Int := fun b => if b ∈ l then none else f b

theorem remF_nil (f : Nat → Option Int) : remF f [] = f := by funext b; simp [remF]
theorem remF_step (f : Nat → Option Int) (L : List Nat) (i b : Nat) (hb : L[i]? = some b) : updF (remF f (L.take i)) b none = remF f (L.take (i + 1)) := by
  funext c
  unfold updF remF
  rw [List.take_add_one, hb]
  by_cases e : c = b
  · subst e; simp
  · rw [if_neg e]
    simp [e]
theorem remF_has (f : Nat → Option Int) (L : List Nat) (i b : Nat) (hn : L.Nodup) (hb : L[i]? = some b) (hf : (f b).isSome = true) : (remF f (L.take i) b).isSome = true := by
  have hnot : b ∉ L.take i := fun hm => by
    obtain ⟨j, hj⟩ := List.getElem?_of_mem hm
    have hji : j < i := by
      have := (List.getElem?_eq_some_iff.1 hj).1
      simp at this; omega
    rw [List.getElem?_take_of_lt hji] at hj
    have hil := (List.getElem?_eq_some_iff.1 hb).1
    have := (List.getElem?_inj (by have := (List.getElem?_eq_some_iff.1 hj).1; exact this) hn).1 (hj.trans hb.symm)
    omega
  unfold remF
  rw [if_neg hnot]; exact hf
theorem cntF_none (f : Nat → Option Int) (h : ∀ b, b < 256 → f b = none) : cntF f = 0 := by
  unfold cntF
  rw [List.length_eq_zero_iff, List.filter_eq_nil_iff]
  intro b hb
  rw [h b (List.mem_range.1 hb)]; simp
theorem remF_all (f : Nat → Option Int) : cntF (remF f (heldL f 256)) = 0 := by
  refine cntF_none _ (fun b hb => ?_)
  unfold remF
  by_cases h : b ∈ heldL f 256
  · rw [if_pos h]
  · rw [if_neg h]
    cases hf : f b with
    | none => rfl
    | some x => exact absurd ((heldL_mem f 256 b).2 ⟨hb, by rw [hf]; rfl⟩) h

/-- a byte as a value -/
def bv (b : Nat) : Value := .int .u8 (b : Int)

theorem info5 : (Try.prog.info? 5).map (fun i => (i.zero, i.size, i.bytes)) = some (some (.int .u8 0), 1, 1) := by kernel_rfl

theorem wpList_append_one {w0 : World} {ops : Array Oper} {rest : List Oper} {o : Oper} {a : Act} {Q : Exit → Act → World → Prop} (hgd : o.guard = none) (s x : Operand)
    (ho : o.op = .call { callee := .builtin .append, args := #[s, x], argTypes := #[109, 109] })
    (b base : Nat) (p : Option Addr) (k cap : Nat) (l : List Nat) (hs : a.eval s = .slice p k cap) (hx : a.eval x = .slice (some ⟨w0.heap.size, 0, none⟩) 1 1)
    (hown : w0.ownsRow base 5 1 (.slice p k cap) k (l.map bv)) (hk : k ≤ 256) (hbase : base ≤ w0.heap.size)
    (h : ∀ p' cap' w', w'.ownsRow base 5 1 (.slice p' (k + 1) cap') (k + 1) ((l ++ [b]).map bv) → Below base w0 w' →
      wpList Try.prog ops Q rest (a.put o.dst (.slice p' (k + 1) cap')) w') : wpList Try.prog ops Q (o :: rest) a (w0.alloc (.cells #[.int .u8 b] 5)) := by
  obtain ⟨i0, hi, hz0, hz1, hz2⟩ := info_parts info5
  have hownA : (w0.alloc (.cells #[.int .u8 (b : Int)] 5)).ownsRow base 5 1 (.slice p k cap) k (l.map bv) := hown.alloc _
  refine wpList_append_lies _ hgd s x 109 ho base 5 i0 (.int .u8 0) 1 1 Try.underlying109 hi hz0 hz1 hz2 rfl (by decide) _ k _ hs hownA ⟨w0.heap.size, 0, none⟩ 1 1 [.int .u8 b] hx rfl (World.news_of_block (heap_alloc_new w0 _)) (by intro z hz; rcases List.mem_cons.1 hz with rfl | hz; rfl; cases hz) (by decide) (by unfold maxLen; omega) (by omega) (by rw [World.size_alloc]; omega) _ rfl ?_
  intro bx cap2 w2 hown2 hgrow _ _
  refine h _ _ w2 ?_ ?_
  · rw [List.map_append]; exact hown2
  · exact ((Below.refl base w0).alloc (o := .cells #[.int .u8 (b : Int)] 5) hbase).grown hgrow (by rw [World.size_alloc]; omega) (fun k hk => (own_lt hownA k hk).1)

theorem own_drewN {w : World} {base : Nat} {e : TypeId} {size : Nat} {v : Value} {n : Nat} {xs : List Value} (h : w.ownsRow base e size v n xs) (z : Nat) : (w.drewN z).ownsRow base e size v n xs := own_block h (fun _ _ => rfl)

theorem own_cell {w : World} {base : Nat} {p : Option Addr} {n cap : Nat} {l : List Nat} (h : w.ownsRow base 5 1 (.slice p n cap) n (l.map bv)) (i b : Nat) (hb : l[i]? = some b) :
    ∃ blk, p = some ⟨blk, 0, none⟩ ∧ i < n ∧ n ≤ cap ∧ w.cell? ⟨blk, i, none⟩ = some (.int .u8 b) := by
  have hl := h.1
  have hi := (List.getElem?_eq_some_iff.1 hb).1
  rw [List.length_map] at hl
  rcases h.2 with ⟨e, e2⟩ | ⟨g, cap', cur, e, _, _, hc, _⟩
  · omega
  · cases e
    refine ⟨g, rfl, by omega, hc, ?_⟩
    rw [h.cellAt i (by omega), List.getElem?_map, hb]
    rfl
theorem own_len {w : World} {base : Nat} {p : Option Addr} {n cap : Nat} {l : List Nat} (h : w.ownsRow base 5 1 (.slice p n cap) n (l.map bv)) : n = l.length := by
  have := h.1
  rw [List.length_map] at this; omega
theorem own_fits {w : World} {base : Nat} {p : Option Addr} {n cap : Nat} {l : List Nat} (h : w.ownsRow base 5 1 (.slice p n cap) n (l.map bv)) : ∀ g, (Value.slice p n cap).ownBlock = some g → base ≤ g := fun g hg => (own_lt h g hg).1

theorem rev_at (L : List Nat) (i b : Nat) (hb : L[i]? = some b) : L.reverse[L.length - 1 - i]? = some b := by
  have hi := (List.getElem?_eq_some_iff.1 hb).1
  rw [List.getElem?_reverse (by omega), show L.length - 1 - (L.length - 1 - i) = i by omega]
  exact hb

end Go.Proofs.Ythohpeinmkdfeaa
