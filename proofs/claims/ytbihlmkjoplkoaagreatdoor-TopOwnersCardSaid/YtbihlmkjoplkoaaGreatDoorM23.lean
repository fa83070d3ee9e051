/-
  For the statement TopOwners: A region that draws its order and ends in a forced tail: the head may come in any order, the tail is then a plain list.
-/
import Derived.Test.YtbihlmkjoplkoaaGreatDoorM22
import Derived.Deep.QuietTactic
import Derived.StillTail
import Derived.Deep.RegionHeld3
namespace Go.Proofs.YtbihlmkjoplkoaaGreatDoor
open Go.RowKit
set_option linter.unusedVariables false

section
variable {P : Program} {Q : Exit → Act → World → Prop} {l : List Oper} {n : Nat}

/-- what the head leaves is handed to the tail -/
def headPost (Q : Exit → Act → World → Prop) (K : Act → World → Prop) : Exit → Act → World → Prop
  | .normal, a, w => K a w
  | .outgrown, a, w => Q .outgrown a w
  | _, _, _ => False

/-- every operation of the head waits for earlier ones alone, and none is guarded -/
def headB (l : List Oper) (n : Nat) : Bool :=
  (List.range n).all fun i => match l[i]? with
    | some o => o.guard.isNone && o.after.all fun e => !Region.binds .any e || decide (e.on < i)
    | none => false

theorem headB_spec (h : headB l n = true) {i : Nat} (hi : i < n) : ∃ o, l[i]? = some o ∧ o.guard = none ∧ ∀ e ∈ o.after, Region.binds .any e = true → e.on < i := by
  have h1 := List.all_eq_true.1 h i (List.mem_range.2 hi)
  revert h1
  cases ho : l[i]? with
  | none => simp
  | some o =>
    intro h1
    simp only [Bool.and_eq_true] at h1
    refine ⟨o, rfl, by simpa using h1.1, fun e he hb => ?_⟩
    have := Array.all_eq_true_iff_forall_mem.1 h1.2 e he
    simpa [hb] using this

theorem wp_head {o : Oper} {a : Act} {w : World} {K' : Act → World → Prop} {K K2 : Act → World → Prop} (h : ∀ a w, K a w → K' a w) (hh : o.wp P a w K (headPost Q K2)) : o.wp P a w K' Q := by
  unfold Oper.wp at *
  generalize (execOp a.eval o).run P w = r at *
  cases r with
  | ok m w' =>
    cases m <;> simp only [Oper.upon] at hh ⊢ <;>
      first
        | exact h _ _ hh
        | exact Calls.mono hh (fun e w'' he => by cases e <;> first | exact h _ _ he | exact he | exact False.elim he)
        | exact Rows.mono hh (fun _ _ he => h _ _ he)
  | halt x w' => cases x <;> simp only [Oper.upon] at hh ⊢ <;> first | exact hh | exact False.elim hh

theorem wpAny_more {md : Region.Mode} {ops : Array Oper} : ∀ (f : Nat) (listed : Array Bool) (a : Act) (w : World), wpAny P md ops Q f listed a w → wpAny P md ops Q (f + 1) listed a w
  | 0, listed, a, w, h => ⟨fun _ => h.2, by rw [h.1]; intro i hi; cases hi⟩
  | f + 1, listed, a, w, h => ⟨h.1, fun i hi => wpOp_mono (fun a' w' h' => wpAny_more f _ a' w' h') (h.2 i hi)⟩
theorem wpAny_mores {md : Region.Mode} {ops : Array Oper} {f : Nat} {listed : Array Bool} {a : Act} {w : World} (h : wpAny P md ops Q f listed a w) : ∀ k, wpAny P md ops Q (k + f) listed a w
  | 0 => by rw [Nat.zero_add]; exact h
  | k + 1 => by rw [Nat.add_right_comm]; exact wpAny_more _ _ _ _ (wpAny_mores h k)

theorem ready_least (hB : headB l n = true) (hn : n < l.length) {listed : Array Bool} (hz : listed.size = l.length) : ∀ i, i < n → listed.getD i true = false → ∃ j, j < n ∧ j ∈ Region.ready .any l.toArray listed := by
  intro i
  induction i using Nat.strongRecOn with
  | _ i ih =>
    intro hi hun
    obtain ⟨o, ho, _, hall⟩ := headB_spec hB hi
    by_cases hx : ∃ k, k < i ∧ listed.getD k true = false
    · obtain ⟨k, hk, hku⟩ := hx
      exact ih k hk (by omega) hku
    · refine ⟨i, hi, mem_ready.2 ⟨hun, o, by simpa using ho, fun e he hb => ?_⟩⟩
      have hlt := hall e he hb
      cases hl : listed.getD e.on false with
      | true => rfl
      | false => exact absurd ⟨e.on, hlt, getD_in (by omega) hl⟩ hx

theorem ready_head (hB : headB l n = true) {listed listedH : Array Bool} (hz : listedH.size = n) (hag : ∀ j, j < n → listed.getD j true = listedH.getD j true) {j : Nat} (hj : j < n)
    (hr : j ∈ Region.ready .any l.toArray listed) : j ∈ Region.ready .any (l.take n).toArray listedH := by
  obtain ⟨hun, o, ho, hall⟩ := mem_ready.1 hr
  obtain ⟨o', ho', _, hlt⟩ := headB_spec hB hj
  have ho1 : l[j]? = some o := by simpa using ho
  have : o = o' := Option.some.inj (ho1.symm.trans ho')
  subst this
  refine mem_ready.2 ⟨(hag j hj).symm.trans hun, o, by simp [hj, ho1], fun e he hb => ?_⟩
  have h1 := hall e he hb
  have h2 := hlt e he hb
  have h3 := hag e.on (by omega)
  cases hl : listedH.getD e.on false with
  | true => rfl
  | false =>
    rw [getD_in (by omega) hl] at h3
    rw [getD_both h3] at h1
    cases h1

/-- once the head is done the tail follows -/
theorem wpAny_rest {K : Act → World → Prop} (hn : n < l.length)
    (hseq : Region.seqB .any l.toArray (l.length - n) n (Array.replicate n true ++ Array.replicate (l.length - n) false) = true)
    (hK : ∀ a w, K a w → wpList P l.toArray Q (l.drop n) a w) (f : Nat) (listed : Array Bool) (a : Act) (w : World) (inv : HeadInv .any l.toArray n listed)
    (hall : ∀ i, i < n → listed.getD i true = true) (h : K a w) : wpAny P .any l.toArray Q (f + (l.length - n)) listed a w := by
  have hz : listed.size = l.length := by simpa using inv.size
  have e : listed = Array.replicate n true ++ Array.replicate (l.length - n) false := by
    apply Array.ext
    · simp [hz]; omega
    · intro j h1 h2
      by_cases hj : j < n
      · have := hall j hj
        simp [h1] at this
        rw [Array.getElem_append_left (by simpa using hj)]
        simp [this]
      · have := inv.tail j (by omega) (by simpa [hz] using h1)
        simp [h1] at this
        rw [Array.getElem_append_right (by simp; omega)]
        simp [this]
  rw [e]
  have hd : (l.drop n).length = l.length - n := by simp
  have := wpAny_of_seq (P := P) (md := .any) (Q' := Q) (ops := l.toArray) (l.drop n) n _ a w (fun j => by simp [List.getElem?_drop]) (by rw [hd]; exact hseq) (hK _ _ h)
  rw [hd] at this
  exact wpAny_mores this f

theorem wpAny_sim {K : Act → World → Prop} (hs : Region.sinkB .any l.toArray n = true) (hc : Region.chainB .any l.toArray n = true) (hn : n < l.length) (hB : headB l n = true)
    (hseq : Region.seqB .any l.toArray (l.length - n) n (Array.replicate n true ++ Array.replicate (l.length - n) false) = true)
    (hK : ∀ a w, K a w → wpList P l.toArray Q (l.drop n) a w) :
    ∀ (f : Nat) (listed listedH : Array Bool) (a : Act) (w : World), HeadInv .any l.toArray n listed → listedH.size = n → (∀ j, j < n → listed.getD j true = listedH.getD j true) →
      wpAny P .any (l.take n).toArray (headPost Q K) f listedH a w → wpAny P .any l.toArray Q (f + (l.length - n)) listed a w := by
  intro f
  induction f with
  | zero =>
    intro listed listedH a w inv hz hag h
    have hzl : listed.size = l.length := by simpa using inv.size
    by_cases hx : ∃ i, i < n ∧ listed.getD i true = false
    · obtain ⟨i, hi, hun⟩ := hx
      obtain ⟨j, hj, hr⟩ := ready_least hB hn hzl i hi hun
      have := ready_head hB hz hag hj hr
      rw [h.1] at this
      cases this
    · exact wpAny_rest hn hseq hK 0 listed a w inv (fun i hi => by cases hl : listed.getD i true with | true => rfl | false => exact absurd ⟨i, hi, hl⟩ hx) h.2
  | succ f ih =>
    intro listed listedH a w inv hz hag h
    have hzl : listed.size = l.length := by simpa using inv.size
    by_cases hx : ∃ i, i < n ∧ listed.getD i true = false
    · obtain ⟨i, hi, hun⟩ := hx
      obtain ⟨j, hj, hr⟩ := ready_least hB hn hzl i hi hun
      rw [show f + 1 + (l.length - n) = (f + (l.length - n)) + 1 by omega]
      refine ⟨fun h0 => (by rw [h0] at hr; cases hr), fun k hk => ?_⟩
      have hkn : k < n := by
        rcases Nat.lt_or_ge k n with hh | hh
        · exact hh
        · exact absurd hk (tail_waits hs hc (by simpa using hn) inv _ i rfl hi hun k hh)
      have h1 := h.2 k (ready_head hB hz hag hkn hk)
      obtain ⟨o, ho, hg, _⟩ := headB_spec hB hkn
      have ho1 : l.toArray[k]? = some o := by simpa using ho
      have ho2 : (l.take n).toArray[k]? = some o := by simp [hkn, ho]
      unfold wpOp at h1 ⊢
      simp only [ho1, ho2] at h1 ⊢
      have w1 : ∀ y, Region.wanted o y = true := fun y => by simp [Region.wanted, hg]
      simp only [w1, if_true] at h1 ⊢
      refine h1.imp (wp_head fun a' w' h' => ih _ _ a' w' (inv.set hk hkn) (by simpa using hz) (fun t ht => ?_) h') id
      by_cases hkt : k = t
      · subst hkt
        simp [hzl, hz, hkn, Nat.lt_trans hkn hn]
      · rw [getD_set_ne true hkt, getD_set_ne true hkt]; exact hag t ht
    · have hno : Region.ready .any (l.take n).toArray listedH = [] := by
        cases hr : Region.ready .any (l.take n).toArray listedH with
        | nil => rfl
        | cons k t =>
          have hk : k ∈ Region.ready .any (l.take n).toArray listedH := by rw [hr]; exact List.mem_cons_self
          obtain ⟨hku, o, ho, _⟩ := mem_ready.1 hk
          have hkn : k < n := by
            have := (Array.getElem?_eq_some_iff.1 ho).1
            simp at this; omega
          exact absurd ⟨k, hkn, (hag k hkn).trans hku⟩ hx
      exact wpAny_rest hn hseq hK (f + 1) listed a w inv (fun i hi => by cases hl : listed.getD i true with | true => rfl | false => exact absurd ⟨i, hi, hl⟩ hx) (h.1 hno)

/-- THE LAW: a region whose last operations come in one forced order: the head in any order, then the tail as a plain list. -/
theorem wp_region_split {id : Nat} {a : Act} {w : World} {K : Act → World → Prop} (n : Nat) (hm : P.follows .mixedOrders = true) (hB : (Region.sinkB .any l.toArray n && Region.chainB .any l.toArray n && decide (n < l.length) && headB l n &&
      Region.seqB .any l.toArray (l.length - n) n (Array.replicate n true ++ Array.replicate (l.length - n) false)) = true)
    (hK : ∀ a w, K a w → wpList P l.toArray Q (l.drop n) a w)
    (h : wpAny P .any (l.take n).toArray (headPost Q K) n (Array.replicate n false) a w.drew) : (Code.region id l.toArray true).wp P Q a w := by
  simp only [Bool.and_eq_true, decide_eq_true_eq] at hB
  obtain ⟨⟨⟨⟨hs, hc⟩, hn⟩, hb⟩, hseq⟩ := hB
  refine wp_region_any hm ?_
  have := wpAny_sim hs hc hn hb hseq hK n (Array.replicate l.toArray.size false) (Array.replicate n false) a w.drew
    ⟨by simp, fun j oj _ hl => (by rw [getD_replicate_false] at hl; cases hl), fun t _ ht => getD_in (by simpa using ht) (getD_replicate_false _ _)⟩ (by simp) (fun j hj => by
      have h1 : j < l.length := by omega
      simp [hj, h1]) h
  rw [show n + (l.length - n) = l.toArray.size by simp; omega] at this
  exact this

/-- a region whose head is quiet in a class of worlds, in any order, and whose last operations come in one forced order -/
theorem wp_region_quiet_tail {id : Nat} {a : Act} {w : World} {C : World → Prop} (n : Nat) (hm : P.follows .mixedOrders = true) (hB : (Region.sinkB .any l.toArray n && Region.chainB .any l.toArray n && decide (n < l.length) && headB l n &&
      Region.seqB .any l.toArray (l.length - n) n (Array.replicate n true ++ Array.replicate (l.length - n) false)) = true)
    (hL : Region.lexB .any (l.take n).toArray = true) (hC : C w.drew)
    (h : wpQuiet P (l.take n).toArray C (fun a' => ∀ w' : World, C w' → wpList P l.toArray Q (l.drop n) a' w') (l.take n) a) : (Code.region id l.toArray true).wp P Q a w := by
  have hn : (l.take n).length = n := by
    simp only [Bool.and_eq_true, decide_eq_true_eq] at hB
    have := hB.1.1.1.2
    simp; omega
  refine wp_region_split n hm hB (K := fun a' w' => wpList P l.toArray Q (l.drop n) a' w') (fun _ _ h => h) ?_
  refine wpAny_of_quiet (C := C) (Q := fun a' => ∀ w' : World, C w' → wpList P l.toArray Q (l.drop n) a' w') (fun _ w' hw' h => h w' hw') _ _ _ _ hC ?_
  simp only [Region.lexB, Bool.and_eq_true] at hL
  have := wpAnyQ_lex (C := C) (md := .any) hL.1 (l.take n) 0 (Array.replicate (l.take n).toArray.size false) a (by simp) (by simpa [hn] using hL.2) h
  simpa [hn] using this

end

end Go.Proofs.YtbihlmkjoplkoaaGreatDoor
