/-
  For the statement TopOwners: The small row: what moves up and down in it; The small row: what is held behind a thing laid, put in, taken out.
-/
import Derived.Test.YtbihlmkjoplkoaaGreatDoorM06
import Derived.Laws.CopyRow
import Derived.Laws.IdiomCopy
/-
  The small row: what moves up and down in it.
-/
namespace Go.Proofs.YtbihlmkjoplkoaaGreatDoor
open Go.RowKit
set_option linter.unusedVariables false

/-- cells laid over others -/
def laid (L : List Value) (off : Nat) (cs : List Value) : List Value := L.take off ++ cs ++ L.drop (off + cs.length)

theorem laid_len (L : List Value) (off : Nat) (cs : List Value) (h : off + cs.length ≤ L.length) : (laid L off cs).length = L.length := by
  unfold laid; simp; omega
theorem laid_low (L : List Value) (off : Nat) (cs : List Value) (h : off + cs.length ≤ L.length) (j : Nat) (hj : j < off) : (laid L off cs)[j]? = L[j]? := by
  unfold laid
  rw [List.append_assoc, List.getElem?_append_left (by simp; omega), List.getElem?_take_of_lt hj]
theorem laid_mid (L : List Value) (off : Nat) (cs : List Value) (h : off + cs.length ≤ L.length) (j : Nat) (hj : j < cs.length) : (laid L off cs)[off + j]? = cs[j]? := by
  unfold laid
  have hl : (L.take off).length = off := by simp; omega
  rw [List.append_assoc, List.getElem?_append_right (by omega), hl, show off + j - off = j by omega, List.getElem?_append_left hj]
theorem laid_high (L : List Value) (off : Nat) (cs : List Value) (h : off + cs.length ≤ L.length) (j : Nat) (hj : off + cs.length ≤ j) : (laid L off cs)[j]? = L[j]? := by
  unfold laid
  have hl : (L.take off ++ cs).length = off + cs.length := by simp; omega
  rw [List.getElem?_append_right (by omega), hl, List.getElem?_drop]
  congr 1; omega

theorem step_copy_row {P : Program} {ops : Array Oper} {o : Oper} {a : Act} {w : World} {K : Act → World → Prop} {Q : Exit → Act → World → Prop} {E : Prop} (hgd : o.guard = none) (d s : Operand) (dT sT : TypeId)
    (ho : o.op = .call { callee := .builtin .copy, args := #[d, s], argTypes := #[dT, sT] }) (elem : TypeId) (hu : P.underlying dT = some (.slice elem)) (hsz : (P.info? elem).map (·.size) = some 1)
    (dp : Option Addr) (ad : Addr) (dLen dCap sLen sCap : Nat) (hd : a.eval d = .slice dp dLen dCap) (hs : a.eval s = .slice (some ad) sLen sCap)
    (g off : Nat) (cur : List Value) (t : TypeId) (hg : w.heap[g]? = some (.cells cur.toArray t (0, 0))) (cs : List Value) (hn : cs.length = Nat.min sLen dLen)
    (hpos : 0 < cs.length → dp = some ⟨g, off, none⟩) (hsrc : ∀ j v, cs[j]? = some v → w.cell? (ad.add j) = some v)
    (hfit : off + cs.length ≤ cur.length) (h1 : ∀ v ∈ cs, v.oneCell' = true)
    (h : ∀ w', w'.heap[g]? = some (.cells (laid cur off cs).toArray t (0, 0)) → Exc [g] w w' → K (a.put o.dst (goInt cs.length)) w') :
    if Region.wanted o (yielded ops a.tmps) = true then Oper.wp P o a w K Q else E := by
  have hw : Region.wanted o (yielded ops a.tmps) = true := by simp [Region.wanted, hgd]
  rw [if_pos hw]
  by_cases h0 : cs.length = 0
  · have hrun := run_copy_none (P := P) w dT sT o.type elem dp (some ad) dLen dCap sLen sCap hu hsz (by omega)
    unfold Oper.wp
    simp [execOp, ho, resolve, invoke, builtin, hd, hs, hrun, Result.andThen]
    rw [h0] at h
    refine h w ?_ (Exc.refl _ _)
    obtain rfl : cs = [] := List.eq_nil_of_length_eq_zero h0
    rw [hg]; simp [laid]
  · obtain rfl := hpos (by omega)
    have hrun := run_copy_row (P := P) w dT sT o.type elem g off dLen dCap ad sLen sCap cur.toArray t cs hu hsz hg hn hsrc (by simpa using hfit) h1
    unfold Oper.wp
    simp only [execOp, ho, resolve, invoke, builtin, Sem.run_bind, Sem.run_pure, Result.andThen_ok, List.map_toArray, List.map_cons, List.map_nil, hd, hs, hrun]
    exact h _ (setRow_heap w g _ _ t _ hg) ((Exc.refl _ _).setRow (by simp) _)

/-- moved up by one, from i on -/
def shU {α : Type} (B : Nat → α) (i n : Nat) : Nat → α := fun j => if i < j ∧ j ≤ n then B (j - 1) else B j
/-- moved down by one, onto i -/
def shD {α : Type} (B : Nat → α) (i n : Nat) : Nat → α := fun j => if i ≤ j ∧ j + 1 < n then B (j + 1) else B j

def byteL (B : Nat → Nat) (i m : Nat) : List Value := (List.range m).map fun k => Value.int .u8 (B (i + k))
def thingL (X : Nat → Th) (i m : Nat) : List Value := (List.range m).map fun k => Value.pointer (X (i + k))
theorem byteL_len (B : Nat → Nat) (i m : Nat) : (byteL B i m).length = m := by simp [byteL]
theorem thingL_len (X : Nat → Th) (i m : Nat) : (thingL X i m).length = m := by simp [thingL]
theorem byteL_get (B : Nat → Nat) (i m k : Nat) (hk : k < m) : (byteL B i m)[k]? = some (.int .u8 (B (i + k))) := by
  simp [byteL, List.getElem?_map, List.getElem?_range hk]
theorem thingL_get (X : Nat → Th) (i m k : Nat) (hk : k < m) : (thingL X i m)[k]? = some (.pointer (X (i + k))) := by
  simp [thingL, List.getElem?_map, List.getElem?_range hk]
theorem byteL_one (B : Nat → Nat) (i m : Nat) : ∀ v ∈ byteL B i m, v.oneCell' = true := by
  intro v hv; simp [byteL] at hv; obtain ⟨k, _, rfl⟩ := hv; rfl
theorem thingL_one (X : Nat → Th) (i m : Nat) : ∀ v ∈ thingL X i m, v.oneCell' = true := by
  intro v hv; simp [thingL] at hv; obtain ⟨k, _, rfl⟩ := hv; rfl

theorem laid_get (L : List Value) (off : Nat) (cs : List Value) (h : off + cs.length ≤ L.length) (j : Nat) : (laid L off cs)[j]? = if off ≤ j ∧ j < off + cs.length then cs[j - off]? else L[j]? := by
  by_cases h1 : off ≤ j ∧ j < off + cs.length
  · rw [if_pos h1]
    have := laid_mid L off cs h (j - off) (by omega)
    rwa [show off + (j - off) = j by omega] at this
  · rw [if_neg h1]
    by_cases h2 : j < off
    · exact laid_low L off cs h j h2
    · exact laid_high L off cs h j (by omega)

theorem laid_row {room : Int} {n : Nat} {B B' : Nat → Nat} {X X' : Nat → Th} {off : Nat} {cs : List Value} (h : off + cs.length ≤ 34) (h0 : 2 ≤ off)
    (hb : ∀ i, i < 16 → (if off ≤ 2 + i ∧ 2 + i < off + cs.length then cs[2 + i - off]? else some (.int .u8 (B i))) = some (.int .u8 (B' i)))
    (hx : ∀ i, i < 16 → (if off ≤ 18 + i ∧ 18 + i < off + cs.length then cs[18 + i - off]? else some (.pointer (X i))) = some (.pointer (X' i))) :
    laid (rowL room n B X) off cs = rowL room n B' X' := by
  have hl : off + cs.length ≤ (rowL room n B X).length := by rw [rowL_len]; exact h
  refine rowL_ext (by rw [laid_len _ _ _ hl, rowL_len]) ?_ ?_ (fun i hi => ?_) (fun i hi => ?_)
  · rw [laid_get _ _ _ hl, if_neg (by omega)]; rfl
  · rw [laid_get _ _ _ hl, if_neg (by omega)]; rfl
  · rw [laid_get _ _ _ hl, rowL_b _ _ _ _ i hi]; exact hb i hi
  · rw [laid_get _ _ _ hl, rowL_x _ _ _ _ i hi]; exact hx i hi

theorem laid_bU (room : Int) (n i : Nat) (B : Nat → Nat) (X : Nat → Th) (hi : i ≤ n) (hn : n < 16) : laid (rowL room n B X) (2 + (i + 1)) (byteL B i (n - i)) = rowL room n (shU B i n) X := by
  refine laid_row (by rw [byteL_len]; omega) (by omega) (fun j hj => ?_) (fun j hj => ?_)
  · rw [byteL_len]
    unfold shU
    by_cases h : i < j ∧ j ≤ n
    · rw [if_pos (by omega), if_pos h, byteL_get _ _ _ _ (by omega), show i + (2 + j - (2 + (i + 1))) = j - 1 by omega]
    · rw [if_neg (by omega), if_neg h]
  · rw [byteL_len, if_neg (by omega)]
theorem laid_xU (room : Int) (n i : Nat) (B : Nat → Nat) (X : Nat → Th) (hi : i ≤ n) (hn : n < 16) : laid (rowL room n B X) (18 + (i + 1)) (thingL X i (n - i)) = rowL room n B (shU X i n) := by
  refine laid_row (by rw [thingL_len]; omega) (by omega) (fun j hj => ?_) (fun j hj => ?_)
  · rw [thingL_len, if_neg (by omega)]
  · rw [thingL_len]
    unfold shU
    by_cases h : i < j ∧ j ≤ n
    · rw [if_pos (by omega), if_pos h, thingL_get _ _ _ _ (by omega), show i + (18 + j - (18 + (i + 1))) = j - 1 by omega]
    · rw [if_neg (by omega), if_neg h]
theorem laid_bD (room : Int) (n i : Nat) (B : Nat → Nat) (X : Nat → Th) (hi : i < n) (hn : n ≤ 16) : laid (rowL room n B X) (2 + i) (byteL B (i + 1) (n - (i + 1))) = rowL room n (shD B i n) X := by
  refine laid_row (by rw [byteL_len]; omega) (by omega) (fun j hj => ?_) (fun j hj => ?_)
  · rw [byteL_len]
    unfold shD
    by_cases h : i ≤ j ∧ j + 1 < n
    · rw [if_pos (by omega), if_pos h, byteL_get _ _ _ _ (by omega), show i + 1 + (2 + j - (2 + i)) = j + 1 by omega]
    · rw [if_neg (by omega), if_neg h]
  · rw [byteL_len, if_neg (by omega)]
theorem laid_xD (room : Int) (n i : Nat) (B : Nat → Nat) (X : Nat → Th) (hi : i < n) (hn : n ≤ 16) : laid (rowL room n B X) (18 + i) (thingL X (i + 1) (n - (i + 1))) = rowL room n B (shD X i n) := by
  refine laid_row (by rw [thingL_len]; omega) (by omega) (fun j hj => ?_) (fun j hj => ?_)
  · rw [thingL_len, if_neg (by omega)]
  · rw [thingL_len]
    unfold shD
    by_cases h : i ≤ j ∧ j + 1 < n
    · rw [if_pos (by omega), if_pos h, thingL_get _ _ _ _ (by omega), show i + 1 + (18 + j - (18 + i)) = j + 1 by omega]
    · rw [if_neg (by omega), if_neg h]

end Go.Proofs.YtbihlmkjoplkoaaGreatDoor
/-
  The small row: what is held behind a thing laid, put in, taken out.
-/
namespace Go.Proofs.YtbihlmkjoplkoaaGreatDoor
open Go.RowKit
set_option linter.unusedVariables false

theorem cntH_upd (f : Nat → Option Th) (b : Nat) (v : Option Th) : ∀ n : Nat, (cntH (fun c => (updF f b v c).isSome) n : Int) = (cntH (fun c => (f c).isSome) n : Int) + (if b < n then (if v.isSome then 1 else 0) - (if (f b).isSome then 1 else 0) else 0)
  | 0 => by simp [cntH]
  | n + 1 => by
    rw [cntH_succ, cntH_succ]
    have ih := cntH_upd f b v n
    generalize cntH (fun c => (updF f b v c).isSome) n = A at ih ⊢
    generalize cntH (fun c => (f c).isSome) n = C at ih ⊢
    by_cases h1 : n = b
    · subst h1
      have e : updF f n v n = v := by unfold updF; rw [if_pos rfl]
      rw [if_neg (show ¬ n < n by omega)] at ih
      simp only [e]
      rw [if_pos (show n < n + 1 by omega)]
      generalize v.isSome = p
      generalize (f n).isSome = q
      cases p <;> cases q <;> simp <;> omega
    · have e : updF f b v n = f n := by unfold updF; rw [if_neg h1]
      simp only [e]
      generalize (f n).isSome = q
      by_cases h2 : b < n
      · rw [if_pos h2] at ih
        rw [if_pos (show b < n + 1 by omega)]
        cases q <;> simp <;> omega
      · rw [if_neg h2] at ih
        rw [if_neg (show ¬ b < n + 1 by omega)]
        cases q <;> simp <;> omega

theorem cntF_upd (f : Nat → Option Th) (b : Nat) (v : Option Th) (hb : b < 256) : (cntF (updF f b v) : Int) = (cntF f : Int) + ((if v.isSome then 1 else 0) - (if (f b).isSome then 1 else 0)) := by
  have h := cntH_upd f b v 256
  rw [if_pos hb] at h
  exact h

theorem updF_ne (f : Nat → Option Th) (b c : Nat) (v : Option Th) (h : c ≠ b) : updF f b v c = f c := by unfold updF; rw [if_neg h]
theorem updF_at (f : Nat → Option Th) (b : Nat) (v : Option Th) : updF f b v b = v := by unfold updF; rw [if_pos rfl]

theorem Srt.inj {n : Nat} {B : Nat → Nat} (h : Srt n B) (i j : Nat) (hi : i < n) (hj : j < n) (e : B i = B j) : i = j := by
  rcases Nat.lt_trichotomy i j with h1 | h1 | h1
  · have := h.rise i j h1 hj; omega
  · exact h1
  · have := h.rise j i h1 hi; omega

theorem SmP.lay {room n b i : Nat} {B : Nat → Nat} {X : Nat → Th} {f : Nat → Option Th} (h : SmP room n B X f) (ha : AtP n B b i true) (x : Th) : SmP room n B (updX X i x) (updF f b (some x)) := by
  obtain ⟨hi, rfl⟩ := ha.is.1 rfl
  have hs := h.srt.small i hi
  refine ⟨h.srt, h.room1, h.room16, h.le, fun k hk => ?_, fun c hc hn => ?_, ?_⟩
  · unfold updX
    by_cases e : k = i
    · subst e; rw [if_pos rfl, updF_at]
    · rw [if_neg e, updF_ne _ _ _ _ (fun q => e (h.srt.inj k i hk hi q))]; exact h.hit k hk
  · rw [updF_ne _ _ _ _ (fun q => hn i hi q.symm)]; exact h.miss c hc hn
  · have h1 := cntF_upd f (B i) (some x) hs
    have h2 := h.cnt
    rw [h.hit i hi] at h1
    simp at h1; omega

theorem SmP.ins {room n b i : Nat} {B : Nat → Nat} {X : Nat → Th} {f : Nat → Option Th} (h : SmP room n B X f) (hb : b < 256) (ha : AtP n B b i false) (hn : n < room) (x : Th) :
    SmP room (n + 1) (updB (shU B i n) i b) (updX (shU X i n) i x) (updF f b (some x)) := by
  have hno := ha.no h.srt
  have hle := ha.le
  have eB : ∀ k, updB (shU B i n) i b k = if k = i then b else if i < k ∧ k ≤ n then B (k - 1) else B k := fun k => rfl
  have eX : ∀ k, updX (shU X i n) i x k = if k = i then x else if i < k ∧ k ≤ n then X (k - 1) else X k := fun k => rfl
  refine ⟨⟨fun k hk => ?_, fun j k hjk hk => ?_⟩, h.room1, h.room16, by omega, fun k hk => ?_, fun c hc hm => ?_, ?_⟩
  · rw [eB]
    by_cases e : k = i
    · rw [if_pos e]; exact hb
    · rw [if_neg e]
      by_cases e2 : i < k ∧ k ≤ n
      · rw [if_pos e2]; exact h.srt.small _ (by omega)
      · rw [if_neg e2]; exact h.srt.small _ (by omega)
  · rw [eB, eB]
    by_cases e : k = i
    · rw [if_pos e, if_neg (by omega), if_neg (by omega)]
      exact ha.low j (by omega)
    · rw [if_neg e]
      by_cases e2 : j = i
      · rw [if_pos e2, if_pos (by omega)]
        have h1 := ha.high (k - 1) (by omega) (by omega)
        have h2 := hno (k - 1) (by omega)
        omega
      · rw [if_neg e2]
        by_cases e3 : i < k ∧ k ≤ n
        · rw [if_pos e3]
          by_cases e4 : i < j ∧ j ≤ n
          · rw [if_pos e4]; exact h.srt.rise _ _ (by omega) (by omega)
          · rw [if_neg e4]; exact h.srt.rise _ _ (by omega) (by omega)
        · rw [if_neg e3, if_neg (by omega)]; exact h.srt.rise _ _ hjk (by omega)
  · rw [eB, eX]
    by_cases e : k = i
    · rw [if_pos e, if_pos e, updF_at]
    · rw [if_neg e, if_neg e]
      by_cases e2 : i < k ∧ k ≤ n
      · rw [if_pos e2, if_pos e2, updF_ne _ _ _ _ (hno _ (by omega))]; exact h.hit _ (by omega)
      · rw [if_neg e2, if_neg e2, updF_ne _ _ _ _ (hno _ (by omega))]; exact h.hit _ (by omega)
  · have hcb : c ≠ b := fun e => by
      have := hm i (by omega)
      rw [eB, if_pos rfl] at this
      exact this e.symm
    rw [updF_ne _ _ _ _ hcb]
    refine h.miss c hc (fun k hk e => ?_)
    by_cases hki : k < i
    · have := hm k (by omega)
      rw [eB, if_neg (by omega), if_neg (by omega)] at this
      exact this e
    · have := hm (k + 1) (by omega)
      rw [eB, if_neg (by omega), if_pos (by omega), show k + 1 - 1 = k by omega] at this
      exact this e
  · have h1 := cntF_upd f b (some x) hb
    have h2 := h.cnt
    rw [h.miss b hb hno] at h1
    simp at h1; omega

theorem SmP.del {room n b i : Nat} {B : Nat → Nat} {X : Nat → Th} {f : Nat → Option Th} (h : SmP room n B X f) (ha : AtP n B b i true) :
    SmP room (n - 1) (updB (shD B i n) (n - 1) 0) (updX (shD X i n) (n - 1) none) (updF f b none) := by
  obtain ⟨hi, rfl⟩ := ha.is.1 rfl
  have hs := h.srt.small i hi
  have hle := h.le
  have eB : ∀ k, k < n - 1 → updB (shD B i n) (n - 1) 0 k = if i ≤ k then B (k + 1) else B k := fun k hk => by
    show (if k = n - 1 then 0 else if i ≤ k ∧ k + 1 < n then B (k + 1) else B k) = _
    rw [if_neg (by omega)]
    by_cases e : i ≤ k
    · rw [if_pos ⟨e, by omega⟩, if_pos e]
    · rw [if_neg (by omega), if_neg e]
  have eX : ∀ k, k < n - 1 → updX (shD X i n) (n - 1) none k = if i ≤ k then X (k + 1) else X k := fun k hk => by
    show (if k = n - 1 then none else if i ≤ k ∧ k + 1 < n then X (k + 1) else X k) = _
    rw [if_neg (by omega)]
    by_cases e : i ≤ k
    · rw [if_pos ⟨e, by omega⟩, if_pos e]
    · rw [if_neg (by omega), if_neg e]
  refine ⟨⟨fun k hk => ?_, fun j k hjk hk => ?_⟩, h.room1, h.room16, by omega, fun k hk => ?_, fun c hc hm => ?_, ?_⟩
  · rw [eB k hk]
    by_cases e : i ≤ k
    · rw [if_pos e]; exact h.srt.small _ (by omega)
    · rw [if_neg e]; exact h.srt.small _ (by omega)
  · rw [eB j (by omega), eB k hk]
    by_cases e : i ≤ k
    · rw [if_pos e]
      by_cases e2 : i ≤ j
      · rw [if_pos e2]; exact h.srt.rise _ _ (by omega) (by omega)
      · rw [if_neg e2]; exact h.srt.rise _ _ (by omega) (by omega)
    · rw [if_neg e, if_neg (by omega)]; exact h.srt.rise _ _ hjk (by omega)
  · rw [eB k hk, eX k hk]
    by_cases e : i ≤ k
    · rw [if_pos e, if_pos e, updF_ne _ _ _ _ (fun q => by have := h.srt.inj _ _ (by omega) hi q; omega)]; exact h.hit _ (by omega)
    · rw [if_neg e, if_neg e, updF_ne _ _ _ _ (fun q => by have := h.srt.inj _ _ (by omega) hi q; omega)]; exact h.hit _ (by omega)
  · by_cases hcb : c = B i
    · rw [hcb, updF_at]
    · rw [updF_ne _ _ _ _ hcb]
      refine h.miss c hc (fun k hk e => ?_)
      by_cases hki : k < i
      · have := hm k (by omega)
        rw [eB k (by omega), if_neg (by omega)] at this
        exact this e
      · by_cases hk2 : k = i
        · subst hk2; exact hcb e.symm
        · have := hm (k - 1) (by omega)
          rw [eB (k - 1) (by omega), if_pos (by omega), show k - 1 + 1 = k by omega] at this
          exact this e
  · have h1 := cntF_upd f (B i) none hs
    have h2 := h.cnt
    rw [h.hit i hi] at h1
    simp at h1; omega

end Go.Proofs.YtbihlmkjoplkoaaGreatDoor
