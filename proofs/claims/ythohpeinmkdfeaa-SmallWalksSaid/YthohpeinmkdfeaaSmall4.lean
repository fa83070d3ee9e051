/-
  The small row: what moves up and down in it.
-/
import Derived.Test.YthohpeinmkdfeaaSmall3
import Derived.Laws.CopyRow
import Derived.Laws.IdiomCopy
namespace Go.Proofs.Ythohpeinmkdfeaa
open Go.RowKit
set_option linter.unusedVariables false

/-- cells laid over others -/
def laid (L : List Value) (off : Nat) (cs : List Value) : List Value := L.take off ++ cs ++ L.drop (off + cs.length)

theorem laid_len (L : List Value) (off : Nat) (cs : List Value) (h : off + cs.length ≤ L.length) : (laid L off cs).length = L.length := by
  unfold laid; simp; omega
theorem laid_low (L : List Value) (off : Nat) (cs : List Value) (h : off + cs.length ≤ L.length) (j : Nat) (hj : j < off) : (laid L off cs)[j]? = L[j]? := by
  unfold laid
  rw [List.append_assoc, List.getElem?_append_left (by simp; omega), List.getElem?_take_of_lt hj]
theorem laid_mid (L : List Value) (off : Nat) (cs : List Value) (h : off + cs.length ≤ L.length) (j : Nat) (hj : j < cs.length) : (laid L off cs)[off + j]? = cs[j]? := by
  unfold laid
  have hl : (L.take off).length = off := by simp; omega
  rw [List.append_assoc, List.getElem?_append_right (by omega), hl, show off + j - off = j by omega, List.getElem?_append_left hj]
theorem laid_high (L : List Value) (off : Nat) (cs : List Value) (h : off + cs.length ≤ L.length) (j : Nat) (hj : off + cs.length ≤ j) : (laid L off cs)[j]? = L[j]? := by
  unfold laid
  have hl : (L.take off ++ cs).length = off + cs.length := by simp; omega
  rw [List.getElem?_append_right (by omega), hl, List.getElem?_drop]
  congr 1; omega

theorem step_copy_row {P : Program} {ops : Array Oper} {o : Oper} {a : Act} {w : World} {K : Act → World → Prop} {Q : Exit → Act → World → Prop} {E : Prop} (hgd : o.guard = none) (d s : Operand) (dT sT : TypeId)
    (ho : o.op = .call { callee := .builtin .copy, args := #[d, s], argTypes := #[dT, sT] }) (elem : TypeId) (hu : P.underlying dT = some (.slice elem)) (hsz : (P.info? elem).map (·.size) = some 1)
    (dp : Option Addr) (ad : Addr) (dLen dCap sLen sCap : Nat) (hd : a.eval d = .slice dp dLen dCap) (hs : a.eval s = .slice (some ad) sLen sCap)
    (g off : Nat) (cur : List Value) (t : TypeId) (hg : w.heap[g]? = some (.cells cur.toArray t (0, 0))) (cs : List Value) (hn : cs.length = Nat.min sLen dLen)
    (hpos : 0 < cs.length → dp = some ⟨g, off, none⟩) (hsrc : ∀ j v, cs[j]? = some v → w.cell? (ad.add j) = some v)
    (hfit : off + cs.length ≤ cur.length) (h1 : ∀ v ∈ cs, v.oneCell' = true)
    (h : ∀ w', w'.heap[g]? = some (.cells (laid cur off cs).toArray t (0, 0)) → Exc [g] w w' → K (a.put o.dst (goInt cs.length)) w') :
    if Region.wanted o (yielded ops a.tmps) = true then Oper.wp P o a w K Q else E := by
  have hw : Region.wanted o (yielded ops a.tmps) = true := by simp [Region.wanted, hgd]
  rw [if_pos hw]
  by_cases h0 : cs.length = 0
  · have hrun := run_copy_none (P := P) w dT sT o.type elem dp (some ad) dLen dCap sLen sCap hu hsz (by omega)
    unfold Oper.wp
    simp [execOp, ho, resolve, invoke, builtin, hd, hs, hrun, Result.andThen]
    rw [h0] at h
    refine h w ?_ (Exc.refl _ _)
    obtain rfl : cs = [] := List.eq_nil_of_length_eq_zero h0
    rw [hg]; simp [laid]
  · obtain rfl := hpos (by omega)
    have hrun := run_copy_row (P := P) w dT sT o.type elem g off dLen dCap ad sLen sCap cur.toArray t cs hu hsz hg hn hsrc (by simpa using hfit) h1
    unfold Oper.wp
    simp only [execOp, ho, resolve, invoke, builtin, Sem.run_bind, Sem.run_pure, Result.andThen_ok, List.map_toArray, List.map_cons, List.map_nil, hd, hs, hrun]
    exact h _ (setRow_heap w g _ _ t _ hg) ((Exc.refl _ _).setRow (by simp) _)

/-- moved up by one, from i on -/
def shU {α : Type} (B : Nat → α) (i n : Nat) : Nat → α := fun j => if i < j ∧ j ≤ n then B (j - 1) else B j
/-- moved down by one, onto i -/
def shD {α : Type} (B : Nat → α) (i n : Nat) : Nat → α := fun j => if i ≤ j ∧ j + 1 < n then B (j + 1) else B j

def byteL (B : Nat → Nat) (i m : Nat) : List Value := (List.range m).map fun k => Value.int .u8 (B (i + k))
def thingL (X : Nat → Int) (i m : Nat) : List Value := (List.range m).map fun k => Value.int .i64 (X (i + k))
theorem byteL_len (B : Nat → Nat) (i m : Nat) : (byteL B i m).length = m := by simp [byteL]
theorem thingL_len (X : Nat → Int) (i m : Nat) : (thingL X i m).length = m := by simp [thingL]
theorem byteL_get (B : Nat → Nat) (i m k : Nat) (hk : k < m) : (byteL B i m)[k]? = some (.int .u8 (B (i + k))) := by
  simp [byteL, List.getElem?_map, List.getElem?_range hk]
theorem thingL_get (X : Nat → Int) (i m k : Nat) (hk : k < m) : (thingL X i m)[k]? = some (.int .i64 (X (i + k))) := by
  simp [thingL, List.getElem?_map, List.getElem?_range hk]
theorem byteL_one (B : Nat → Nat) (i m : Nat) : ∀ v ∈ byteL B i m, v.oneCell' = true := by
  intro v hv; simp [byteL] at hv; obtain ⟨k, _, rfl⟩ := hv; rfl
theorem thingL_one (X : Nat → Int) (i m : Nat) : ∀ v ∈ thingL X i m, v.oneCell' = true := by
  intro v hv; simp [thingL] at hv; obtain ⟨k, _, rfl⟩ := hv; rfl

theorem laid_get (L : List Value) (off : Nat) (cs : List Value) (h : off + cs.length ≤ L.length) (j : Nat) : (laid L off cs)[j]? = if off ≤ j ∧ j < off + cs.length then cs[j - off]? else L[j]? := by
  by_cases h1 : off ≤ j ∧ j < off + cs.length
  · rw [if_pos h1]
    have := laid_mid L off cs h (j - off) (by omega)
    rwa [show off + (j - off) = j by omega] at this
  · rw [if_neg h1]
    by_cases h2 : j < off
    · exact laid_low L off cs h j h2
    · exact laid_high L off cs h j (by omega)

theorem laid_row {room : Int} {n : Nat} {B B' : Nat → Nat} {X X' : Nat → Int} {off : Nat} {cs : List Value} (h : off + cs.length ≤ 34) (h0 : 2 ≤ off)
    (hb : ∀ i, i < 16 → (if off ≤ 2 + i ∧ 2 + i < off + cs.length then cs[2 + i - off]? else some (.int .u8 (B i))) = some (.int .u8 (B' i)))
    (hx : ∀ i, i < 16 → (if off ≤ 18 + i ∧ 18 + i < off + cs.length then cs[18 + i - off]? else some (.int .i64 (X i))) = some (.int .i64 (X' i))) :
    laid (rowL room n B X) off cs = rowL room n B' X' := by
  have hl : off + cs.length ≤ (rowL room n B X).length := by rw [rowL_len]; exact h
  refine rowL_ext (by rw [laid_len _ _ _ hl, rowL_len]) ?_ ?_ (fun i hi => ?_) (fun i hi => ?_)
  · rw [laid_get _ _ _ hl, if_neg (by omega)]; rfl
  · rw [laid_get _ _ _ hl, if_neg (by omega)]; rfl
  · rw [laid_get _ _ _ hl, rowL_b _ _ _ _ i hi]; exact hb i hi
  · rw [laid_get _ _ _ hl, rowL_x _ _ _ _ i hi]; exact hx i hi

theorem laid_bU (room : Int) (n i : Nat) (B : Nat → Nat) (X : Nat → Int) (hi : i ≤ n) (hn : n < 16) : laid (rowL room n B X) (2 + (i + 1)) (byteL B i (n - i)) = rowL room n (shU B i n) X := by
  refine laid_row (by rw [byteL_len]; omega) (by omega) (fun j hj => ?_) (fun j hj => ?_)
  · rw [byteL_len]
    unfold shU
    by_cases h : i < j ∧ j ≤ n
    · rw [if_pos (by omega), if_pos h, byteL_get _ _ _ _ (by omega), show i + (2 + j - (2 + (i + 1))) = j - 1 by omega]
    · rw [if_neg (by omega), if_neg h]
  · rw [byteL_len, if_neg (by omega)]
theorem laid_xU (room : Int) (n i : Nat) (B : Nat → Nat) (X : Nat → Int) (hi : i ≤ n) (hn : n < 16) : laid (rowL room n B X) (18 + (i + 1)) (thingL X i (n - i)) = rowL room n B (shU X i n) := by
  refine laid_row (by rw [thingL_len]; omega) (by omega) (fun j hj => ?_) (fun j hj => ?_)
  · rw [thingL_len, if_neg (by omega)]
  · rw [thingL_len]
    unfold shU
    by_cases h : i < j ∧ j ≤ n
    · rw [if_pos (by omega), if_pos h, thingL_get _ _ _ _ (by omega), show i + (18 + j - (18 + (i + 1))) = j - 1 by omega]
    · rw [if_neg (by omega), if_neg h]
theorem laid_bD (room : Int) (n i : Nat) (B : Nat → Nat) (X : Nat → Int) (hi : i < n) (hn : n ≤ 16) : laid (rowL room n B X) (2 + i) (byteL B (i + 1) (n - (i + 1))) = rowL room n (shD B i n) X := by
  refine laid_row (by rw [byteL_len]; omega) (by omega) (fun j hj => ?_) (fun j hj => ?_)
  · rw [byteL_len]
    unfold shD
    by_cases h : i ≤ j ∧ j + 1 < n
    · rw [if_pos (by omega), if_pos h, byteL_get _ _ _ _ (by omega), show i + 1 + (2 + j - (2 + i)) = j + 1 by omega]
    · rw [if_neg (by omega), if_neg h]
  · rw [byteL_len, if_neg (by omega)]
theorem laid_xD (room : Int) (n i : Nat) (B : Nat → Nat) (X : Nat → Int) (hi : i < n) (hn : n ≤ 16) : laid (rowL room n B X) (18 + i) (thingL X (i + 1) (n - (i + 1))) = rowL room n B (shD X i n) := by
  refine laid_row (by rw [thingL_len]; omega) (by omega) (fun j hj => ?_) (fun j hj => ?_)
  · rw [thingL_len, if_neg (by omega)]
  · rw [thingL_len]
    unfold shD
    by_cases h : i ≤ j ∧ j + 1 < n
    · rw [if_pos (by omega), if_pos h, thingL_get _ _ _ _ (by omega), show i + 1 + (18 + j - (18 + i)) = j + 1 by omega]
    · rw [if_neg (by omega), if_neg h]

end Go.Proofs.Ythohpeinmkdfeaa
