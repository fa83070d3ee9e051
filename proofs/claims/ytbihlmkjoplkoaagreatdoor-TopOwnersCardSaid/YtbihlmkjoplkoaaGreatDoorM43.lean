/-
  For the statement TopOwners: strings.Builder: copyCheck, WriteString; A tree's shape, as a text, plainly.
-/
import Derived.Test.YtbihlmkjoplkoaaGreatDoorM42
import Derived.Lib.Builder
import Derived.Lib.AppendStr
import Derived.Lib.UnsafeStr
/-
  strings.Builder: copyCheck, WriteString.
-/
namespace Go.Proofs.YtbihlmkjoplkoaaGreatDoor
open Go.RowKit
set_option linter.unusedVariables false

theorem info142 : (Tryz.prog.info? 142).map (·.size) = some 2 := by kernel_rfl

set_option maxHeartbeats 1000000 in
set_option maxRecDepth 100000 in
theorem copyCheck_used (b : Nat) (w : World) (h0 : w.cell? ⟨b, 0, none⟩ = some (.pointer (some ⟨b, 0, none⟩))) :
    Calls Tryz.prog 126 #[.pointer (some ⟨b, 0, none⟩)] w fun e w' => e = .returned (.tuple #[]) ∧ w' = w := by
  obtain ⟨j, hj, _⟩ := Option.map_eq_some_iff.1 info142
  go_enter Tryz.func126, Tryz.ntmps126
  go_wp2_with fail
  rw [Lib.run_neq_ptr_same w _ Tryz.underlying140 hj]
  go_wp2_with fail
  go_end0
  exact ⟨rfl, rfl⟩

set_option maxHeartbeats 1000000 in
set_option maxRecDepth 100000 in
theorem copyCheck_fresh (b : Nat) (w : World) (h0 : w.cell? ⟨b, 0, none⟩ = some (.pointer none)) (hsh : w.shape? b = some (142, 2)) (hfz : w.frozen? ⟨b, 0, none⟩ = false) :
    Calls Tryz.prog 126 #[.pointer (some ⟨b, 0, none⟩)] w fun e w' => e = .returned (.tuple #[]) ∧ w' = w.setCell ⟨b, 0, none⟩ (.pointer (some ⟨b, 0, none⟩)) := by
  obtain ⟨j, hj, hjs⟩ := Option.map_eq_some_iff.1 info142
  have h1 := Lib.run_to_unsafe w ⟨b, 0, none⟩ Tryz.underlying140 Tryz.underlying216 hj (by rw [hjs]; decide) hsh (Nat.zero_lt_succ 1)
  have h2 := Lib.run_from_unsafe w ⟨b, 0, none⟩ Tryz.underlying216 Tryz.underlying140 hj hsh (by kernel_rfl)
  have h3 : (callFunc 146 #[.pointer (some ⟨b, 0, none⟩)]).run Tryz.prog w = .ok (.value (.pointer (some ⟨b, 0, none⟩))) w := by
    rw [run_callFunc_extern Tryz.func146 (by kernel_rfl) (by kernel_rfl) (by kernel_rfl) (e := Extern.AbiNoEscape.same) (by kernel_rfl)]
    rfl
  clear hj hjs hsh
  go_enter Tryz.func126, Tryz.ntmps126
  go_wp2_with fail
  go_end0
  exact ⟨rfl, rfl⟩

/-- a builder that the call made: it holds l -/
def Bu (base b : Nat) (l : List UInt8) (w : World) : Prop := Lib.IsBuilder 142 5 base b (Lib.byteCells l) w

theorem copyCheck126 {base b : Nat} {l : List UInt8} {w : World} (h : Bu base b l w) :
    Calls Tryz.prog 126 #[.pointer (some ⟨b, 0, none⟩)] w fun e w' => e = .returned (.tuple #[]) ∧ (Lib.BuilderAt 142 5 base b (.pointer (some ⟨b, 0, none⟩)) (Lib.byteCells l) w' ∧ Below base w w') := by
  rcases h with h | h
  · refine (copyCheck_fresh b w h.cell0 h.shape h.frozen0).mono ?_
    rintro e w' ⟨rfl, rfl⟩
    exact ⟨rfl, h.used _, (Below.refl base w).setCell (p := ⟨b, 0, none⟩) h.1 _⟩
  · refine (copyCheck_used b w h.cell0).mono ?_
    rintro e w' ⟨rfl, rfl⟩
    exact ⟨rfl, h, Below.refl base _⟩

set_option maxHeartbeats 2000000 in
set_option maxRecDepth 100000 in
theorem write95 {base b : Nat} {l : List UInt8} {w : World} (h : Bu base b l w) (s : List UInt8) (hlen : l.length + s.length ≤ 140737488355328) (hBw : base ≤ w.heap.size) :
    Calls Tryz.prog 95 #[.pointer (some ⟨b, 0, none⟩), .string ⟨s.toArray⟩] w fun e w' => (∃ n : Int, e = .returned (.tuple #[.int .i64 n, .nilIface])) ∧ Bu base b (l ++ s) w' ∧ Below base w w' := by
  obtain ⟨i0, hi, hz0, hz1, hz2⟩ := info_parts info5
  have HC := Lib.hid (copyCheck126 h)
  clear h
  go_enter Tryz.func95, Tryz.ntmps95
  go_wp2_with fail
  refine HC.out.mono ?_
  rintro e w1 ⟨rfl, h1, hb1⟩
  obtain ⟨hB, v, hbk, hown, hne⟩ := h1
  have c0 : w1.cell? ⟨b, 0, none⟩ = some (.pointer (some ⟨b, 0, none⟩)) := by rw [Lib.cell_of_heap hbk]; rfl
  have c1 : w1.cell? ⟨b, 1, none⟩ = some v := by rw [Lib.cell_of_heap hbk]; rfl
  have hll : (Lib.byteCells l).length = l.length := Lib.byteCells_length l
  have hss : (⟨s.toArray⟩ : ByteArray).size = s.length := by simp [ByteArray.size]
  rw [hll] at hown
  go_wp2_with (at_builtin; refine stop ?_)
  refine unhid ?_
  refine Lib.wpList_append_own_string _ rfl _ _ 41 9 rfl base 5 i0 Tryz.underlying41 Tryz.underlying9 hi hz0 hz1 hz2 _ _ _ rfl hown ⟨s.toArray⟩ rfl ?c3 ?c4 ?c5 ?_
  case c3 => rw [hss]; unfold maxLen; omega
  case c4 => rw [hss]; exact hlen
  case c5 => have := hb1.size; omega
  intro v' w2 hown' hgrow _
  have hlt : b < w1.heap.size := heap_lt hbk
  have hb2 : w2.heap[b]? = some (.cells #[.pointer (some ⟨b, 0, none⟩), v] 142 (0, 0)) := by
    rw [hgrow.block b hlt (fun e => hne e.symm)]
    exact hbk
  have d0 : w2.cell? ⟨b, 0, none⟩ = some (.pointer (some ⟨b, 0, none⟩)) := by rw [Lib.cell_of_heap hb2]; rfl
  have d1 : w2.cell? ⟨b, 1, none⟩ = some v := by rw [Lib.cell_of_heap hb2]; rfl
  have f1 : w2.frozen? ⟨b, 1, none⟩ = false := Lib.frozen_of_heap hb2 1
  obtain ⟨ao, n', cap, rfl⟩ : ∃ ao n' cap, v' = .slice ao n' cap := by
    rcases hown'.2 with ⟨hv, _⟩ | ⟨g, cap, cur, hv, _⟩
    · exact ⟨_, _, _, hv⟩
    · exact ⟨_, _, _, hv⟩
  have F1 : Hid (Lib.BuilderAt 142 5 base b (.pointer (some ⟨b, 0, none⟩)) (Lib.byteCells (l ++ s)) (w2.setCell ⟨b, 1, none⟩ (.slice ao n' cap))) :=
    Lib.BuilderAt.put (T := 142) (e := 5) hB hb2 (bs' := Lib.byteCells (l ++ s)) (by
      rw [Lib.byteCells_length, List.length_append, ← hss]
      have e : Lib.byteCells (l ++ s) = Lib.byteCells l ++ Lib.strCells ⟨s.toArray⟩ := by rw [Lib.strCells_eq]; simp [Lib.byteCells]
      rw [e]; exact hown') (by decide)
  have F2 : Hid (Below base w (w2.setCell ⟨b, 1, none⟩ (.slice ao n' cap))) := (hb1.grown hgrow (by have := hb1.size; omega) (fun k hk => (hown.lt k hk).1)).setCell (p := ⟨b, 1, none⟩) hB _
  clear hown' hgrow hown hbk hb2 hb1 hll hss c0 c1
  go_wp2_with fail
  go_ret2
  exact ⟨⟨_, rfl⟩, Or.inr F1.out, F2.out⟩

/-- what leaves the builder's block and its row leaves the builder -/
theorem Bu.step {base b : Nat} {l : List UInt8} {w w' : World} (h : Bu base b l w) (k : Gw w w') : Bu base b l w' := by
  have key : ∀ p, Lib.BuilderAt 142 5 base b p (Lib.byteCells l) w → Lib.BuilderAt 142 5 base b p (Lib.byteCells l) w' := fun p h => by
    obtain ⟨hB, v, hbk, hown, hne⟩ := h
    exact ⟨hB, v, k.heap hbk, own_block hown (fun g hg => k.block g (own_lt hown g hg).2), hne⟩
  exact h.imp (key _) (key _)
end Go.Proofs.YtbihlmkjoplkoaaGreatDoor
/-
  A tree's shape, as a text, plainly.
-/
namespace Go.Proofs.YtbihlmkjoplkoaaGreatDoor
open Go.RowKit
set_option linter.unusedVariables false

/-- texts, one behind the other -/
def catTo (g : Nat → List UInt8) : Nat → List UInt8
  | 0 => []
  | n + 1 => catTo g n ++ g n
theorem catTo_skip {g : Nat → List UInt8} (a : Nat) : ∀ n : Nat, a ≤ n → (∀ c, a ≤ c → c < n → g c = []) → catTo g n = catTo g a
  | 0, h, _ => by obtain rfl : a = 0 := by omega
                  rfl
  | n + 1, h, hz => by
    by_cases e : a = n + 1
    · rw [e]
    · simp only [catTo]; rw [catTo_skip a n (by omega) (fun c h1 h2 => hz c h1 (by omega)), hz n (by omega) (by omega), List.append_nil]
theorem catTo_length {g : Nat → List UInt8} {f : Nat → Nat} {C : Nat} : ∀ n : Nat, (∀ b, b < n → (g b).length ≤ C * f b) → (catTo g n).length ≤ C * sumTo f n
  | 0, _ => by simp [catTo]
  | n + 1, h => by
    simp only [catTo, sumTo, List.length_append]
    have h1 := catTo_length n (fun b hb => h b (by omega))
    have h2 := h n (by omega)
    rw [Nat.mul_add]; omega

/-- the head of a node's text -/
def headTxt (kn : Nat) (leaf : Bool) : List UInt8 := if leaf then [76] else Lib.decDigits kn ++ [60]
def valTxt (has : Bool) (v : Int) : List UInt8 := if has then 61 :: Lib.decDigits v.toNat else []
def kidHead (b : Nat) : List UInt8 := 58 :: textL [(b : Int)]
/-- what a place of a node adds -/
def kidPart (p : Option Nat) (b : Nat) (x : List UInt8) : List UInt8 := match p with | none => [] | some _ => kidHead b ++ x
/-- a tree's text -/
def T.txt : T → List UInt8
  | .nil => [46]
  | .node _ _ part val has leaf kid =>
    headTxt (kindOf (kcnt fun b => (kid b).ptr)) leaf ++ textL part ++ valTxt has val ++
    (if leaf then [] else catTo (fun b => kidPart (kid b).ptr b (T.txt (kid b))) 256 ++ [62])

theorem nDigits_le (u : Nat) (h : u < 18446744073709551616) : Lib.nDigits u ≤ 20 := by
  by_cases h1 : 1 ≤ u
  · have := Lib.numDigits_eq u h1 h; split at this <;> omega
  · obtain rfl : u = 0 := by omega
    rw [Lib.nDigits_small (by omega)]; omega
theorem kindOf_le (n : Nat) : kindOf n ≤ 256 := by unfold kindOf; repeat' split
                                                   all_goals omega
theorem head_length (kn : Nat) (hk : kn ≤ 256) (leaf : Bool) : (headTxt kn leaf).length ≤ 21 := by
  unfold headTxt
  cases leaf with
  | true => simp
  | false =>
    have := nDigits_le kn (by omega)
    simp [Lib.decDigits_length]; omega
theorem val_length (has : Bool) (v : Int) (h : v < 18446744073709551616) : (valTxt has v).length ≤ 21 := by
  unfold valTxt
  cases has with
  | false => simp
  | true =>
    have := nDigits_le v.toNat (by omega)
    simp [Lib.decDigits_length]; omega
theorem kidHead_length (b : Nat) : (kidHead b).length = 3 := by simp [kidHead, textL]

theorem txt_length {B : Nat} {w : World} {S : Store} (hs : Sto B w S) : ∀ (t : T) (hd : List Int), t ≠ .nil → Rep S t → t.All Short hd → (t.txt).length + 3 ≤ 131200 * t.cnt (fun _ => true)
  | .nil, _, h, _, _ => absurd rfl h
  | .node id own part val has leaf kid, hd, _, hr, ha => by
    have hp : part.length ≤ 65536 := ha.1
    have hv : val < 18446744073709551616 := by
      obtain ⟨FQ, h⟩ := hs
      obtain ⟨p, n, c, kb, hn⟩ := h.node _ _ hr.1
      exact hn.val.2
    have h1 := head_length (kindOf (kcnt fun b => (kid b).ptr)) (kindOf_le _) leaf
    have h2 := val_length has val hv
    have h3 := length_textL part
    have h4 : (catTo (fun b => kidPart (kid b).ptr b (T.txt (kid b))) 256).length ≤ 131200 * sumTo (fun b => (kid b).cnt fun _ => true) 256 := by
      refine catTo_length 256 fun b _ => ?_
      cases hk : kid b with
      | nil => simp [T.ptr, kidPart]
      | node i2 o2 p2 v2 h2 l2 k2 =>
        have := txt_length hs (kid b) _ (by rw [hk]; simp) (hr.2 b) (ha.2 b)
        rw [hk] at this
        simp only [T.ptr, kidPart, List.length_append, kidHead_length]
        omega
    simp only [T.txt, T.cnt, if_pos, List.length_append, h3]
    cases leaf with
    | true => simp; omega
    | false => simp; omega
end Go.Proofs.YtbihlmkjoplkoaaGreatDoor
