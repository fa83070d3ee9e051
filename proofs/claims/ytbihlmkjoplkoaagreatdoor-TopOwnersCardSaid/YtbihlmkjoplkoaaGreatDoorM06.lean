/-
  For the statement TopOwners: Small laws on what is held by bytes, and how much; The small row: its cells; what is compared; where a byte is, or would be; The small row: where a byte is, or would be; The small row: what Len, Room, Get, Next, Prev tell.
-/
import Derived.Test.YtbihlmkjoplkoaaGreatDoorM05
/-
  Small laws on what is held by bytes, and how much.
-/
namespace Go.Proofs.YtbihlmkjoplkoaaGreatDoor
open Go.RowKit
set_option linter.unusedVariables false

def cntH (h : Nat → Bool) (n : Nat) : Nat := ((List.range n).filter h).length
theorem cntH_succ (h : Nat → Bool) (n : Nat) : cntH h (n + 1) = cntH h n + (if h n then 1 else 0) := by
  unfold cntH
  rw [List.range_succ, List.filter_append, List.length_append]
  cases hn : h n <;> simp [hn]
theorem cntH_le (h : Nat → Bool) (n : Nat) : cntH h n ≤ n := by
  unfold cntH
  have := List.length_filter_le h (List.range n)
  rwa [List.length_range] at this
theorem cntF_H (f : Nat → Option Th) : cntF f = cntH (fun b => (f b).isSome) 256 := rfl

theorem updF_none (f : Nat → Option Th) (b : Nat) (h : f b = none) : updF f b none = f := by
  funext c
  unfold updF
  by_cases e : c = b
  · subst e; rw [if_pos rfl, h]
  · rw [if_neg e]

theorem Below.setRow {B : Nat} {w w' : World} (h : Below B w w') {g : Nat} (hg : B ≤ g) (cs : Array Value) : Below B w (w'.setRow g cs) :=
  ⟨h.os, h.tape, h.output, by rw [setRow_size]; exact h.size, fun i hi => by rw [setRow_other w' g i cs (by omega)]; exact h.block i hi⟩

/-- what Drop tells, by number -/
def NumD (f : Nat → Option Th) (b : Nat) (n : Int) : Prop := ((f b).isSome = true ∧ n = 0) ∨ ((f b).isSome = false ∧ n = 6)
/-- what Set tells, by number, and what is held then -/
def NumS (f : Nat → Option Th) (room : Int) (b : Nat) (x : Th) (n : Int) (f' : Nat → Option Th) : Prop :=
  ((f b).isSome = false ∧ (cntF f : Int) = room ∧ n = 10 ∧ f' = f) ∨ (¬ ((f b).isSome = false ∧ (cntF f : Int) = room) ∧ n = 0 ∧ f' = updF f b (some x))

theorem Exc.setRow {S : List Nat} {a b : World} (h : Exc S a b) {g : Nat} (hg : g ∈ S) (cs : Array Value) : Exc S a (b.setRow g cs) :=
  ⟨h.os, h.tape, h.output, by rw [setRow_size]; exact h.size, fun i hi ht => by rw [setRow_other b g i cs (fun e => ht (by rw [e]; exact hg))]; exact h.block i hi ht⟩

theorem wpList_wanted {P : Program} {ops : Array Oper} {rest : List Oper} {o : Oper} {a : Act} {w : World} {Q : Exit → Act → World → Prop} (hw : Region.wanted o (yielded ops a.tmps) = true)
    (h : ∀ K : Act → World → Prop, (∀ a w, wpList P ops Q rest a w → K a w) → o.wp P a w K Q) : wpList P ops Q (o :: rest) a w :=
  wpList_step fun K hK => by rw [if_pos hw]; exact h K hK

theorem wpList_max {w : World} {ops : Array Oper} {rest : List Oper} {o : Oper} {a : Act} {Q : Exit → Act → World → Prop} (hgd : o.guard = none) (s x : Operand) (t : TypeId)
    (ho : o.op = .call { callee := .builtin .max, args := #[s, x], argTypes := #[t, t] }) (n k m : Int) (hs : a.eval s = .int .i64 n) (hx : a.eval x = .int .i64 k) (hm : (if k > n then k else n) = m)
    (h : wpList Tryz.prog ops Q rest (a.put o.dst (.int .i64 m)) w) : wpList Tryz.prog ops Q (o :: rest) a w := by
  refine wpList_plain hgd fun K hK => ?_
  have hrun := run_max_int2 (P := Tryz.prog) (w := w) #[t, t] o.type .i64 .i64 n k
  rw [hm] at hrun
  unfold Oper.wp
  simp [execOp, ho, resolve, invoke, builtin, hs, hx, hrun, Result.andThen]
  exact hK _ _ h


end Go.Proofs.YtbihlmkjoplkoaaGreatDoor
/-
  The small row: its cells; what is compared; where a byte is, or would be.
-/
namespace Go.Proofs.YtbihlmkjoplkoaaGreatDoor
open Go.RowKit
set_option linter.unusedVariables false

/-- the cells of a small row -/
def rowL (room : Int) (n : Nat) (B : Nat → Nat) (X : Nat → Th) : List Value :=
  [.int .i64 room, .int .i64 n] ++ (((List.range 16).map fun i => Value.int .u8 (B i)) ++ ((List.range 16).map fun i => Value.pointer (X i)))

theorem rowL_len (room : Int) (n : Nat) (B : Nat → Nat) (X : Nat → Th) : (rowL room n B X).length = 34 := by
  unfold rowL; simp
theorem rowL_0 (room : Int) (n : Nat) (B : Nat → Nat) (X : Nat → Th) : (rowL room n B X)[0]? = some (.int .i64 room) := rfl
theorem rowL_1 (room : Int) (n : Nat) (B : Nat → Nat) (X : Nat → Th) : (rowL room n B X)[1]? = some (.int .i64 n) := rfl
theorem rowL_b (room : Int) (n : Nat) (B : Nat → Nat) (X : Nat → Th) (i : Nat) (hi : i < 16) : (rowL room n B X)[2 + i]? = some (.int .u8 (B i)) := by
  unfold rowL
  rw [List.getElem?_append_right (by simp)]
  simp only [List.length_cons, List.length_nil]
  rw [show 2 + i - (0 + 1 + 1) = i by omega, List.getElem?_append_left (by simp; omega), List.getElem?_map, List.getElem?_range hi]
  rfl
theorem rowL_x (room : Int) (n : Nat) (B : Nat → Nat) (X : Nat → Th) (i : Nat) (hi : i < 16) : (rowL room n B X)[18 + i]? = some (.pointer (X i)) := by
  unfold rowL
  rw [List.getElem?_append_right (by simp; omega)]
  simp only [List.length_cons, List.length_nil]
  rw [show 18 + i - (0 + 1 + 1) = 16 + i by omega, List.getElem?_append_right (by simp)]
  simp only [List.length_map, List.length_range]
  rw [show 16 + i - 16 = i by omega, List.getElem?_map, List.getElem?_range hi]
  rfl
theorem rowL_one (room : Int) (n : Nat) (B : Nat → Nat) (X : Nat → Th) : (rowL room n B X).toArray.all (·.oneCell') = true := by
  rw [Array.all_eq_true_iff_forall_mem]
  intro v hv
  unfold rowL at hv
  simp at hv
  rcases hv with rfl | rfl | ⟨i, _, rfl⟩ | ⟨i, _, rfl⟩ <;> rfl

/-- which of the 34 cells -/
theorem cell34 (j : Nat) (hj : j < 34) : j = 0 ∨ j = 1 ∨ (∃ i, i < 16 ∧ j = 2 + i) ∨ (∃ i, i < 16 ∧ j = 18 + i) := by
  by_cases h0 : j = 0
  · exact Or.inl h0
  · by_cases h1 : j = 1
    · exact Or.inr (Or.inl h1)
    · by_cases h2 : j < 18
      · exact Or.inr (Or.inr (Or.inl ⟨j - 2, by omega, by omega⟩))
      · exact Or.inr (Or.inr (Or.inr ⟨j - 18, by omega, by omega⟩))

theorem rowL_ext {L : List Value} {room : Int} {n : Nat} {B : Nat → Nat} {X : Nat → Th} (hl : L.length = 34) (h0 : L[0]? = some (.int .i64 room)) (h1 : L[1]? = some (.int .i64 n))
    (hb : ∀ i, i < 16 → L[2 + i]? = some (.int .u8 (B i))) (hx : ∀ i, i < 16 → L[18 + i]? = some (.pointer (X i))) : L = rowL room n B X := by
  apply List.ext_getElem?
  intro j
  by_cases hj : j < 34
  · rcases cell34 j hj with rfl | rfl | ⟨i, hi, rfl⟩ | ⟨i, hi, rfl⟩
    · rw [h0, rowL_0]
    · rw [h1, rowL_1]
    · rw [hb i hi, rowL_b _ _ _ _ i hi]
    · rw [hx i hi, rowL_x _ _ _ _ i hi]
  · rw [List.getElem?_eq_none (by omega), List.getElem?_eq_none (by rw [rowL_len]; omega)]

/-- a small row in block g -/
structure Sm (w : World) (g : Nat) (room : Int) (n : Nat) (B : Nat → Nat) (X : Nat → Th) : Prop where
  heap : w.heap[g]? = some (.cells (rowL room n B X).toArray 196 (0, 0))

theorem Sm.vRoom {w : World} {g : Nat} {room : Int} {n : Nat} {B : Nat → Nat} {X : Nat → Th} (h : Sm w g room n B X) : w.cell? ⟨g, 0, none⟩ = some (.int .i64 room) := by
  rw [cell_of_row _ _ _ _ _ _ h.heap]; simp [rowL_0]
theorem Sm.vN {w : World} {g : Nat} {room : Int} {n : Nat} {B : Nat → Nat} {X : Nat → Th} (h : Sm w g room n B X) : w.cell? ⟨g, 1, none⟩ = some (.int .i64 n) := by
  rw [cell_of_row _ _ _ _ _ _ h.heap]; simp [rowL_1]
theorem Sm.vB {w : World} {g : Nat} {room : Int} {n : Nat} {B : Nat → Nat} {X : Nat → Th} (h : Sm w g room n B X) (i : Nat) (hi : i < 16) : w.cell? ⟨g, 2 + i, none⟩ = some (.int .u8 (B i)) := by
  rw [cell_of_row _ _ _ _ _ _ h.heap, List.getElem?_toArray, rowL_b _ _ _ _ i hi]
theorem Sm.vX {w : World} {g : Nat} {room : Int} {n : Nat} {B : Nat → Nat} {X : Nat → Th} (h : Sm w g room n B X) (i : Nat) (hi : i < 16) : w.cell? ⟨g, 18 + i, none⟩ = some (.pointer (X i)) := by
  rw [cell_of_row _ _ _ _ _ _ h.heap, List.getElem?_toArray, rowL_x _ _ _ _ i hi]
theorem Sm.free {w : World} {g : Nat} {room : Int} {n : Nat} {B : Nat → Nat} {X : Nat → Th} (h : Sm w g room n B X) (j : Nat) : w.frozen? ⟨g, j, none⟩ = false := frozen_of_row _ _ _ _ _ h.heap
theorem Sm.lt {w : World} {g : Nat} {room : Int} {n : Nat} {B : Nat → Nat} {X : Nat → Th} (h : Sm w g room n B X) : g < w.heap.size := block_lt_of_cell h.vN
theorem Sm.same {w w' : World} {g : Nat} {room : Int} {n : Nat} {B : Nat → Nat} {X : Nat → Th} (h : Sm w g room n B X) (e : w'.heap[g]? = w.heap[g]?) : Sm w' g room n B X := ⟨e.trans h.heap⟩

theorem Sm.setCell {w : World} {g : Nat} {room : Int} {n : Nat} {B : Nat → Nat} {X : Nat → Th} (h : Sm w g room n B X) (j : Nat) (v : Value) {room' : Int} {n' : Nat} {B' : Nat → Nat} {X' : Nat → Th}
    (e : (rowL room n B X).set j v = rowL room' n' B' X') : Sm (w.setCell ⟨g, j, none⟩ v) g room' n' B' X' :=
  ⟨by rw [heap_setCell_same w g j _ 196 v h.heap, List.setIfInBounds_toArray, e]⟩

def updX (X : Nat → Th) (i : Nat) (x : Th) : Nat → Th := fun j => if j = i then x else X j
def updB (B : Nat → Nat) (i : Nat) (b : Nat) : Nat → Nat := fun j => if j = i then b else B j

theorem Sm.setN {w : World} {g : Nat} {room : Int} {n : Nat} {B : Nat → Nat} {X : Nat → Th} (h : Sm w g room n B X) (n' : Nat) : Sm (w.setCell ⟨g, 1, none⟩ (.int .i64 n')) g room n' B X :=
  h.setCell 1 _ rfl
theorem Sm.setB {w : World} {g : Nat} {room : Int} {n : Nat} {B : Nat → Nat} {X : Nat → Th} (h : Sm w g room n B X) (i : Nat) (hi : i < 16) (b : Nat) : Sm (w.setCell ⟨g, 2 + i, none⟩ (.int .u8 b)) g room n (updB B i b) X := by
  refine h.setCell _ _ (rowL_ext (by rw [List.length_set, rowL_len]) ?_ ?_ (fun j hj => ?_) (fun j hj => ?_))
  · rw [List.getElem?_set_ne (by omega)]; rfl
  · rw [List.getElem?_set_ne (by omega)]; rfl
  · unfold updB
    by_cases e : j = i
    · subst e; rw [if_pos rfl, List.getElem?_set_self (by rw [rowL_len]; omega)]
    · rw [if_neg e, List.getElem?_set_ne (by omega), rowL_b _ _ _ _ j hj]
  · rw [List.getElem?_set_ne (by omega), rowL_x _ _ _ _ j hj]
theorem Sm.setX {w : World} {g : Nat} {room : Int} {n : Nat} {B : Nat → Nat} {X : Nat → Th} (h : Sm w g room n B X) (i : Nat) (hi : i < 16) (x : Th) : Sm (w.setCell ⟨g, 18 + i, none⟩ (.pointer x)) g room n B (updX X i x) := by
  refine h.setCell _ _ (rowL_ext (by rw [List.length_set, rowL_len]) ?_ ?_ (fun j hj => ?_) (fun j hj => ?_))
  · rw [List.getElem?_set_ne (by omega)]; rfl
  · rw [List.getElem?_set_ne (by omega)]; rfl
  · rw [List.getElem?_set_ne (by omega), rowL_b _ _ _ _ j hj]
  · unfold updX
    by_cases e : j = i
    · subst e; rw [if_pos rfl, List.getElem?_set_self (by rw [rowL_len]; omega)]
    · rw [if_neg e, List.getElem?_set_ne (by omega), rowL_x _ _ _ _ j hj]

theorem ok66 (g : Nat) (room : Int) (w : World) (h : w.cell? ⟨g, 0, none⟩ = some (.int .i64 room)) (h0 : 0 < room) : Calls Tryz.prog 118 #[.pointer (some ⟨g, 0, none⟩)] w fun e w' => e = .returned (.bool true) ∧ w' = w := by
  have d0 : decide (0 < room) = true := by simp; omega
  go_enter Tryz.func118, Tryz.ntmps118
  go_wp2
  go_ret
  exact ⟨rfl, rfl⟩

/-- a row that nobody made -/
def NoSm (w : World) (v : Value) : Prop := v = .pointer none ∨ ∃ g, v = .pointer (some ⟨g, 0, none⟩) ∧ w.cell? ⟨g, 0, none⟩ = some (.int .i64 0)

theorem ok66_no (v : Value) (w : World) (h : NoSm w v) : Calls Tryz.prog 118 #[v] w fun e w' => e = .returned (.bool false) ∧ w' = w := by
  rcases h with rfl | ⟨g, rfl, hc⟩
  · go_enter Tryz.func118, Tryz.ntmps118
    go_wp2
    go_ret
    exact ⟨rfl, rfl⟩
  · go_enter Tryz.func118, Tryz.ntmps118
    go_wp2
    go_ret
    exact ⟨rfl, rfl⟩

theorem nan86 (x : Int) (w : World) : Calls Tryz.prog 188 #[.int .u8 x] w fun e w' => e = .returned (.bool false) ∧ w' = w := by
  have d0 : (x != x) = false := by simp
  go_enter Tryz.func188, Tryz.ntmps188
  go_wp2
  go_ret
  exact ⟨rfl, rfl⟩
theorem nan81 (x : Int) (w : World) : Calls Tryz.prog 170 #[.int .u8 x] w fun e w' => e = .returned (.bool false) ∧ w' = w := by
  have d0 : (x != x) = false := by simp
  go_enter Tryz.func170, Tryz.ntmps170
  go_wp2
  go_ret
  exact ⟨rfl, rfl⟩
theorem less80 (x y : Int) (r : Bool) (w : World) (hr : decide (x < y) = r) : Calls Tryz.prog 169 #[.int .u8 x, .int .u8 y] w fun e w' => e = .returned (.bool r) ∧ w' = w := by
  go_enter Tryz.func169, Tryz.ntmps169
  go_wp2_with fail
  refine (nan86 x _).mono ?_; rintro e w' ⟨rfl, hw'⟩
  rw [hw']; clear hw' w'
  go_wp2_with fail
  go_ret
  exact ⟨rfl, rfl⟩

end Go.Proofs.YtbihlmkjoplkoaaGreatDoor
/-
  The small row: where a byte is, or would be.
-/
namespace Go.Proofs.YtbihlmkjoplkoaaGreatDoor
open Go.RowKit
set_option linter.unusedVariables false

/-- bytes that rise -/
structure Srt (n : Nat) (B : Nat → Nat) : Prop where
  small : ∀ k, k < n → B k < 256
  rise : ∀ i j, i < j → j < n → B i < B j

theorem Srt.le {n : Nat} {B : Nat → Nat} (h : Srt n B) (i j : Nat) (hij : i ≤ j) (hj : j < n) : B i ≤ B j := by
  rcases Nat.lt_or_eq_of_le hij with h1 | rfl
  · exact Nat.le_of_lt (h.rise i j h1 hj)
  · exact Nat.le_refl _

/-- the first place whose byte is not below b, and whether it is that -/
structure AtP (n : Nat) (B : Nat → Nat) (b i : Nat) (is : Bool) : Prop where
  le : i ≤ n
  low : ∀ k, k < i → B k < b
  high : ∀ k, i ≤ k → k < n → b ≤ B k
  is : is = true ↔ (i < n ∧ B i = b)

/-- what the search tells -/
def Out75 (n : Nat) (B : Nat → Nat) (b : Nat) (w : World) (e : Ending) (w' : World) : Prop := ∃ i is, AtP n B b i is ∧ e = .returned (.tuple #[.int .i64 i, .bool is]) ∧ w' = w

set_option maxRecDepth 100000 in
set_option maxHeartbeats 800000 in
theorem search75 (g n b : Nat) (B : Nat → Nat) (w : World) (hc : ∀ k, k < n → w.cell? ⟨g, 2 + k, none⟩ = some (.int .u8 (B k))) (hn : n ≤ 16) (hs : Srt n B) :
    Calls Tryz.prog 144 #[.slice (some ⟨g, 2, none⟩) n 16, .int .u8 b] w (Out75 n B b w) := by
  have HC := Lib.hid hc
  have HS := Lib.hid hs
  clear hc hs
  go_enter Tryz.func144, Tryz.ntmps144
  go_wp2_with fail
  go_loop [7, 8] (fun u t => ∃ (i j : Nat), u = .int .i64 i ∧ t = .int .i64 j ∧ i ≤ j ∧ j ≤ n ∧ Hid ((∀ k, k < i → B k < b) ∧ (∀ k, j ≤ k → k < n → b ≤ B k))) (fun u t => (intOf t).toNat - (intOf u).toNat)
  case atStart => exact ⟨0, n, rfl, rfl, by omega, by omega, ⟨fun k h => by omega, fun k h1 h2 => by omega⟩⟩
  case round =>
    obtain ⟨i, j, rfl, rfl, hij, hj, hinv⟩ := hrel
    by_cases hlt : i < j
    · have d0 : decide ((i : Int) < (j : Int)) = true := by simp; omega
      obtain ⟨h, hh⟩ : ∃ h, (i + j) / 2 = h := ⟨_, rfl⟩
      have h1 : i ≤ h := by omega
      have h2 : h < j := by omega
      have q0 : IntKind.i64.wrap ((i : Int) + (j : Int)) = ((i + j : Nat) : Int) := by rw [IntWalk.i64_in _ (by omega)]; push_cast; rfl
      have q1 : IntKind.u64.wrap ((i + j : Nat) : Int) = ((i + j : Nat) : Int) := by rw [IntKind.wrap_u64]; omega
      have hm : ((i : Int) + (j : Int)) / 2 = (h : Int) := by omega
      have c0 := HC.out h (by omega)
      have b0 : (0 : Int) ≤ (h : Int) := by omega
      have b1 : (h : Int) < (n : Int) := by omega
      have q2 : IntKind.i64.wrap ((h : Int) + 1) = (h : Int) + 1 := IntWalk.i64_in _ (by omega)
      by_cases hl : B h < b
      · have hd : decide ((B h : Int) < (b : Int)) = true := by simp; omega
        have HL := Lib.hid hl
        clear hl
        go_wp2_with fail
        refine (less80 _ _ _ _ hd).mono ?_; rintro e w' ⟨rfl, hw'⟩
        rw [hw']; clear hw' w'
        go_wp2_with fail
        go_round
        case rel => exact ⟨h + 1, j, by go_num, rfl, by omega, by omega, ⟨fun k hk => Nat.lt_of_le_of_lt (HS.out.le k h (by omega) (by omega)) HL.out, hinv.out.2⟩⟩
        case measure => simp [intOf]; omega
      · have hd : decide ((B h : Int) < (b : Int)) = false := by simp; omega
        have HL := Lib.hid hl
        clear hl
        go_wp2_with fail
        refine (less80 _ _ _ _ hd).mono ?_; rintro e w' ⟨rfl, hw'⟩
        rw [hw']; clear hw' w'
        go_wp2_with fail
        go_round
        case rel => exact ⟨i, h, rfl, rfl, by omega, by omega, ⟨hinv.out.1, fun k h1 h2 => Nat.le_trans (Nat.le_of_not_lt HL.out) (HS.out.le h k h1 h2)⟩⟩
        case measure => simp [intOf]; omega
    · obtain rfl : i = j := by omega
      have d0 : decide ((i : Int) < (i : Int)) = false := by simp
      by_cases hlt2 : i < n
      · have d1 : decide ((i : Int) < (n : Int)) = true := by simp; omega
        have c0 := HC.out i hlt2
        have b0 : (0 : Int) ≤ (i : Int) := by omega
        have b1 : (i : Int) < (n : Int) := by omega
        by_cases he : B i = b
        · have hd : ((B i : Int) == (b : Int)) = true := by simp; omega
          have HE := Lib.hid he
          clear he
          go_wp2_with fail
          go_ret2
          exact ⟨i, true, ⟨hj, hinv.out.1, hinv.out.2, ⟨fun _ => ⟨hlt2, HE.out⟩, fun _ => rfl⟩⟩, rfl, rfl⟩
        · have hd : ((B i : Int) == (b : Int)) = false := by simp; omega
          have HE := Lib.hid he
          clear he
          go_wp2_with fail
          refine (nan81 _ _).mono ?_; rintro e w' ⟨rfl, hw'⟩
          rw [hw']; clear hw' w'
          go_wp2_with fail
          go_ret2
          exact ⟨i, false, ⟨hj, hinv.out.1, hinv.out.2, ⟨fun h => (by cases h), fun h => absurd h.2 HE.out⟩⟩, rfl, rfl⟩
      · have d1 : decide ((i : Int) < (n : Int)) = false := by simp; omega
        go_wp2_with fail
        go_ret2
        exact ⟨i, false, ⟨hj, hinv.out.1, hinv.out.2, ⟨fun h => (by cases h), fun h => absurd h.1 hlt2⟩⟩, rfl, rfl⟩

theorem AtP.ex {B : Nat → Nat} (b : Nat) : ∀ n : Nat, Srt n B → ∃ i, i ≤ n ∧ (∀ k, k < i → B k < b) ∧ (∀ k, i ≤ k → k < n → b ≤ B k)
  | 0, _ => ⟨0, by omega, fun k h => by omega, fun k h1 h2 => by omega⟩
  | n + 1, hs => by
    obtain ⟨i, h1, h2, h3⟩ := AtP.ex b n ⟨fun k hk => hs.small k (by omega), fun i j h1 h2 => hs.rise i j h1 (by omega)⟩
    by_cases hi : i < n
    · refine ⟨i, by omega, h2, fun k hk hk2 => ?_⟩
      exact Nat.le_trans (h3 i (Nat.le_refl _) hi) (hs.le i k hk hk2)
    · obtain rfl : i = n := by omega
      by_cases hb : B i < b
      · refine ⟨i + 1, by omega, fun k hk => ?_, fun k h4 h5 => by omega⟩
        by_cases e : k = i
        · rw [e]; exact hb
        · exact h2 k (by omega)
      · refine ⟨i, by omega, h2, fun k h4 h5 => ?_⟩
        obtain rfl : k = i := by omega
        omega

theorem AtP.exists {n : Nat} {B : Nat → Nat} (b : Nat) (hs : Srt n B) : ∃ i is, AtP n B b i is := by
  obtain ⟨i, h1, h2, h3⟩ := AtP.ex b n hs
  by_cases h : i < n ∧ B i = b
  · exact ⟨i, true, h1, h2, h3, ⟨fun _ => h, fun _ => rfl⟩⟩
  · exact ⟨i, false, h1, h2, h3, ⟨fun e => (by cases e), fun e => absurd e h⟩⟩

theorem AtP.det {n b i j : Nat} {B : Nat → Nat} {is js : Bool} (h : AtP n B b i is) (k : AtP n B b j js) : i = j ∧ is = js := by
  have e : i = j := by
    rcases Nat.lt_trichotomy i j with h1 | h1 | h1
    · have := k.low i h1; have := h.high i (Nat.le_refl _) (by have := k.le; omega); omega
    · exact h1
    · have := h.low j h1; have := k.high j (Nat.le_refl _) (by have := h.le; omega); omega
  subst e
  refine ⟨rfl, ?_⟩
  cases is with
  | true => exact (k.is.2 (h.is.1 rfl)).symm
  | false =>
    cases js with
    | true => exact h.is.2 (k.is.1 rfl)
    | false => rfl

theorem search75' (g n b i : Nat) (is : Bool) (B : Nat → Nat) (w : World) (hc : ∀ k, k < n → w.cell? ⟨g, 2 + k, none⟩ = some (.int .u8 (B k))) (hn : n ≤ 16) (hs : Srt n B) (ha : AtP n B b i is) :
    Calls Tryz.prog 144 #[.slice (some ⟨g, 2, none⟩) n 16, .int .u8 b] w fun e w' => e = .returned (.tuple #[.int .i64 i, .bool is]) ∧ w' = w :=
  (search75 g n b B w hc hn hs).mono fun e w' ⟨j, js, h1, h2, h3⟩ => by
    obtain ⟨rfl, rfl⟩ := AtP.det ha h1
    exact ⟨h2, h3⟩

set_option maxHeartbeats 400000 in
/-- the place of a byte in a row -/
theorem place67 (g n b i : Nat) (is : Bool) (room : Int) (B : Nat → Nat) (X : Nat → Th) (w : World) (h : Sm w g room n B X) (hn : n ≤ 16) (hs : Srt n B) (ha : AtP n B b i is) :
    Calls Tryz.prog 119 #[.pointer (some ⟨g, 0, none⟩), .int .u8 b] w fun e w' => e = .returned (.tuple #[.int .i64 i, .bool is]) ∧ ∃ z, w' = w.drewN z := by
  have H := Lib.hid h
  have HS := Lib.hid hs
  have HA := Lib.hid ha
  have c1 := h.vN
  have b0 : (0 : Int) ≤ (n : Int) := by omega
  have b1 : (n : Int) ≤ 16 := by omega
  clear h hs ha
  go_enter Tryz.func119, Tryz.ntmps119
  go_wp2_with fail
  go_quiet ((go_at_call 144; exact Calls.quiet_of_same (search75' g n b i is B _ (fun k hk => H.out.vB k (by omega)) hn HS.out HA.out)))
  go_wp2_with fail
  go_ret2
  exact ⟨rfl, _, rfl⟩

end Go.Proofs.YtbihlmkjoplkoaaGreatDoor
/-
  The small row: what Len, Room, Get, Next, Prev tell.
-/
namespace Go.Proofs.YtbihlmkjoplkoaaGreatDoor
open Go.RowKit
set_option linter.unusedVariables false

/-- what is held, and where -/
structure SmP (room n : Nat) (B : Nat → Nat) (X : Nat → Th) (f : Nat → Option Th) : Prop where
  srt : Srt n B
  room1 : 1 ≤ room
  room16 : room ≤ 16
  le : n ≤ room
  hit : ∀ k, k < n → f (B k) = some (X k)
  miss : ∀ b, b < 256 → (∀ k, k < n → B k ≠ b) → f b = none
  cnt : n = cntF f

theorem AtP.no {n b i : Nat} {B : Nat → Nat} (hs : Srt n B) (h : AtP n B b i false) : ∀ k, k < n → B k ≠ b := fun k hk e => by
  have h0 : ¬ (i < n ∧ B i = b) := fun hh => by have := h.is.2 hh; cases this
  by_cases hki : k < i
  · have := h.low k hki; omega
  · have h1 := hs.le i k (by omega) hk
    have h2 := h.high i (Nat.le_refl _) (by omega)
    exact h0 ⟨by omega, by omega⟩

theorem SmP.get {room n b i : Nat} {B : Nat → Nat} {X : Nat → Th} {f : Nat → Option Th} {is : Bool} (h : SmP room n B X f) (hb : b < 256) (ha : AtP n B b i is) : (is = true ∧ i < n ∧ f b = some (X i)) ∨ (is = false ∧ f b = none) := by
  cases is with
  | true =>
    obtain ⟨h1, h2⟩ := ha.is.1 rfl
    exact Or.inl ⟨rfl, h1, by rw [← h2]; exact h.hit i h1⟩
  | false => exact Or.inr ⟨rfl, h.miss b hb (ha.no h.srt)⟩

/-- what stands at a place -/
def atT (n : Nat) (B : Nat → Nat) (X : Nat → Th) (i : Int) : Tri := if 0 ≤ i ∧ i < n then ⟨B i.toNat, X i.toNat, true⟩ else ⟨0, none, false⟩

theorem SmP.next {room n s i : Nat} {B : Nat → Nat} {X : Nat → Th} {f : Nat → Option Th} {is : Bool} (h : SmP room n B X f) (ha : AtP n B s i is) : NextR f s (atT n B X i) := by
  unfold atT
  by_cases hi : i < n
  · rw [if_pos ⟨by omega, by omega⟩]
    refine Or.inl ⟨B i, X i, h.srt.small i hi, by have := ha.high i (Nat.le_refl _) hi; omega, h.hit i hi, fun c h1 h2 => ?_, by simp⟩
    have := h.srt.small i hi
    refine h.miss c (by omega) (fun k hk e => ?_)
    by_cases hk2 : k < i
    · have := ha.low k hk2; omega
    · have := h.srt.le i k (by omega) hk; omega
  · rw [if_neg (by omega)]
    refine Or.inr ⟨fun c h1 h2 => ?_, rfl⟩
    refine h.miss c h1 (fun k hk e => ?_)
    have := ha.low k (by omega); omega

theorem len50 (g n : Nat) (room : Nat) (B : Nat → Nat) (X : Nat → Th) (w : World) (h : Sm w g room n B X) (h0 : 0 < room) : Calls Tryz.prog 156 #[.pointer (some ⟨g, 0, none⟩)] w fun e w' => e = .returned (.int .i64 n) ∧ w' = w := by
  have H := Lib.hid (ok66 g room w h.vRoom (by omega))
  have c1 := h.vN
  have hnot : ∀ (x : Bool) (w : World), (Op.unary .not (.bool x)).run Tryz.prog w = .ok (.bool (!x)) w := fun _ _ => rfl
  clear h
  go_enter Tryz.func156, Tryz.ntmps156
  go_wp2_with fail
  refine H.out.mono ?_; rintro e w' ⟨rfl, rfl⟩
  go_wp2_with fail
  go_ret
  exact ⟨rfl, rfl⟩
theorem room51 (g n : Nat) (room : Nat) (B : Nat → Nat) (X : Nat → Th) (w : World) (h : Sm w g room n B X) (h0 : 0 < room) : Calls Tryz.prog 124 #[.pointer (some ⟨g, 0, none⟩)] w fun e w' => e = .returned (.int .i64 room) ∧ w' = w := by
  have H := Lib.hid (ok66 g room w h.vRoom (by omega))
  have c1 := h.vRoom
  have hnot : ∀ (x : Bool) (w : World), (Op.unary .not (.bool x)).run Tryz.prog w = .ok (.bool (!x)) w := fun _ _ => rfl
  clear h
  go_enter Tryz.func124, Tryz.ntmps124
  go_wp2_with fail
  refine H.out.mono ?_; rintro e w' ⟨rfl, rfl⟩
  go_wp2_with fail
  go_ret
  exact ⟨rfl, rfl⟩

theorem len50_no (v : Value) (w : World) (h : NoSm w v) : Calls Tryz.prog 156 #[v] w fun e w' => e = .returned (.int .i64 0) ∧ w' = w := by
  have H := Lib.hid (ok66_no v w h)
  have hnot : ∀ (x : Bool) (w : World), (Op.unary .not (.bool x)).run Tryz.prog w = .ok (.bool (!x)) w := fun _ _ => rfl
  clear h
  go_enter Tryz.func156, Tryz.ntmps156
  go_wp2_with fail
  refine H.out.mono ?_; rintro e w' ⟨rfl, rfl⟩
  go_wp2_with fail
  go_ret
  exact ⟨rfl, rfl⟩
theorem room51_no (v : Value) (w : World) (h : NoSm w v) : Calls Tryz.prog 124 #[v] w fun e w' => e = .returned (.int .i64 0) ∧ w' = w := by
  have H := Lib.hid (ok66_no v w h)
  have hnot : ∀ (x : Bool) (w : World), (Op.unary .not (.bool x)).run Tryz.prog w = .ok (.bool (!x)) w := fun _ _ => rfl
  clear h
  go_enter Tryz.func124, Tryz.ntmps124
  go_wp2_with fail
  refine H.out.mono ?_; rintro e w' ⟨rfl, rfl⟩
  go_wp2_with fail
  go_ret
  exact ⟨rfl, rfl⟩
theorem get48_no (v : Value) (b : Int) (w : World) (h : NoSm w v) : Calls Tryz.prog 88 #[v, .int .u8 b] w fun e w' => e = .returned (.tuple #[.pointer none, .bool false]) ∧ w' = w := by
  have H := Lib.hid (ok66_no v w h)
  have hnot : ∀ (x : Bool) (w : World), (Op.unary .not (.bool x)).run Tryz.prog w = .ok (.bool (!x)) w := fun _ _ => rfl
  clear h
  go_enter Tryz.func88, Tryz.ntmps88
  go_wp2_with fail
  refine H.out.mono ?_; rintro e w' ⟨rfl, rfl⟩
  go_wp2_with fail
  go_ret2
  exact ⟨rfl, rfl⟩
theorem next47_no (v : Value) (from' : Int) (w : World) (h : NoSm w v) : Calls Tryz.prog 121 #[v, .int .i64 from'] w fun e w' => e = .returned (tri ⟨0, none, false⟩) ∧ w' = w := by
  have H := Lib.hid (ok66_no v w h)
  have hnot : ∀ (x : Bool) (w : World), (Op.unary .not (.bool x)).run Tryz.prog w = .ok (.bool (!x)) w := fun _ _ => rfl
  clear h
  go_enter Tryz.func121, Tryz.ntmps121
  go_wp2_with fail
  refine H.out.mono ?_; rintro e w' ⟨rfl, rfl⟩
  go_wp2_with fail
  go_ret3
  exact ⟨rfl, rfl⟩
theorem drop43_no (v : Value) (b : Int) (w : World) (h : NoSm w v) : Calls Tryz.prog 167 #[v, .int .u8 b] w fun e w' => e = .returned (.int .i64 2) ∧ w' = w := by
  have H := Lib.hid (ok66_no v w h)
  have hnot : ∀ (x : Bool) (w : World), (Op.unary .not (.bool x)).run Tryz.prog w = .ok (.bool (!x)) w := fun _ _ => rfl
  clear h
  go_enter Tryz.func167, Tryz.ntmps167
  go_wp2_with fail
  refine H.out.mono ?_; rintro e w' ⟨rfl, rfl⟩
  go_wp2_with fail
  go_ret
  exact ⟨rfl, rfl⟩
theorem set44_no (v : Value) (b : Int) (x : Th) (w : World) (h : NoSm w v) : Calls Tryz.prog 158 #[v, .int .u8 b, .pointer x] w fun e w' => e = .returned (.int .i64 2) ∧ w' = w := by
  have H := Lib.hid (ok66_no v w h)
  have hnot : ∀ (x : Bool) (w : World), (Op.unary .not (.bool x)).run Tryz.prog w = .ok (.bool (!x)) w := fun _ _ => rfl
  clear h
  go_enter Tryz.func158, Tryz.ntmps158
  go_wp2_with fail
  refine H.out.mono ?_; rintro e w' ⟨rfl, rfl⟩
  go_wp2_with fail
  go_ret
  exact ⟨rfl, rfl⟩
theorem copy46_no (v : Value) (w : World) (h : NoSm w v) : Calls Tryz.prog 165 #[v] w fun e w' => e = .returned (.pointer none) ∧ w' = w := by
  have H := Lib.hid (ok66_no v w h)
  have hnot : ∀ (x : Bool) (w : World), (Op.unary .not (.bool x)).run Tryz.prog w = .ok (.bool (!x)) w := fun _ _ => rfl
  clear h
  go_enter Tryz.func165, Tryz.ntmps165
  go_wp2_with fail
  refine H.out.mono ?_; rintro e w' ⟨rfl, rfl⟩
  go_wp2_with fail
  go_returns
  exact ⟨rfl, rfl⟩

set_option maxRecDepth 100000 in
set_option maxHeartbeats 800000 in
theorem at68 (g n : Nat) (room : Nat) (B : Nat → Nat) (X : Nat → Th) (i : Int) (w : World) (h : Sm w g room n B X) (hn : n ≤ 16) :
    Calls Tryz.prog 145 #[.pointer (some ⟨g, 0, none⟩), .int .i64 i] w fun e w' => e = .returned (tri (atT n B X i)) ∧ ∃ z, w' = w.drewN z := by
  have c1 := h.vN
  unfold atT
  by_cases h1 : i < 0
  · rw [if_neg (by omega)]
    have d0 : decide (i < 0) = true := by simp; omega
    clear h
    go_enter Tryz.func145, Tryz.ntmps145
    go_wp2_with fail
    go_ret3
    exact ⟨rfl, 0, rfl⟩
  · have d0 : decide (i < 0) = false := by simp; omega
    by_cases h2 : (n : Int) ≤ i
    · rw [if_neg (by omega)]
      have d1 : decide ((n : Int) ≤ i) = true := by simp; omega
      clear h
      go_enter Tryz.func145, Tryz.ntmps145
      go_wp2_with fail
      go_ret3
      exact ⟨rfl, 0, rfl⟩
    · rw [if_pos (by omega)]
      obtain ⟨k, rfl⟩ := Int.eq_ofNat_of_zero_le (show 0 ≤ i by omega)
      have d1 : decide ((n : Int) ≤ (k : Int)) = false := by simp; omega
      have b0 : (0 : Int) ≤ (k : Int) := by omega
      have b1 : (k : Int) < 16 := by omega
      have c2 := h.vB k (by omega)
      have c3 := h.vX k (by omega)
      clear h
      simp only [Int.toNat_natCast]
      go_enter Tryz.func145, Tryz.ntmps145
      go_wp2_with fail
      go_quiet (fail)
      go_wp2_with fail
      go_ret3
      exact ⟨rfl, _, rfl⟩

set_option maxHeartbeats 800000 in
theorem get48 (g n b : Nat) (room : Nat) (B : Nat → Nat) (X : Nat → Th) (f : Nat → Option Th) (w : World) (h : Sm w g room n B X) (hp : SmP room n B X f) (hb : b < 256) :
    Calls Tryz.prog 88 #[.pointer (some ⟨g, 0, none⟩), .int .u8 b] w fun e w' => e = .returned (.tuple #[.pointer (valO (f b)), .bool (f b).isSome]) ∧ ∃ z, w' = w.drewN z := by
  have r1 := hp.room1
  have r16 := hp.room16
  have hle := hp.le
  obtain ⟨i, is, ha⟩ := AtP.exists b hp.srt
  have H := Lib.hid (ok66 g room w h.vRoom (by omega))
  have HP := Lib.hid (place67 g n b i is room B X w h (by omega) hp.srt ha)
  have hnot : ∀ (x : Bool) (w : World), (Op.unary .not (.bool x)).run Tryz.prog w = .ok (.bool (!x)) w := fun _ _ => rfl
  rcases hp.get hb ha with ⟨rfl, hi, hf⟩ | ⟨rfl, hf⟩
  · rw [hf]
    have b0 : (0 : Int) ≤ (i : Int) := by omega
    have b1 : (i : Int) < 16 := by omega
    have hx := h.vX i (by omega)
    clear h hf ha hp
    simp only [valO, Option.getD, Option.isSome]
    go_enter Tryz.func88, Tryz.ntmps88
    go_wp2_with fail
    refine H.out.mono ?_; rintro e w' ⟨rfl, hw'⟩
    rw [hw']; clear hw' w'
    go_wp2_with fail
    refine HP.out.mono ?_; rintro e w' ⟨rfl, z, hw'⟩
    rw [hw']; clear hw' w'
    go_wp2_with fail
    go_ret2
    exact ⟨rfl, _, rfl⟩
  · rw [hf]
    clear h hf ha hp
    simp only [valO, Option.getD, Option.isSome]
    go_enter Tryz.func88, Tryz.ntmps88
    go_wp2_with fail
    refine H.out.mono ?_; rintro e w' ⟨rfl, hw'⟩
    rw [hw']; clear hw' w'
    go_wp2_with fail
    refine HP.out.mono ?_; rintro e w' ⟨rfl, z, hw'⟩
    rw [hw']; clear hw' w'
    go_wp2_with fail
    go_ret2
    exact ⟨rfl, _, rfl⟩

set_option maxHeartbeats 800000 in
theorem next47 (g n : Nat) (room : Nat) (B : Nat → Nat) (X : Nat → Th) (f : Nat → Option Th) (from' : Int) (w : World) (h : Sm w g room n B X) (hp : SmP room n B X f) :
    Calls Tryz.prog 121 #[.pointer (some ⟨g, 0, none⟩), .int .i64 from'] w fun e w' => ∃ r, NextR f (max from' 0) r ∧ e = .returned (tri r) ∧ ∃ z, w' = w.drewN z := by
  have r1 := hp.room1
  have r16 := hp.room16
  have hle := hp.le
  have H := Lib.hid (ok66 g room w h.vRoom (by omega))
  have hnot : ∀ (x : Bool) (w : World), (Op.unary .not (.bool x)).run Tryz.prog w = .ok (.bool (!x)) w := fun _ _ => rfl
  by_cases h1 : 255 < from'
  · have d0 : decide (255 < from') = true := by simp; omega
    have h2 : NextR f (max from' 0) ⟨0, none, false⟩ := Or.inr ⟨fun c h3 h4 => by omega, rfl⟩
    have H2 := Lib.hid h2
    clear h hp h2
    go_enter Tryz.func121, Tryz.ntmps121
    go_wp2_with fail
    refine H.out.mono ?_; rintro e w' ⟨rfl, hw'⟩
    rw [hw']; clear hw' w'
    go_wp2_with fail
    go_ret3
    exact ⟨⟨0, none, false⟩, H2.out, rfl, 0, rfl⟩
  · have d0 : decide (255 < from') = false := by simp; omega
    obtain ⟨s, hs⟩ : ∃ s : Nat, (if (0 : Int) > from' then 0 else from') = (s : Int) ∧ max from' 0 = (s : Int) ∧ s < 256 := by
      by_cases h0 : (0 : Int) > from'
      · exact ⟨0, by rw [if_pos h0]; rfl, by omega, by omega⟩
      · exact ⟨from'.toNat, by rw [if_neg h0]; omega, by omega, by omega⟩
    obtain ⟨hs1, hs2, hs3⟩ := hs
    obtain ⟨i, is, ha⟩ := AtP.exists s hp.srt
    have HP := Lib.hid (place67 g n s i is room B X w h (by omega) hp.srt ha)
    have HN := Lib.hid (hp.next ha)
    have HM := Lib.hid hs1
    have q0 : IntKind.u8.wrap (s : Int) = (s : Int) := IntWalk.u8_in _ (by omega)
    have HS := Lib.hid h
    have hn16 : n ≤ 16 := by omega
    rw [hs2]
    clear h hp ha hs1 hs2
    obtain ⟨⟨rb, rx, rk⟩, hr⟩ : ∃ r, r = atT n B X i := ⟨_, rfl⟩
    have HR := Lib.hid hr
    clear hr
    go_enter Tryz.func121, Tryz.ntmps121
    go_wp2_with fail
    refine H.out.mono ?_; rintro e w' ⟨rfl, hw'⟩
    rw [hw']; clear hw' w'
    go_wp2_with (refine wpList_max rfl _ _ 3 (by rfl) from' 0 s (by rfl) (by rfl) HM.out ?_; refine stop ?_)
    refine unhid ?_
    go_wp2_with fail
    refine HP.out.mono ?_; rintro e w' ⟨rfl, z, hw'⟩
    have HS2 : Hid (Sm w' g room n B X) := by show Sm _ _ _ _ _ _; rw [hw']; exact ⟨HS.out.heap⟩
    have HZ := Lib.hid hw'
    clear hw'
    go_wp2_with fail
    refine (at68 g n room B X i w' HS2.out hn16).mono ?_
    rw [← HR.out]
    rintro e w2 ⟨rfl, z2, hw2⟩
    have HZ2 : Hid (∃ z, w2 = w.drewN z) := ⟨z + z2, by rw [hw2, HZ.out, World.drewN_drewN]⟩
    clear hw2
    simp only [tri]
    go_wp2_with fail
    go_ret3
    exact ⟨⟨rb, rx, rk⟩, by rw [HR.out]; exact HN.out, rfl, HZ2.out⟩

end Go.Proofs.YtbihlmkjoplkoaaGreatDoor
