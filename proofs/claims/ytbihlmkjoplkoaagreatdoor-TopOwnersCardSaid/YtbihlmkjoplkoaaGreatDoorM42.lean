/-
  For the statement TopOwners: keys: Text.
-/
import Derived.Test.YtbihlmkjoplkoaaGreatDoorM41
import Derived.Laws.DeepStrings4
namespace Go.Proofs.YtbihlmkjoplkoaaGreatDoor
open Go.RowKit
set_option linter.unusedVariables false

/-- the sixteen digits, as bytes -/
def dgs : List UInt8 := [48, 49, 50, 51, 52, 53, 54, 55, 56, 57, 97, 98, 99, 100, 101, 102]
/-- the digit of a number below 16 -/
def dg (x : Int) : UInt8 := dgs.getD x.toNat 0
/-- a key's text -/
def textL (xs : List Int) : List UInt8 := xs.flatMap fun x => [dg (x / 16), dg (x % 16)]
theorem length_textL (xs : List Int) : (textL xs).length = 2 * xs.length := by
  induction xs with
  | nil => rfl
  | cons x xs ih => simp only [textL, List.flatMap_cons, List.length_append, List.length_cons, List.length_nil] at ih ⊢; omega

theorem own_heap {w w' : World} {base : Nat} {e : TypeId} {size : Nat} {v : Value} {n : Nat} {xs : List Value} (h : w.ownsRow base e size v n xs) (hh : w'.heap = w.heap) : w'.ownsRow base e size v n xs := by
  unfold World.ownsRow at *
  rw [hh]; exact h

/-- the bytes of a literal, in the block that was made last -/
theorem Bs.lit1 (w : World) (l : List Int) (n : Nat) (hl : l.length = n) (hn : n ≤ 140737488351232) (hb : ∀ x ∈ l, 0 ≤ x ∧ x < 256) :
    Bs (w.alloc (.cells (l.map (Value.int .u8)).toArray 5)) (some ⟨w.heap.size, 0, none⟩) n n l :=
  ⟨hl, Nat.le_refl _, hn, hb, fun _ => ⟨_, 0, rfl, fun i hi => by
    rw [cell_of_row _ _ (0 + i) _ 5 (0, 0) (heap_alloc_new w _)]
    subst hl
    simp [List.getD_eq_getElem?_getD, hi]⟩⟩

/-- what the loop knows of the list that it has made so far -/
structure MadeT (w wr : World) (v : Value) (acc : List Int) : Prop where
  own : wr.ownsRow w.heap.size 5 1 v acc.length (acc.map (Value.int .u8))
  below : Below w.heap.size w wr
  byte : ∀ x ∈ acc, 0 ≤ x ∧ x < 256

def textS (xs : List Int) : ByteArray := ⟨(textL xs).toArray⟩
theorem textS_data (xs : List Int) : (textS xs).data.toList = textL xs := rfl
def textI (xs : List Int) : List Int := (textL xs).map fun c => (c.toNat : Int)

theorem length_textI (xs : List Int) : (textI xs).length = 2 * xs.length := by simp [textI, length_textL]
theorem byte_textI (xs : List Int) : ∀ x ∈ textI xs, 0 ≤ x ∧ x < 256 := by
  intro x hx
  obtain ⟨c, _, rfl⟩ := List.mem_map.1 hx
  have := UInt8.toNat_lt c
  omega

theorem textL_take (xs : List Int) (k : Nat) (hk : k < xs.length) : textL (xs.take (k + 1)) = textL (xs.take k) ++ [dg (xs.getD k 0 / 16), dg (xs.getD k 0 % 16)] := by
  rw [List.take_succ_eq_append_getElem hk]
  simp only [textL, List.flatMap_append, List.flatMap_cons, List.flatMap_nil, List.append_nil, List.getD_eq_getElem?_getD, List.getElem?_eq_getElem hk, Option.getD_some]

theorem textI_take (xs : List Int) (k : Nat) (hk : k < xs.length) : textI (xs.take (k + 1)) = textI (xs.take k) ++ [((dg (xs.getD k 0 / 16)).toNat : Int), ((dg (xs.getD k 0 % 16)).toNat : Int)] := by
  simp only [textI, textL_take xs k hk, List.map_append, List.map_cons, List.map_nil]

theorem textI_str (xs : List Int) : strOfNums (textI xs) = textS xs := by
  simp only [strOfNums, textS, textI, List.map_map]
  congr 2
  conv => rhs; rw [← List.map_id (textL xs)]
  apply List.map_congr_left
  intro c hc
  simp

theorem run_digit (x : Int) (h : 0 ≤ x ∧ x < 16) (k : IntKind) (w : World) :
    (Instr.index 9 (.string ⟨#[48, 49, 50, 51, 52, 53, 54, 55, 56, 57, 97, 98, 99, 100, 101, 102]⟩) (.int k x)).run Tryz.prog w = .ok (.int .u8 ((dg x).toNat : Int)) w := by
  rw [run_index_string (P := Tryz.prog) w 9 _ k x Tryz.underlying9]
  obtain ⟨n, rfl⟩ := Int.eq_ofNat_of_zero_le h.1
  rw [dif_pos ⟨by omega, by show (n : Int) < 16; omega⟩]
  have : n = 0 ∨ n = 1 ∨ n = 2 ∨ n = 3 ∨ n = 4 ∨ n = 5 ∨ n = 6 ∨ n = 7 ∨ n = 8 ∨ n = 9 ∨ n = 10 ∨ n = 11 ∨ n = 12 ∨ n = 13 ∨ n = 14 ∨ n = 15 := by omega
  rcases this with rfl | rfl | rfl | rfl | rfl | rfl | rfl | rfl | rfl | rfl | rfl | rfl | rfl | rfl | rfl | rfl <;> rfl

/-- append of bytes, at a step of a region that draws its order -/
theorem step_append_bytes {w : World} {ops : Array Oper} {o : Oper} {a : Act} {K : Act → World → Prop} {Q : Exit → Act → World → Prop} {E : Prop} (hgd : o.guard = none) (s x : Operand)
    (ho : o.op = .call { callee := .builtin .append, args := #[s, x], argTypes := #[41, 41] })
    (base : Nat) (p0 : Option Addr) (k cap : Nat) (l : List Int) (hs : a.eval s = .slice p0 k cap) (hown : w.ownsRow base 5 1 (.slice p0 k cap) k (l.map (Value.int .u8)))
    (p : Option Addr) (n c : Nat) (xs : List Int) (hx : a.eval x = .slice p n c) (hB : Bs w p n c xs) (hn : 0 < n) (hsum : k + n ≤ 140737488351232) (hbase : base ≤ w.heap.size)
    (h : ∀ p' cap' w', w'.ownsRow base 5 1 (.slice p' (k + n) cap') (k + n) ((l ++ xs).map (Value.int .u8)) → Below base w w' →
      K (a.put o.dst (.slice p' (k + n) cap')) w') : if Region.wanted o (yielded ops a.tmps) = true then Oper.wp Tryz.prog o a w K Q else E := by
  obtain ⟨i0, hi, hz0, hz1, hz2⟩ := info_parts info5
  obtain ⟨b, o', rfl, _⟩ := hB.cells.at hn
  refine step_append_lies w hgd s x 41 ho base 5 i0 (.int .u8 0) 1 1 Tryz.underlying41 hi hz0 hz1 hz2 rfl (by decide) _ k _ hs hown ⟨b, o', none⟩ n c (xs.map (Value.int .u8)) hx (by rw [List.length_map, hB.len]; omega) hB.news (one_bytes xs) hn (by unfold maxLen; omega) (by omega) hbase w.heap.size rfl ?_
  intro g c1 w1 hown1 hgrow _ _
  refine h _ _ w1 ?_ ?_
  · rw [List.map_append]; exact hown1
  · exact (Below.refl _ _).grown hgrow hbase (fun k hk => (hown.lt k hk).1)

set_option maxRecDepth 100000 in
set_option maxHeartbeats 800000 in
theorem text97 (p : Option Addr) (n c : Nat) (xs : List Int) (w : World) (h : Bs w p n c xs) (hn : n ≤ 65536) :
    Calls Tryz.prog 97 #[.slice p n c] w fun e w' => e = .returned (.string (textS xs)) ∧ Below w.heap.size w w' := by
  have H := Lib.hid h
  have HLEN := Lib.hid h.len
  clear h
  go_enter Tryz.func97, Tryz.ntmps97
  go_wp2_with (at_make; refine stop ?_)
  refine unhid ?_
  obtain ⟨i0, hi, hz0, hz1, hz2⟩ := info_parts info5
  refine wpList_make_own _ rfl _ _ 41 (by rfl) w.heap.size 5 i0 (.int .u8 0) 1 Tryz.underlying41 hi hz0 hz1 .i64 .i64 (2 * (n : Int)) (2 * n) (by rfl) (by rfl) (by omega) (by rw [hz2]; omega) (by unfold maxLen; omega) (Nat.le_refl _) ?_
  intro w1 hown hgrow
  have HM : Hid (MadeT w w1 (.slice (some ⟨w.heap.size, 0, none⟩) 0 (2 * n)) (textI (xs.take 0))) := ⟨by simpa [textI, textL] using hown, (Below.refl _ _).grown hgrow (Nat.le_refl _) (fun k hk => by cases hk), by simp [textI, textL]⟩
  clear hown hgrow hi hz0 hz1 hz2
  go_wp2
  go_loopw [3, 12] (fun v t wr => ∃ (k : Nat) (pv : Option Addr) (cv : Nat), t = .int .i64 k ∧ k ≤ n ∧ v = .slice pv (2 * k) cv ∧ Hid (MadeT w wr v (textI (xs.take k)))) (fun _ t _ => n - (intOf t).toNat)
  case atStart => exact ⟨0, some ⟨w.heap.size, 0, none⟩, 2 * n, rfl, by omega, rfl, HM⟩
  case round =>
    obtain ⟨k, pv, cv, rfl, hk, rfl, hm⟩ := hrel
    by_cases hlt : k < n
    · obtain ⟨b, o, rfl, hc⟩ := (H.out.below hm.out.below).cells.at (by omega)
      have g := hc k hlt
      have hb := H.out.get k
      have htk := textI_take xs k (by rw [HLEN.out]; exact hlt)
      generalize xs.getD k 0 = x at *
      have i0 := fun w => run_digit (x / 16) (by omega) .u8 w
      have i1 := fun w => run_digit (x % 16) (by omega) .u8 w
      have i2 : ∀ w, (Instr.index 9 (.string ⟨#[48, 49, 50, 51, 52, 53, 54, 55, 56, 57, 97, 98, 99, 100, 101, 102]⟩) (.int .u8 (bits .and .u8 x 15))).run Tryz.prog w = .ok (.int .u8 ((dg (x % 16)).toNat : Int)) w := fun w => by
        rw [u8_and15 _ hb.1 hb.2]; exact i1 w
      have q1 := UInt8.toNat_lt (dg (x / 16))
      have q2 := UInt8.toNat_lt (dg (x % 16))
      generalize (dg (x / 16)).toNat = d1 at *
      generalize (dg (x % 16)).toNat = d2 at *
      have HTK := Lib.hid htk
      clear hc htk HM
      have hb1 : 0 ≤ x := hb.1
      have hb2 : x < 256 := hb.2
      clear hb
      go_wp2
      have hlk : (textI (xs.take k)).length = 2 * k := by rw [length_textI, List.length_take, HLEN.out]; omega
      have hown2 : Hid (wr.ownsRow w.heap.size 5 1 (.slice pv (2 * k) cv) (2 * k) ((textI (xs.take k)).map (Value.int .u8))) := by
        have := hm.out.own
        rw [hlk] at this; exact this
      clear hlk
      go_region_held3 (fun w' => True) (trivial) ((refine step_append_bytes (by rfl) _ _ (by rfl) w.heap.size pv (2 * k) cv (textI (xs.take k)) (by rfl) (by exact own_heap (w := wr.alloc _) (hown2.out.alloc _) rfl) (some ⟨wr.heap.size, 0, none⟩) 2 2 [(d1 : Int), (d2 : Int)] (by rfl) (by exact (Bs.lit1 wr [(d1 : Int), (d2 : Int)] 2 rfl (by omega) (by intro z hz; simp at hz; omega)).same rfl) (by omega) (by omega) (by have := hm.out.below.size; exact Nat.le_trans this (by show wr.heap.size ≤ (wr.heap.push _).size; simp)) ?_; intro p' cap' w' hown' hbel'))
      all_goals
        have HM2 : Hid (MadeT w w' (.slice p' (2 * k + 2) cap') (textI (xs.take (k + 1)))) := ⟨by
            have : (textI (xs.take (k + 1))).length = 2 * k + 2 := by rw [length_textI, List.length_take, HLEN.out]; omega
            rw [this, HTK.out]; exact hown',
          (((hm.out.below.alloc hm.out.below.size _).drew).trans hbel'), byte_textI _⟩
        clear hown' hbel'
        go_wp2
        go_roundw
        case rel => exact ⟨k + 1, p', cap', by go_num, by omega, by rw [Nat.mul_add], HM2⟩
        case measure => simp [intOf]; omega
    · obtain rfl : k = n := by omega
      have hl2 : (textI (xs.take k)).length = 2 * k := by rw [length_textI, List.length_take, HLEN.out]; omega
      have htake : xs.take k = xs := List.take_of_length_le (by rw [HLEN.out]; exact Nat.le_refl _)
      have hown := hm.out.own
      rw [hl2] at hown
      have hbs := Bs.ofOwn hown (by omega) hm.out.byte
      have hconv := Lib.BytesIn.convert (P := Tryz.prog) hbs.cells hbs.len cv 41 5 9 Tryz.underlying41 Tryz.underlying5 Tryz.underlying9
      rw [htake, textI_str] at hconv
      have HBEL := Lib.hid hm.out.below
      clear hl2 htake hown hbs hm HM
      obtain ⟨T, hT⟩ : ∃ T, textS xs = T := ⟨_, rfl⟩
      rw [hT] at hconv
      have HT := Lib.hid hT
      clear hT
      go_wp2
      go_ret
      exact ⟨by rw [HT.out]; rfl, HBEL.out⟩


end Go.Proofs.YtbihlmkjoplkoaaGreatDoor
