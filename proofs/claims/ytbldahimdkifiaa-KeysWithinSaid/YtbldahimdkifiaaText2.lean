/-
  Contracts of the seat's two functions that tell a key's text.
-/
import Derived.Test.YtbldahimdkifiaaText
import Derived.Laws.DeepStrings4
namespace Go.Proofs.Ytbldahimdkifiaa
open Go.RowKit
set_option linter.unusedVariables false

def textS (xs : List Int) : ByteArray := ⟨(textL xs).toArray⟩
theorem textS_data (xs : List Int) : (textS xs).data.toList = textL xs := rfl
def textI (xs : List Int) : List Int := (textL xs).map fun c => (c.toNat : Int)

theorem length_textI (xs : List Int) : (textI xs).length = 2 * xs.length := by simp [textI, length_textL]
theorem byte_textI (xs : List Int) : ∀ x ∈ textI xs, 0 ≤ x ∧ x < 256 := by
  intro x hx
  obtain ⟨c, _, rfl⟩ := List.mem_map.1 hx
  have := UInt8.toNat_lt c
  omega

theorem textL_take (xs : List Int) (k : Nat) (hk : k < xs.length) : textL (xs.take (k + 1)) = textL (xs.take k) ++ [dg (xs.getD k 0 / 16), dg (xs.getD k 0 % 16)] := by
  rw [List.take_succ_eq_append_getElem hk]
  simp only [textL, List.flatMap_append, List.flatMap_cons, List.flatMap_nil, List.append_nil, List.getD_eq_getElem?_getD, List.getElem?_eq_getElem hk, Option.getD_some]

theorem textI_take (xs : List Int) (k : Nat) (hk : k < xs.length) : textI (xs.take (k + 1)) = textI (xs.take k) ++ [((dg (xs.getD k 0 / 16)).toNat : Int), ((dg (xs.getD k 0 % 16)).toNat : Int)] := by
  simp only [textI, textL_take xs k hk, List.map_append, List.map_cons, List.map_nil]

theorem textI_str (xs : List Int) : strOfNums (textI xs) = textS xs := by
  simp only [strOfNums, textS, textI, List.map_map]
  congr 2
  conv => rhs; rw [← List.map_id (textL xs)]
  apply List.map_congr_left
  intro c hc
  simp

theorem run_digit (x : Int) (h : 0 ≤ x ∧ x < 16) (k : IntKind) (w : World) :
    (Instr.index 9 (.string ⟨#[48, 49, 50, 51, 52, 53, 54, 55, 56, 57, 97, 98, 99, 100, 101, 102]⟩) (.int k x)).run Try.prog w = .ok (.int .u8 ((dg x).toNat : Int)) w := by
  rw [run_index_string (P := Try.prog) w 9 _ k x Try.underlying9]
  obtain ⟨n, rfl⟩ := Int.eq_ofNat_of_zero_le h.1
  rw [dif_pos ⟨by omega, by show (n : Int) < 16; omega⟩]
  have : n = 0 ∨ n = 1 ∨ n = 2 ∨ n = 3 ∨ n = 4 ∨ n = 5 ∨ n = 6 ∨ n = 7 ∨ n = 8 ∨ n = 9 ∨ n = 10 ∨ n = 11 ∨ n = 12 ∨ n = 13 ∨ n = 14 ∨ n = 15 := by omega
  rcases this with rfl | rfl | rfl | rfl | rfl | rfl | rfl | rfl | rfl | rfl | rfl | rfl | rfl | rfl | rfl | rfl <;> rfl

/-- append of bytes, at a step of a region that draws its order -/
theorem step_append_bytes {w : World} {ops : Array Oper} {o : Oper} {a : Act} {K : Act → World → Prop} {Q : Exit → Act → World → Prop} {E : Prop} (hgd : o.guard = none) (s x : Operand)
    (ho : o.op = .call { callee := .builtin .append, args := #[s, x], argTypes := #[22, 22] })
    (base : Nat) (p0 : Option Addr) (k cap : Nat) (l : List Int) (hs : a.eval s = .slice p0 k cap) (hown : w.ownsRow base 5 1 (.slice p0 k cap) k (l.map (Value.int .u8)))
    (p : Option Addr) (n c : Nat) (xs : List Int) (hx : a.eval x = .slice p n c) (hB : Bs w p n c xs) (hn : 0 < n) (hsum : k + n ≤ 140737488351232) (hbase : base ≤ w.heap.size)
    (h : ∀ p' cap' w', w'.ownsRow base 5 1 (.slice p' (k + n) cap') (k + n) ((l ++ xs).map (Value.int .u8)) → Below base w w' →
      K (a.put o.dst (.slice p' (k + n) cap')) w') : if Region.wanted o (yielded ops a.tmps) = true then Oper.wp Try.prog o a w K Q else E := by
  obtain ⟨i0, hi, hz0, hz1, hz2⟩ := info_parts info5
  obtain ⟨b, o', rfl, _⟩ := hB.cells.at hn
  refine step_append_lies w hgd s x 22 ho base 5 i0 (.int .u8 0) 1 1 Try.underlying22 hi hz0 hz1 hz2 rfl (by decide) _ k _ hs hown ⟨b, o', none⟩ n c (xs.map (Value.int .u8)) hx (by rw [List.length_map, hB.len]; omega) hB.news (one_bytes xs) hn (by unfold maxLen; omega) (by omega) hbase w.heap.size rfl ?_
  intro g c1 w1 hown1 hgrow _ _
  refine h _ _ w1 ?_ ?_
  · rw [List.map_append]; exact hown1
  · exact (Below.refl _ _).grown hgrow hbase (fun k hk => (hown.lt k hk).1)

set_option maxRecDepth 100000 in
set_option maxHeartbeats 800000 in
theorem text43 (p : Option Addr) (n c : Nat) (xs : List Int) (w : World) (h : Bs w p n c xs) (hn : n ≤ 300) :
    Calls Try.prog 43 #[.slice p n c] w fun e w' => e = .returned (.string (textS xs)) ∧ Below w.heap.size w w' := by
  have H := Lib.hid h
  have HLEN := Lib.hid h.len
  clear h
  go_enter Try.func43, Try.ntmps43
  go_wp2_with (at_make; refine stop ?_)
  refine unhid ?_
  obtain ⟨i0, hi, hz0, hz1, hz2⟩ := info_parts info5
  refine wpList_make_own _ rfl _ _ 22 (by rfl) w.heap.size 5 i0 (.int .u8 0) 1 Try.underlying22 hi hz0 hz1 .i64 .i64 (2 * (n : Int)) (2 * n) (by rfl) (by rfl) (by omega) (by rw [hz2]; omega) (by unfold maxLen; omega) (Nat.le_refl _) ?_
  intro w1 hown hgrow
  have HM : Hid (Made w w1 (.slice (some ⟨w.heap.size, 0, none⟩) 0 (2 * n)) (textI (xs.take 0))) := ⟨by simpa [textI, textL] using hown, (Below.refl _ _).grown hgrow (Nat.le_refl _) (fun k hk => by cases hk), by simp [textI, textL]⟩
  clear hown hgrow hi hz0 hz1 hz2
  go_wp2
  go_loopw [3, 12] (fun v t wr => ∃ (k : Nat) (pv : Option Addr) (cv : Nat), t = .int .i64 k ∧ k ≤ n ∧ v = .slice pv (2 * k) cv ∧ Hid (Made w wr v (textI (xs.take k)))) (fun _ t _ => n - (intOf t).toNat)
  case atStart => exact ⟨0, some ⟨w.heap.size, 0, none⟩, 2 * n, rfl, by omega, rfl, HM⟩
  case round =>
    obtain ⟨k, pv, cv, rfl, hk, rfl, hm⟩ := hrel
    by_cases hlt : k < n
    · obtain ⟨b, o, rfl, hc⟩ := (H.out.below hm.out.below).cells.at (by omega)
      have g := hc k hlt
      have hb := H.out.get k
      have htk := textI_take xs k (by rw [HLEN.out]; exact hlt)
      generalize xs.getD k 0 = x at *
      have i0 := fun w => run_digit (x / 16) (by omega) .u8 w
      have i1 := fun w => run_digit (x % 16) (by omega) .u8 w
      have i2 : ∀ w, (Instr.index 9 (.string ⟨#[48, 49, 50, 51, 52, 53, 54, 55, 56, 57, 97, 98, 99, 100, 101, 102]⟩) (.int .u8 (bits .and .u8 x 15))).run Try.prog w = .ok (.int .u8 ((dg (x % 16)).toNat : Int)) w := fun w => by
        rw [u8_and15 _ hb.1 hb.2]; exact i1 w
      have q1 := UInt8.toNat_lt (dg (x / 16))
      have q2 := UInt8.toNat_lt (dg (x % 16))
      generalize (dg (x / 16)).toNat = d1 at *
      generalize (dg (x % 16)).toNat = d2 at *
      have HTK := Lib.hid htk
      clear hc htk HM
      have hb1 : 0 ≤ x := hb.1
      have hb2 : x < 256 := hb.2
      clear hb
      go_wp2
      have hlk : (textI (xs.take k)).length = 2 * k := by rw [length_textI, List.length_take, HLEN.out]; omega
      have hown2 : Hid (wr.ownsRow w.heap.size 5 1 (.slice pv (2 * k) cv) (2 * k) ((textI (xs.take k)).map (Value.int .u8))) := by
        have := hm.out.own
        rw [hlk] at this; exact this
      clear hlk
      go_region_held3 (fun w' => True) (trivial) ((refine step_append_bytes (by rfl) _ _ (by rfl) w.heap.size pv (2 * k) cv (textI (xs.take k)) (by rfl) (by exact own_heap (w := wr.alloc _) (hown2.out.alloc _) rfl) (some ⟨wr.heap.size, 0, none⟩) 2 2 [(d1 : Int), (d2 : Int)] (by rfl) (by exact (Bs.lit1 wr [(d1 : Int), (d2 : Int)] 2 rfl (by omega) (by intro z hz; simp at hz; omega)).same rfl) (by omega) (by omega) (by have := hm.out.below.size; exact Nat.le_trans this (by show wr.heap.size ≤ (wr.heap.push _).size; simp)) ?_; intro p' cap' w' hown' hbel'))
      all_goals
        have HM2 : Hid (Made w w' (.slice p' (2 * k + 2) cap') (textI (xs.take (k + 1)))) := ⟨by
            have : (textI (xs.take (k + 1))).length = 2 * k + 2 := by rw [length_textI, List.length_take, HLEN.out]; omega
            rw [this, HTK.out]; exact hown',
          (((hm.out.below.alloc hm.out.below.size _).drew).trans hbel'), byte_textI _⟩
        clear hown' hbel'
        go_wp2
        go_roundw
        case rel => exact ⟨k + 1, p', cap', by go_num, by omega, by rw [Nat.mul_add], HM2⟩
        case measure => simp [intOf]; omega
    · obtain rfl : k = n := by omega
      have hl2 : (textI (xs.take k)).length = 2 * k := by rw [length_textI, List.length_take, HLEN.out]; omega
      have htake : xs.take k = xs := List.take_of_length_le (by rw [HLEN.out]; exact Nat.le_refl _)
      have hown := hm.out.own
      rw [hl2] at hown
      have hbs := Bs.ofOwn hown (by omega) hm.out.byte
      have hconv := Lib.BytesIn.convert (P := Try.prog) hbs.cells hbs.len cv 22 5 9 Try.underlying22 Try.underlying5 Try.underlying9
      rw [htake, textI_str] at hconv
      have HBEL := Lib.hid hm.out.below
      clear hl2 htake hown hbs hm HM
      obtain ⟨T, hT⟩ : ∃ T, textS xs = T := ⟨_, rfl⟩
      rw [hT] at hconv
      have HT := Lib.hid hT
      clear hT
      go_wp2
      go_ret
      exact ⟨by rw [HT.out]; rfl, HBEL.out⟩

/-! ### the reference's Text -/
def digS (x : Int) : ByteArray := ⟨#[dg (x / 16), dg (x % 16)]⟩

theorem run_slice_dig (x : Int) (h : 0 ≤ x ∧ x < 16) (w : World) :
    (Instr.slice 9 (.string ⟨#[48, 49, 50, 51, 52, 53, 54, 55, 56, 57, 97, 98, 99, 100, 101, 102]⟩) (some (.int .i64 x)) (some (.int .i64 (x + 1))) none).run Try.prog w = .ok (.string ⟨#[dg x]⟩) w := by
  obtain ⟨n, rfl⟩ := Int.eq_ofNat_of_zero_le h.1
  rw [run_slice_string_if (P := Try.prog) w 9 _ .i64 .i64 _ _ Try.underlying9]
  have hsz : (⟨#[48, 49, 50, 51, 52, 53, 54, 55, 56, 57, 97, 98, 99, 100, 101, 102]⟩ : ByteArray).size = 16 := rfl
  rw [hsz]
  have : n = 0 ∨ n = 1 ∨ n = 2 ∨ n = 3 ∨ n = 4 ∨ n = 5 ∨ n = 6 ∨ n = 7 ∨ n = 8 ∨ n = 9 ∨ n = 10 ∨ n = 11 ∨ n = 12 ∨ n = 13 ∨ n = 14 ∨ n = 15 := by omega
  rcases this with rfl | rfl | rfl | rfl | rfl | rfl | rfl | rfl | rfl | rfl | rfl | rfl | rfl | rfl | rfl | rfl <;> rfl

theorem run_add_dig (a b : UInt8) (w : World) : (Op.stringOp .add ⟨#[a]⟩ ⟨#[b]⟩).run Try.prog w = .ok (.string ⟨#[a, b]⟩) w := by
  rw [run_string_add_sum]
  · rfl
  · show 1 + 1 ≤ _; omega

set_option maxHeartbeats 400000 in
theorem digits67 (x : Int) (h : 0 ≤ x ∧ x < 256) (w : World) : Calls Try.prog 67 #[.int .u8 x] w fun e w' => e = .returned (.string (digS x)) ∧ ∃ z, w' = w.drewN z := by
  have h0 := h.1
  have h1 := h.2
  clear h
  have s1 := fun w => run_slice_dig (x / 16) (by omega) w
  have s2 := fun w => run_slice_dig (x % 16) (by omega) w
  have hadd := fun w => run_add_dig (dg (x / 16)) (dg (x % 16)) w
  obtain ⟨A, hA⟩ : ∃ A : ByteArray, ⟨#[dg (x / 16)]⟩ = A := ⟨_, rfl⟩
  obtain ⟨B, hB⟩ : ∃ B : ByteArray, ⟨#[dg (x % 16)]⟩ = B := ⟨_, rfl⟩
  obtain ⟨D, hD⟩ : ∃ D : ByteArray, ⟨#[dg (x / 16), dg (x % 16)]⟩ = D := ⟨_, rfl⟩
  rw [hA] at s1
  rw [hB] at s2
  rw [hA, hB, hD] at hadd
  have HD := Lib.hid hD
  clear hA hB hD
  have w1 : IntKind.i64.wrap (x / 16 + 1) = x / 16 + 1 := IntWalk.i64_in _ (by omega)
  have w2 : IntKind.i64.wrap (x % 16 + 1) = x % 16 + 1 := IntWalk.i64_in _ (by omega)
  go_enter Try.func67, Try.ntmps67
  go_wp2
  go_quiet (fail)
  go_wp2
  go_ret
  exact ⟨by rw [digS, HD.out]; rfl, _, rfl⟩

theorem textS_take (xs : List Int) (k : Nat) (hk : k < xs.length) : textS (xs.take k) ++ digS (xs.getD k 0) = textS (xs.take (k + 1)) := by
  simp only [textS, digS, textL_take xs k hk]
  apply ByteArray.ext
  simp

theorem size_textS (xs : List Int) : (textS xs).size = 2 * xs.length := by
  rw [Lib.size_eq, textS_data, length_textL]

set_option maxRecDepth 100000 in
set_option maxHeartbeats 800000 in
theorem text44 (p : Option Addr) (n c : Nat) (xs : List Int) (w : World) (h : Bs w p n c xs) (hn : n ≤ 300) :
    Calls Try.prog 44 #[.slice p n c] w fun e w' => e = .returned (.string (textS xs)) ∧ ∃ z, w' = w.drewN z := by
  have H := Lib.hid h
  have HLEN := Lib.hid h.len
  clear h
  go_enter Try.func44, Try.ntmps44
  go_wp2
  go_loopw [3, 4] (fun v t wr => ∃ (k : Nat) (S : ByteArray), t = .int .i64 k ∧ k ≤ n ∧ v = .string S ∧ Hid (S = textS (xs.take k)) ∧ ∃ z, wr = w.drewN z) (fun _ t _ => n - (intOf t).toNat)
  case atStart => exact ⟨0, _, rfl, by omega, rfl, rfl, 0, rfl⟩
  case round =>
    obtain ⟨k, S, rfl, hk, rfl, hS, z, rfl⟩ := hrel
    by_cases hlt : k < n
    · obtain ⟨b, o, rfl, hc⟩ := H.out.cells.at (by omega)
      have g := hc k hlt
      have hb := H.out.get k
      have hst := textS_take xs k (by rw [HLEN.out]; exact hlt)
      have hsz : (textS (xs.take k)).size ≤ 600 := by rw [size_textS, List.length_take]; omega
      rw [← hS.out] at hst hsz
      obtain ⟨x, hx⟩ : ∃ x, xs.getD k 0 = x := ⟨_, rfl⟩
      rw [hx] at g hb hst
      have hadd : ∀ w, (Op.stringOp .add S (digS x)).run Try.prog w = .ok (.string (textS (xs.take (k + 1)))) w := fun w => by
        rw [run_string_add_sum _ _ _ (by show S.size + 2 ≤ _; omega), hst]
      have HD := Lib.hid (fun w => digits67 x hb w)
      generalize digS x = D at *
      obtain ⟨S2, hS2⟩ : ∃ S2, textS (xs.take (k + 1)) = S2 := ⟨_, rfl⟩
      rw [hS2] at hadd
      have HS2 := Lib.hid hS2.symm
      clear hx hst hsz hS2 hc hb
      go_wp2_with fail
      refine (HD.out _).mono ?_; rintro e w' ⟨rfl, z2, rfl⟩
      go_wp2_with fail
      go_roundw
      case rel => exact ⟨k + 1, S2, by go_num, by omega, rfl, HS2, _, rfl⟩
      case measure => simp [intOf]; omega
    · obtain rfl : k = n := by omega
      go_wp2
      go_ret
      have htake : xs.take k = xs := List.take_of_length_le (by rw [HLEN.out]; exact Nat.le_refl _)
      refine ⟨?_, z, rfl⟩
      have := hS.out
      rw [htake] at this
      rw [← this]; rfl

end Go.Proofs.Ytbldahimdkifiaa
