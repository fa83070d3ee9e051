/-
  Contracts of the seat's functions between keys and texts: Parse (twice), Text (twice), a digit's value, a byte's digits.
-/
import Derived.Test.YtbldahimdkifiaaPlainT
import Derived.Test.YtbldahimdkifiaaApp
import Derived.Test.YtbldahimdkifiaaFar
import Derived.Laws.BitsAllLaws
namespace Go.Proofs.Ytbldahimdkifiaa
open Go.RowKit
set_option linter.unusedVariables false

theorem or_hex : ∀ a b : Fin 17, (bits .or .i64 (((a.val : Int) - 1) * 16) ((b.val : Int) - 1) < 0 ↔ (a.val = 0 ∨ b.val = 0)) ∧
    (a.val ≠ 0 → b.val ≠ 0 → bits .or .i64 (((a.val : Int) - 1) * 16) ((b.val : Int) - 1) = 16 * ((a.val : Int) - 1) + ((b.val : Int) - 1)) := by decide +kernel

theorem or_hex' (x y : Int) (hx : -1 ≤ x ∧ x < 16) (hy : -1 ≤ y ∧ y < 16) :
    (bits .or .i64 (x * 16) y < 0 ↔ (x < 0 ∨ y < 0)) ∧ (0 ≤ x → 0 ≤ y → bits .or .i64 (x * 16) y = 16 * x + y) := by
  have h := or_hex ⟨(x + 1).toNat, by omega⟩ ⟨(y + 1).toNat, by omega⟩
  have e1 : (((x + 1).toNat : Nat) : Int) - 1 = x := by omega
  have e2 : (((y + 1).toNat : Nat) : Int) - 1 = y := by omega
  simp only [e1, e2] at h
  refine ⟨?_, fun h1 h2 => h.2 (by omega) (by omega)⟩
  rw [h.1]
  omega

theorem ibyte65 (c : UInt8) (w : World) : Calls Try.prog 65 #[.string ⟨dgs.toArray⟩, .int .u8 (c.toNat : Int)] w fun e w' => e = .returned (.int .i64 (dv c)) ∧ w' = w := by
  have := Try.strings_IndexByte ⟨dgs.toArray⟩ (c.toNat : Int) w
  rw [show ((c.toNat : Int).toNat.toUInt8) = c by simp] at this
  exact this

/-- a text's length, out of a slot -/
def strLen : Value → Nat | .string s => s.size | _ => 0

theorem run_idx (S : ByteArray) (r : List UInt8) (hS : S.data.toList = r) (i : Nat) (c : UInt8) (hc : r[i]? = some c) (w : World) :
    (Instr.index 9 (.string S) (.int .i64 (i : Int))).run Try.prog w = .ok (.int .u8 (c.toNat : Int)) w := by
  rw [run_index_string (P := Try.prog) w 9 S .i64 i Try.underlying9]
  have hl : i < r.length := (List.getElem?_eq_some_iff.1 hc).1
  have hsz : S.size = r.length := by rw [← hS]; exact Lib.size_eq S
  rw [dif_pos (by omega)]
  have : S[((i : Nat) : Int).toNat]'(by omega) = c := by
    have h1 : S.data[i]? = some c := by rw [← Array.getElem?_toList, hS]; exact hc
    have h2 : S.data[i]'(Array.getElem?_eq_some_iff.1 h1).1 = c := (Array.getElem?_eq_some_iff.1 h1).2
    exact h2
  rw [this]

theorem drop_two (S : ByteArray) (a b : UInt8) (r : List UInt8) (hS : S.data.toList = a :: b :: r) : (S.extract 2 S.size).data.toList = r := by
  have hsz : S.size = r.length + 2 := by
    rw [Lib.size_eq, hS]; rfl
  rw [Lib.extract_data, hS, hsz]
  simp

theorem parse_step {l : List UInt8} {a b : UInt8} {r : List UInt8} {acc : List Int} (h : parseL l = (parseL (a :: b :: r)).map (acc ++ ·)) :
    (dv a < 0 ∨ dv b < 0 → parseL l = none) ∧ (¬ (dv a < 0 ∨ dv b < 0) → parseL l = (parseL r).map ((acc ++ [16 * dv a + dv b]) ++ ·)) := by
  rw [parseL] at h
  constructor
  · intro hd; rw [if_pos hd] at h; exact h
  · intro hd
    rw [if_neg hd] at h
    rw [h]
    cases parseL r <;> simp

theorem errP_bad {l : List UInt8} (h1 : l.length ≤ 131071) (h : parseL l = none) : errP l = 3 ∧ lstP l = [] := by
  have e : errP l = 3 := by
    unfold errP
    rw [if_neg (by omega)]
    split
    · rfl
    · first | rfl | rw [if_pos h]
  exact ⟨e, by unfold lstP; rw [if_neg (by omega)]⟩
theorem errP_good {l : List UInt8} {xs : List Int} (h1 : l.length ≤ 131071) (h2 : l.length % 2 = 0) (h : parseL l = some xs) : errP l = 0 ∧ lstP l = xs := by
  have e : errP l = 0 := by
    unfold errP
    rw [if_neg (by omega), if_neg (by omega), if_neg (by rw [h]; simp)]
  exact ⟨e, by unfold lstP; rw [if_pos e, h]; rfl⟩

theorem own_heap {w w' : World} {base : Nat} {e : TypeId} {size : Nat} {v : Value} {n : Nat} {xs : List Value} (h : w.ownsRow base e size v n xs) (hh : w'.heap = w.heap) : w'.ownsRow base e size v n xs := by
  unfold World.ownsRow at *
  rw [hh]; exact h

theorem NewB.none' {w w' : World} (h : Below w.heap.size w w') : NewB w w' (.slice Option.none 0 0) [] :=
  ⟨Option.none, 0, rfl, ⟨rfl, Nat.le_refl _, by simp, by simp, Lib.BytesIn.nil _ _ _⟩, fun h => absurd h (Nat.lt_irrefl _), h⟩

/-- the bytes of a literal, in the block that was made last -/
theorem Bs.lit1 (w : World) (l : List Int) (n : Nat) (hl : l.length = n) (hn : n ≤ 140737488351232) (hb : ∀ x ∈ l, 0 ≤ x ∧ x < 256) :
    Bs (w.alloc (.cells (l.map (Value.int .u8)).toArray 5)) (some ⟨w.heap.size, 0, none⟩) n n l :=
  ⟨hl, Nat.le_refl _, hn, hb, fun _ => ⟨_, 0, rfl, fun i hi => by
    rw [cell_of_row _ _ (0 + i) _ 5 (0, 0) (heap_alloc_new w _)]
    subst hl
    simp [List.getD_eq_getElem?_getD, hi]⟩⟩

/-- what a loop that parses knows of the list that it has made so far -/
structure Made (w wr : World) (v : Value) (acc : List Int) : Prop where
  own : wr.ownsRow w.heap.size 5 1 v acc.length (acc.map (Value.int .u8))
  below : Below w.heap.size w wr
  byte : ∀ x ∈ acc, 0 ≤ x ∧ x < 256

theorem Made.new {w wr : World} {v : Value} {acc : List Int} (h : Made w wr v acc) (hl : acc.length ≤ 140737488351232) : NewB w wr v acc := NewB.owned rfl hl h.byte h.own h.below

set_option maxRecDepth 100000 in
set_option maxHeartbeats 800000 in
theorem parse41_ok (s : ByteArray) (l : List UInt8) (w : World) (hs : s.data.toList = l) (h1 : l.length ≤ 131071) (h2 : l.length % 2 = 0) :
    Calls Try.prog 41 #[.string s] w fun e w' => ∃ v, e = .returned (.tuple #[v, .int .i64 (errP l)]) ∧ NewB w w' v (lstP l) := by
  have hsz : s.size = l.length := by rw [← hs]; exact Lib.size_eq s
  have hs1 : (s.size : Int) ≤ 131071 := by omega
  have d2 : (((s.size : Int) % 2) != 0) = false := by rw [hsz, bne_eq_false_iff_eq]; omega
  have HS := Lib.hid hs
  have HSZ := Lib.hid hsz
  clear hs hsz
  have hdig : Hid (∀ (c : UInt8) (W : World), Calls Try.prog 65 #[.string ⟨#[48, 49, 50, 51, 52, 53, 54, 55, 56, 57, 97, 98, 99, 100, 101, 102]⟩, .int .u8 (c.toNat : Int)] W fun e w' => e = .returned (.int .i64 (dv c)) ∧ w' = W) := fun c W => ibyte65 c W
  go_enter Try.func41, Try.ntmps41
  go_wp2
  go_loopw [0, 4] (fun t v wr => ∃ (S : ByteArray) (r : List UInt8) (acc : List Int) (pv : Option Addr) (cv : Nat), t = .string S ∧ v = .slice pv acc.length cv ∧ Hid (S.data.toList = r) ∧ Hid (r.length % 2 = 0 ∧ r.length + 2 * acc.length ≤ 131071) ∧ Hid (parseL l = (parseL r).map (acc ++ ·)) ∧ Hid (Made w wr v acc)) (fun t _ _ => strLen t)
  case atStart =>
    refine ⟨s, l, [], none, 0, rfl, rfl, HS, ⟨h2, by simpa using h1⟩, ?_, ⟨World.ownsRow_nil _ _ _ _, Below.refl _ _, by simp⟩⟩
    show parseL l = (parseL l).map ([] ++ ·)
    cases parseL l <;> simp
  case round =>
    obtain ⟨S, r, acc, pv, cv, rfl, rfl, hS, hr, hp, hm⟩ := hrel
    match r with
    | [] =>
      have e0 : S.toList = [] := by rw [Lib.toList_data]; exact hS.out
      have hp' : parseL l = some acc := by rw [hp.out]; simp [parseL]
      obtain ⟨g1, g2⟩ := errP_good h1 h2 hp'
      have G1 := Lib.hid g1
      have G2 := Lib.hid g2
      clear g1 g2 hp'
      go_wp2
      go_ret2
      rw [G1.out, G2.out]
      exact ⟨_, rfl, hm.out.new (by have := hr.out.2; omega)⟩
    | [a] => exact absurd hr.out.1 (by simp)
    | a :: b :: r =>
      have hS2 := Lib.hid (drop_two S a b r hS.out)
      have hsize : S.size = r.length + 2 := by rw [Lib.size_eq, hS.out]; rfl
      have hrl : r.length + 2 + 2 * acc.length ≤ 131071 := hr.out.2
      have hz2 : 2 ≤ S.size := by omega
      have hz3 : S.size ≤ 131071 := by omega
      have e0 : (S.toList == []) = false := by rw [Lib.toList_data, hS.out]; rfl
      have e1 : S.toList.isEmpty = false := by rw [Lib.toList_data, hS.out]; rfl
      have i0 := fun w => run_idx S _ hS.out 0 a rfl w
      have i1 := fun w => run_idx S _ hS.out 1 b rfl w
      simp only [Int.ofNat_zero, Int.ofNat_one] at i0 i1
      have HP := Lib.hid (parse_step hp.out)
      have ra := dv_range a
      have rb := dv_range b
      have HOR := Lib.hid (or_hex' (dv a) (dv b) (by omega) (by omega))
      have HDA := Lib.hid (hdig.out a)
      have HDB := Lib.hid (hdig.out b)
      have HSIZE := Lib.hid hsize
      have HRL := Lib.hid hrl
      generalize dv a = x at *
      generalize dv b = y at *
      generalize a.toNat = a' at *
      generalize b.toNat = b' at *
      clear hsize hrl hS
      by_cases hneg : x < 0 ∨ y < 0
      · have n1 := HOR.out.1.2 hneg
        have n2 : decide (bits .or .i64 (x * 16) y < 0) = true := by simp [n1]
        obtain ⟨g1, g2⟩ := errP_bad h1 (HP.out.1 hneg)
        have G1 := Lib.hid g1
        have G2 := Lib.hid g2
        clear g1 g2 hneg n1
        go_wp2
        go_quiet ((go_at_call 65; first | (with_reducible exact Calls.quiet_of_same (HDA.out _)) | (with_reducible exact Calls.quiet_of_same (HDB.out _))))
        go_wp2
        go_ret2
        rw [G1.out, G2.out]
        exact ⟨_, rfl, NewB.none' (below_drewN hm.out.below _)⟩
      · have hx0 : 0 ≤ x := by omega
        have hy0 : 0 ≤ y := by omega
        have hq := HOR.out.2 hx0 hy0
        have hp2 := HP.out.2 hneg
        obtain ⟨q, hq'⟩ : ∃ q, 16 * x + y = q := ⟨_, rfl⟩
        rw [hq'] at hq hp2
        have hq0 : 0 ≤ q := by omega
        have hq1 : q ≤ 255 := by omega
        have HP2 := Lib.hid hp2
        clear hp2 hneg hx0 hy0 hq' HOR HP
        go_wp2
        go_quiet ((go_at_call 65; first | (with_reducible exact Calls.quiet_of_same (HDA.out _)) | (with_reducible exact Calls.quiet_of_same (HDB.out _))))
        go_wp2_with (at_builtin; refine stop ?_)
        refine unhid ?_
        have hown : ((wr.drewN nq).alloc (.cells #[.int .u8 q] 5)).ownsRow w.heap.size 5 1 (.slice pv acc.length cv) acc.length (acc.map (Value.int .u8)) := (own_heap (w := wr) hm.out.own rfl).alloc _
        refine wpList_append_bytes rfl _ _ (by rfl) w.heap.size pv acc.length cv acc (by rfl) hown (some ⟨wr.heap.size, 0, none⟩) 1 1 [q] (by rfl) (Bs.lit1 (wr.drewN nq) [q] 1 rfl (by omega) (by intro z hz; simp at hz; omega)) (by have := HRL.out; omega) ?_ ?_
        · have := hm.out.below.size
          rw [World.size_alloc, World.heap_drewN]
          omega
        intro p' cap' w' hown' hbel'
        have HM : Hid (Made w w' (.slice p' (acc.length + 1) cap') (acc ++ [q])) := ⟨by rw [List.length_append]; exact hown',
          (((hm.out.below.trans (below_drewN (Below.refl _ _) nq)).alloc (by have := hm.out.below.size; simpa using this) _).trans hbel'),
          fun z hz => by
            rcases List.mem_append.1 hz with hz | hz
            · exact hm.out.byte z hz
            · simp at hz; omega⟩
        clear hown hown' hbel'
        go_wp2
        go_roundw
        case rel =>
          refine ⟨_, r, acc ++ [q], p', cap', rfl, by simp, hS2, ?_, HP2, HM⟩
          have := hr.out
          have e : (acc ++ [q]).length = acc.length + 1 := by simp
          have e2 : (a :: b :: r).length = r.length + 2 := rfl
          rw [e2] at this
          show r.length % 2 = 0 ∧ r.length + 2 * (acc ++ [q]).length ≤ 131071
          rw [e]
          omega
        case measure =>
          simp only [strLen]
          rw [Lib.size_eq (S.extract 2 S.size), hS2.out, HSIZE.out]
          omega

set_option maxRecDepth 100000 in
set_option maxHeartbeats 800000 in
theorem parse41 (s : ByteArray) (l : List UInt8) (w : World) (hs : s.data.toList = l) (h1 : l.length ≤ 9223372036854775807) :
    Calls Try.prog 41 #[.string s] w fun e w' => ∃ v, e = .returned (.tuple #[v, .int .i64 (errP l)]) ∧ NewB w w' v (lstP l) := by
  have hsz : s.size = l.length := by rw [← hs]; exact Lib.size_eq s
  by_cases h8 : 131071 < l.length
  · have e : errP l = 8 := by unfold errP; rw [if_pos h8]
    have e2 : lstP l = [] := by unfold lstP; rw [if_neg (by omega)]
    rw [e, e2]
    have d1 : 131071 < (s.size : Int) := by omega
    have d2 : (s.size : Int) ≤ 9223372036854775807 := by omega
    clear hs h1 hsz h8 e e2
    go_enter Try.func41, Try.ntmps41
    go_wp2
    go_ret2
    exact ⟨_, rfl, NewB.none⟩
  · by_cases h3 : l.length % 2 = 0
    · exact parse41_ok s l w hs (by omega) h3
    · have e : errP l = 3 := by unfold errP; rw [if_neg h8, if_pos h3]
      have e2 : lstP l = [] := by unfold lstP; rw [if_neg (by omega)]
      rw [e, e2]
      have d1 : (s.size : Int) ≤ 131071 := by omega
      have d2 : (((s.size : Int) % 2) != 0) = true := by rw [bne_iff_ne]; omega
      clear hs h1 hsz h8 h3 e e2
      go_enter Try.func41, Try.ntmps41
      go_wp2
      go_ret2
      exact ⟨_, rfl, NewB.none⟩

/-! ### the reference's Parse -/
def valR (c : UInt8) : Int := if dv c < 0 then 16 else dv c
theorem valR_all : ∀ c : Fin 256, valR (UInt8.ofNat c.val) = (if 48 ≤ c.val ∧ c.val ≤ 57 then (c.val : Int) - 48 else if 97 ≤ c.val ∧ c.val ≤ 102 then (c.val : Int) - 97 + 10 else 16) := by decide +kernel
theorem valR_eq (c : UInt8) : valR c = (if 48 ≤ c.toNat ∧ c.toNat ≤ 57 then (c.toNat : Int) - 48 else if 97 ≤ c.toNat ∧ c.toNat ≤ 102 then (c.toNat : Int) - 97 + 10 else 16) := by
  have := valR_all ⟨c.toNat, UInt8.toNat_lt c⟩
  simpa using this

set_option maxHeartbeats 400000 in
theorem value66 (c : UInt8) (w : World) : Calls Try.prog 66 #[.int .u8 (c.toNat : Int)] w fun e w' => e = .returned (.int .u8 (valR c)) ∧ w' = w := by
  have hv := valR_eq c
  have hc := UInt8.toNat_lt c
  generalize valR c = v at *
  generalize c.toNat = n at *
  by_cases h1 : 48 ≤ n ∧ n ≤ 57
  · rw [if_pos h1] at hv
    have HV := Lib.hid hv
    obtain ⟨ha, hb⟩ := h1
    have d1 : decide (48 ≤ (n : Int)) = true := by simp; omega
    have d2 : decide ((n : Int) ≤ 57) = true := by simp; omega
    clear hv
    go_enter Try.func66, Try.ntmps66
    go_wp2
    go_ret
    exact ⟨ret_int HV.out.symm, rfl⟩
  · rw [if_neg h1] at hv
    have d0 : (decide (48 ≤ (n : Int)) = false) ∨ (decide (48 ≤ (n : Int)) = true ∧ decide ((n : Int) ≤ 57) = false) := by
      by_cases hq : 48 ≤ n
      · exact .inr ⟨by simp; omega, by simp; omega⟩
      · exact .inl (by simp; omega)
    by_cases h2 : 97 ≤ n ∧ n ≤ 102
    · rw [if_pos h2] at hv
      have HV := Lib.hid hv
      have d3 : decide (97 ≤ (n : Int)) = true := by simp; omega
      have d4 : decide ((n : Int) ≤ 102) = true := by simp; omega
      have h97 : 97 ≤ n := h2.1
      have h102 : n ≤ 102 := h2.2
      clear hv h1 h2
      rcases d0 with d0 | ⟨d0, d00⟩
      all_goals
        go_enter Try.func66, Try.ntmps66
        go_wp2
        go_ret
        exact ⟨ret_int HV.out.symm, rfl⟩
    · rw [if_neg h2] at hv
      have HV := Lib.hid hv
      have d5 : (decide (97 ≤ (n : Int)) = false) ∨ (decide (97 ≤ (n : Int)) = true ∧ decide ((n : Int) ≤ 102) = false) := by
        by_cases hq : 97 ≤ n
        · exact .inr ⟨by simp; omega, by simp; omega⟩
        · exact .inl (by simp; omega)
      clear hv h1 h2 hc
      rcases d0 with d0 | ⟨d0, d00⟩ <;> rcases d5 with d5 | ⟨d5, d55⟩
      all_goals
        go_enter Try.func66, Try.ntmps66
        go_wp2
        go_ret
        exact ⟨ret_int HV.out.symm, rfl⟩

theorem valR_dv (c : UInt8) : (valR c < 16 ↔ ¬ dv c < 0) ∧ 0 ≤ valR c ∧ valR c ≤ 16 ∧ (¬ dv c < 0 → valR c = dv c) := by
  have := dv_range c
  unfold valR
  split
  · omega
  · omega

set_option maxRecDepth 100000 in
set_option maxHeartbeats 800000 in
theorem parse42_ok (s : ByteArray) (l : List UInt8) (w : World) (hs : s.data.toList = l) (h1 : l.length ≤ 131071) (h2 : l.length % 2 = 0) :
    Calls Try.prog 42 #[.string s] w fun e w' => ∃ v, e = .returned (.tuple #[v, .int .i64 (errP l)]) ∧ NewB w w' v (lstP l) := by
  have hsz : s.size = l.length := by rw [← hs]; exact Lib.size_eq s
  have hs1 : (s.size : Int) ≤ 131071 := by omega
  have d2 : (((s.size : Int) % 2) != 0) = false := by rw [hsz, bne_eq_false_iff_eq]; omega
  have hs3 : (s.size : Int) / 2 ≤ 65535 := by omega
  have HS := Lib.hid hs
  have HSZ := Lib.hid hsz
  clear hs hsz
  go_enter Try.func42, Try.ntmps42
  go_wp2
  go_loopw [4, 5] (fun v t wr => ∃ (i : Nat) (r : List UInt8) (acc : List Int) (pv : Option Addr) (cv : Nat), t = .int .i64 i ∧ v = .slice pv acc.length cv ∧ Hid (l.drop i = r) ∧ i ≤ s.size ∧ Hid (r.length % 2 = 0 ∧ r.length + 2 * acc.length ≤ 131071 ∧ i + r.length = l.length) ∧ Hid (parseL l = (parseL r).map (acc ++ ·)) ∧ Hid (Made w wr v acc)) (fun _ t _ => s.size - (intOf t).toNat)
  case atStart =>
    refine ⟨0, l, [], none, 0, rfl, rfl, rfl, by omega, ⟨h2, by simpa using h1, by omega⟩, ?_, ⟨World.ownsRow_nil _ _ _ _, Below.refl _ _, by simp⟩⟩
    show parseL l = (parseL l).map ([] ++ ·)
    cases parseL l <;> simp
  case round =>
    obtain ⟨i, r, acc, pv, cv, rfl, rfl, hS, hi, hr, hp, hm⟩ := hrel
    match r with
    | [] =>
      have hp' : parseL l = some acc := by rw [hp.out]; simp [parseL]
      obtain ⟨g1, g2⟩ := errP_good h1 h2 hp'
      have G1 := Lib.hid g1
      have G2 := Lib.hid g2
      have hii : s.size ≤ i := by have := hr.out.2.2; rw [HSZ.out]; simp at this; omega
      clear g1 g2 hp'
      go_wp2
      go_ret2
      rw [G1.out, G2.out]
      exact ⟨_, rfl, hm.out.new (by have := hr.out.2.1; omega)⟩
    | [a] => exact absurd hr.out.1 (by simp)
    | a :: b :: r =>
      have hil : i + (r.length + 2) = l.length := hr.out.2.2
      have hrl : r.length + 2 + 2 * acc.length ≤ 131071 := hr.out.2.1
      have ea : l[i]? = some a := by
        have : (l.drop i)[0]? = some a := by rw [hS.out]; rfl
        simpa using this
      have eb : l[i + 1]? = some b := by
        have : (l.drop i)[1]? = some b := by rw [hS.out]; rfl
        simpa using this
      have hS2 : Hid (l.drop (i + 2) = r) := by
        show l.drop (i + 2) = r
        rw [← List.drop_drop, hS.out]; rfl
      have hlt1 : i + 1 < s.size := by rw [HSZ.out]; omega
      have hlt : i < s.size := by omega
      have i0 := fun w => run_idx s l HS.out i a ea w
      have i1 := fun w => run_idx s l HS.out (i + 1) b eb w
      simp only [Int.natCast_add, Int.ofNat_one] at i1
      have w1 : IntKind.i64.wrap ((i : Int) + 1) = (i : Int) + 1 := IntWalk.i64_in _ (by omega)
      have HP := Lib.hid (parse_step hp.out)
      obtain ⟨va1, va2, va3, va4⟩ := valR_dv a
      obtain ⟨vb1, vb2, vb3, vb4⟩ := valR_dv b
      have HA := Lib.hid (And.intro va1 va4)
      have HB := Lib.hid (And.intro vb1 vb4)
      have HDA := Lib.hid (value66 a)
      have HDB := Lib.hid (value66 b)
      have HRL := Lib.hid hrl
      have HIL := Lib.hid hil
      have hda := dv_range a
      have hdb := dv_range b
      generalize dv a = da at *
      generalize dv b = db at *
      generalize valR a = x at *
      generalize valR b = y at *
      generalize a.toNat = a' at *
      generalize b.toNat = b' at *
      clear hrl hil hS ea eb va1 va4 vb1 vb4
      by_cases hneg : da < 0 ∨ db < 0
      · obtain ⟨g1, g2⟩ := errP_bad h1 (HP.out.1 hneg)
        have G1 := Lib.hid g1
        have G2 := Lib.hid g2
        have hxy : (decide (15 < x) = true) ∨ (decide (15 < x) = false ∧ decide (15 < y) = true) := by
          have := HA.out.1
          have := HB.out.1
          by_cases hx : 15 < x
          · exact .inl (by simp [hx])
          · exact .inr ⟨by simp; omega, by simp; omega⟩
        clear g1 g2 hneg HP HA HB hda hdb va2 va3 vb2 vb3
        rcases hxy with d0 | ⟨d0, d00⟩
        all_goals
          go_wp2
          go_quiet ((go_at_call 66; first | (with_reducible exact Calls.quiet_of_same (HDA.out _)) | (with_reducible exact Calls.quiet_of_same (HDB.out _))))
          go_wp2
          go_ret2
          rw [G1.out, G2.out]
          exact ⟨_, rfl, NewB.none' (below_drewN hm.out.below _)⟩
      · have hp2 := HP.out.2 hneg
        have hx0 : x = da := HA.out.2 (by omega)
        have hy0 : y = db := HB.out.2 (by omega)
        have hx1 : x < 16 := HA.out.1.2 (by omega)
        have hy1 : y < 16 := HB.out.1.2 (by omega)
        rw [← hx0, ← hy0] at hp2
        have HP2 := Lib.hid hp2
        have d0 : decide (15 < x) = false := by simp; omega
        have d00 : decide (15 < y) = false := by simp; omega
        clear hp2 hneg hx0 hy0 HP HA HB hda hdb va3 vb3
        go_wp2
        go_quiet ((go_at_call 66; first | (with_reducible exact Calls.quiet_of_same (HDA.out _)) | (with_reducible exact Calls.quiet_of_same (HDB.out _))))
        go_wp2_with (at_builtin; refine stop ?_)
        refine unhid ?_
        have hown : ((wr.drewN nq).alloc (.cells #[.int .u8 (16 * x + y)] 5)).ownsRow w.heap.size 5 1 (.slice pv acc.length cv) acc.length (acc.map (Value.int .u8)) := (own_heap (w := wr) hm.out.own rfl).alloc _
        refine wpList_append_bytes rfl _ _ (by rfl) w.heap.size pv acc.length cv acc (by rfl) hown (some ⟨wr.heap.size, 0, none⟩) 1 1 [16 * x + y] (by rfl) (Bs.lit1 (wr.drewN nq) [16 * x + y] 1 rfl (by omega) (by intro z hz; simp at hz; omega)) (by have := HRL.out; omega) ?_ ?_
        · have := hm.out.below.size
          rw [World.size_alloc, World.heap_drewN]
          omega
        intro p' cap' w' hown' hbel'
        have HM : Hid (Made w w' (.slice p' (acc.length + 1) cap') (acc ++ [16 * x + y])) := ⟨by rw [List.length_append]; exact hown',
          (((hm.out.below.trans (below_drewN (Below.refl _ _) nq)).alloc (by have := hm.out.below.size; simpa using this) _).trans hbel'),
          fun z hz => by
            rcases List.mem_append.1 hz with hz | hz
            · exact hm.out.byte z hz
            · simp at hz; omega⟩
        clear hown hown' hbel'
        go_wp2
        go_roundw
        case rel =>
          refine ⟨i + 2, r, acc ++ [16 * x + y], p', cap', by go_num, by simp, hS2, by omega, ?_, HP2, HM⟩
          have := hr.out.1
          have e : (acc ++ [16 * x + y]).length = acc.length + 1 := by simp
          have e2 : (a :: b :: r).length = r.length + 2 := rfl
          rw [e2] at this
          show r.length % 2 = 0 ∧ r.length + 2 * (acc ++ [16 * x + y]).length ≤ 131071 ∧ i + 2 + r.length = l.length
          rw [e]
          have := HIL.out
          have := HRL.out
          omega
        case measure => simp [intOf]; omega

set_option maxRecDepth 100000 in
set_option maxHeartbeats 800000 in
theorem parse42 (s : ByteArray) (l : List UInt8) (w : World) (hs : s.data.toList = l) (h1 : l.length ≤ 9223372036854775807) :
    Calls Try.prog 42 #[.string s] w fun e w' => ∃ v, e = .returned (.tuple #[v, .int .i64 (errP l)]) ∧ NewB w w' v (lstP l) := by
  have hsz : s.size = l.length := by rw [← hs]; exact Lib.size_eq s
  by_cases h8 : 131071 < l.length
  · have e : errP l = 8 := by unfold errP; rw [if_pos h8]
    have e2 : lstP l = [] := by unfold lstP; rw [if_neg (by omega)]
    rw [e, e2]
    have d1 : 65535 < (s.size : Int) / 2 := by omega
    have d2 : (s.size : Int) ≤ 9223372036854775807 := by omega
    clear hs h1 hsz h8 e e2
    go_enter Try.func42, Try.ntmps42
    go_wp2
    go_ret2
    exact ⟨_, rfl, NewB.none⟩
  · by_cases h3 : l.length % 2 = 0
    · exact parse42_ok s l w hs (by omega) h3
    · have e : errP l = 3 := by unfold errP; rw [if_neg h8, if_pos h3]
      have e2 : lstP l = [] := by unfold lstP; rw [if_neg (by omega)]
      rw [e, e2]
      have d1 : (s.size : Int) / 2 ≤ 65535 := by omega
      have d3 : (s.size : Int) ≤ 131071 := by omega
      have d2 : (((s.size : Int) % 2) != 0) = true := by rw [bne_iff_ne]; omega
      clear hs h1 hsz h8 h3 e e2
      go_enter Try.func42, Try.ntmps42
      go_wp2
      go_ret2
      exact ⟨_, rfl, NewB.none⟩

end Go.Proofs.Ytbldahimdkifiaa
