/-
  For the statement TopOwners: Pairs that came in: far; The pairs' items; pairs, which copies them; Sort: what it does to a list of items, in plain Lean.
-/
import Derived.Test.YtbihlmkjoplkoaaGreatDoorM46
import Derived.Deep.AppendLies
import Derived.Laws.OwnMore
/-
  Pairs that came in: far.
-/
namespace Go.Proofs.YtbihlmkjoplkoaaGreatDoor
open Go.RowKit
set_option linter.unusedVariables false

/-- what is known of a slice of bytes that came in: of a short one its bytes -/
def RawB (w : World) (p : Option Addr) (n c : Nat) : Prop := n ≤ maxLen ∧ ∃ xs : List Int, n ≤ 140737488351232 → Bs w p n c xs
theorem byte_of_wf {x : Int} (h : (Lit.int .u8 x).wf = true) : 0 ≤ x ∧ x < 256 := by
  have := h
  simp [Lit.wf, IntKind.min, IntKind.max, IntKind.signed, IntKind.bits] at this
  omega
theorem RawB.nil (w : World) : RawB w none 0 0 := ⟨by unfold maxLen; omega, [], fun _ => ⟨rfl, Nat.le_refl _, by omega, by simp, Lib.BytesIn.nil _ _ _⟩⟩
theorem RawB.of_cells {w : World} {x : Addr} {l c : Nat} {zs : List Int} (hl : l ≤ c) (hm : c ≤ maxLen) (hz : zs.length = c)
    (hcell : ∀ i, i < zs.length → w.cell? (x.add i) = some (.int .u8 (zs.getD i 0))) (hwz : ∀ n ∈ zs, (Lit.int .u8 n).wf = true) : RawB w (some x) l c :=
  ⟨by omega, zs.take l, fun hb => ⟨by rw [List.length_take]; omega, hl, hb, fun y hy => byte_of_wf (hwz y (List.mem_of_mem_take hy)),
    Lib.BytesIn.of_cells (fun i hi => by rw [hcell i (by omega)]; simp [List.getD_eq_getElem?_getD, hi])⟩⟩

/-- a slice's header -/
abbrev Hd := Option Addr × Nat × Nat
def Hd.val (h : Hd) : Value := .slice h.1 h.2.1 h.2.2

/-- pairs that came in: their cells; each key a slice of bytes that came in -/
structure Pin (w : World) (p : Option Addr) (n c : Nat) (hs : List (Hd × Int)) : Prop where
  len : hs.length = n
  cap : n ≤ c
  big : c ≤ maxLen
  cells : 0 < n → ∃ b o, p = some ⟨b, o, none⟩ ∧ ∀ i x, hs[i]? = some x → w.cell? ⟨b, o + i * 2, none⟩ = some x.1.val ∧ w.cell? ⟨b, o + i * 2 + 1, none⟩ = some (.int .u64 x.2)
  raw : ∀ x : Hd × Int, x ∈ hs → RawB w x.1.1 x.1.2.1 x.1.2.2 ∧ 0 ≤ x.2 ∧ x.2 < 18446744073709551616

section
variable {w : World} {p : Option Addr} {n c : Nat} {hs : List (Hd × Int)}

theorem choose_kv (w : World) : ∀ hs : List (Hd × Int), (∀ x : Hd × Int, x ∈ hs → (RawB w x.1.1 x.1.2.1 x.1.2.2 ∧ 0 ≤ x.2 ∧ x.2 < 18446744073709551616) ∧ x.1.2.1 ≤ 300) →
    ∃ l : List KV, l.length = hs.length ∧ (∀ x ∈ l, x.1.length ≤ 300 ∧ 0 ≤ x.2 ∧ x.2 < 18446744073709551616) ∧ ∀ (i : Nat) (x : Hd × Int) (y : KV), hs[i]? = some x → l[i]? = some y → Bs w x.1.1 x.1.2.1 x.1.2.2 y.1 ∧ x.2 = y.2
  | [], _ => ⟨[], rfl, by simp, fun i x l h => by simp at h⟩
  | x :: hs, h => by
    obtain ⟨⟨⟨_, xs, hx⟩, hv⟩, hn⟩ := h x (by simp)
    have hx := hx (by omega)
    obtain ⟨l, h1, h2, h3⟩ := choose_kv w hs (fun y hy => h y (by simp [hy]))
    refine ⟨(xs, x.2) :: l, by simp [h1], fun y hy => ?_, fun i y m hy hm => ?_⟩
    · rcases List.mem_cons.1 hy with rfl | hy
      · exact ⟨by rw [hx.len]; exact hn, hv⟩
      · exact h2 y hy
    · cases i with
      | zero => simp at hy hm; subst hy hm; exact ⟨hx, rfl⟩
      | succ i => exact h3 i y m (by simpa using hy) (by simpa using hm)

/-- bytes that came in turn no more -/
theorem Kb.came {B : Nat} {p : Option Addr} {n c : Nat} {xs : List Int} (h : Bs w p n c xs) (hB : w.heap.size ≤ B) : Kb B w p n c xs :=
  ⟨h, fun h0 q hq => by
    obtain ⟨b, o, e, hc⟩ := h.cells.at h0
    rw [e] at hq; cases hq
    have := block_lt_of_cell (hc 0 h0)
    exact ⟨this, Or.inl (by show b < B; have : b < w.heap.size := this; omega)⟩⟩

/-- near ones are pairs -/
theorem Pin.near (h : Pin w p n c hs) (hn : n ≤ 1000) (hk : ∀ x ∈ hs, x.1.2.1 ≤ 300) : ∃ l, Pr w.heap.size w p n c l := by
  obtain ⟨l, h1, h2, h3⟩ := choose_kv w hs (fun x hx => ⟨h.raw x hx, hk x hx⟩)
  refine ⟨l, by rw [h1, h.len], h.cap, hn, h2, fun h0 => ?_⟩
  obtain ⟨b, o, e, hc⟩ := h.cells h0
  have hlt : b < w.heap.size := by
    obtain ⟨x, hx⟩ : ∃ x, hs[0]? = some x := ⟨hs[0]'(by rw [h.len]; exact h0), List.getElem?_eq_getElem (by rw [h.len]; exact h0)⟩
    exact block_lt_of_cell (hc 0 x hx).1
  refine ⟨b, o, e, hlt, Or.inl hlt, fun i y hy => ?_⟩
  have hil : i < hs.length := by rw [← h1]; exact (List.getElem?_eq_some_iff.1 hy).1
  obtain ⟨x, hx⟩ : ∃ x, hs[i]? = some x := ⟨hs[i], List.getElem?_eq_getElem hil⟩
  obtain ⟨g1, g2⟩ := hc i x hx
  obtain ⟨g3, g4⟩ := h3 i x y hx hy
  exact ⟨_, _, _, g1, by rw [g2, g4], Kb.came g3 (Nat.le_refl _)⟩

set_option maxRecDepth 100000 in
set_option maxHeartbeats 800000 in
theorem far4 (h : Pin w p n c hs) (m : Nat) : Calls Tryz.prog 4 #[.slice p n c, .int .i64 m] w fun e w' => ∃ r, e = .returned (.bool r) ∧ Gw w w' ∧ (r = false → n ≤ m ∧ ∀ x ∈ hs, x.1.2.1 ≤ 300) := by
  have HP := Lib.hid h
  have hbig := h.big
  have hcap := h.cap
  unfold maxLen at hbig
  clear h
  by_cases hnm : m < n
  · have d1 : decide ((m : Int) < (n : Int)) = true := by simp; omega
    have d2 : (m : Int) < (n : Int) := by omega
    go_enter Tryz.func4, Tryz.ntmps4
    go_wp2_with fail
    go_ret
    exact ⟨true, rfl, Gw.refl _, fun h => by cases h⟩
  · have d1 : decide ((m : Int) < (n : Int)) = false := by simp; omega
    have HNM : Hid (n ≤ m) := by show n ≤ m; omega
    have d2 : ¬ (m : Int) < (n : Int) := by omega
    go_enter Tryz.func4, Tryz.ntmps4
    go_wp2_with fail
    go_loopw [13] (fun i wr => ∃ k : Nat, i = .int .i64 k ∧ k ≤ n ∧ Hid (Gw w wr) ∧ Hid (∀ x ∈ hs.take k, x.1.2.1 ≤ 300)) (fun i _ => n - (intOf i).toNat)
    case atStart => exact ⟨0, rfl, by omega, Gw.refl w, fun x hx => by simp at hx⟩
    case round =>
      obtain ⟨k, rfl, hk, hg, hall⟩ := hrel
      by_cases hlt : k < n
      · obtain ⟨x, hx⟩ : ∃ x, hs[k]? = some x := ⟨hs[k]'(by rw [HP.out.len]; exact hlt), List.getElem?_eq_getElem (by rw [HP.out.len]; exact hlt)⟩
        obtain ⟨b, o, rfl, hc⟩ := HP.out.cells (by omega)
        obtain ⟨g0, g1⟩ := hc k x hx
        have hraw := (HP.out.raw x (List.mem_of_getElem? hx)).1.1
        obtain ⟨⟨q, s, d⟩, u⟩ := x
        simp only [Hd.val] at g0 g1 hraw
        have g0 := hg.out.cell g0
        have g1 := hg.out.cell g1
        unfold maxLen at hraw
        have HX := Lib.hid hx
        have HGA : Hid (Gw w (wr.alloc (.cells #[.slice q s d, .int .u64 u] 43))) := hg.out.alloc _
        clear hc hx
        by_cases h3 : 300 < s
        · have d2 : decide (300 < (s : Int)) = true := by simp; omega
          go_wp2_with fail
          go_ret
          exact ⟨true, rfl, HGA.out, fun h => by cases h⟩
        · have d2 : decide (300 < (s : Int)) = false := by simp; omega
          have H3 : Hid (s ≤ 300) := by show s ≤ 300; omega
          clear h3
          go_wp2_with fail
          go_roundw
          case rel =>
            refine ⟨k + 1, by go_num, by omega, HGA.out, fun y hy => ?_⟩
            rw [List.take_add_one, HX.out] at hy
            rcases List.mem_append.1 hy with hy | hy
            · exact hall.out y hy
            · simp at hy; subst hy; exact H3.out
          case measure => simp [intOf]; omega
      · obtain rfl : k = n := by omega
        go_wp2_with fail
        go_ret
        exact ⟨false, rfl, hg.out, fun _ => ⟨HNM.out, fun x hx => hall.out x (by rw [List.take_of_length_le (by rw [HP.out.len]; exact Nat.le_refl _)]; exact hx)⟩⟩
end
end Go.Proofs.YtbihlmkjoplkoaaGreatDoor
/-
  The pairs' items; pairs, which copies them.
-/
namespace Go.Proofs.YtbihlmkjoplkoaaGreatDoor
open Go.RowKit
set_option linter.unusedVariables false

/-- a header, and the pair that it stands for -/
abbrev It := Hd × KV
/-- an item's two cells -/
def Pc (x : It) : List Value := [x.1.val, .int .u64 x.2.2]

theorem flat_pc : ∀ (hs : List It) (i : Nat) (x : It), hs[i]? = some x → (hs.flatMap Pc)[i * 2]? = some x.1.val ∧ (hs.flatMap Pc)[i * 2 + 1]? = some (.int .u64 x.2.2)
  | [], i, x, h => by simp at h
  | y :: hs, 0, x, h => by simp at h; subst h; simp [Pc]
  | y :: hs, i + 1, x, h => by
    have ih := flat_pc hs i x (by simpa using h)
    rw [show (i + 1) * 2 = i * 2 + 2 by omega]
    simpa [Pc] using ih

theorem length_pc (hs : List It) : (hs.flatMap Pc).length = hs.length * 2 := by
  induction hs with
  | nil => rfl
  | cons x hs ih => simp [Pc] at ih ⊢; omega

/-- a store of a pair's two cells -/
theorem set_pc : ∀ (hs : List It) (i : Nat) (x : It), i < hs.length → ((hs.flatMap Pc).set (i * 2) x.1.val).set (i * 2 + 1) (.int .u64 x.2.2) = (hs.set i x).flatMap Pc
  | [], i, x, h => by simp at h
  | y :: hs, 0, x, h => by simp [Pc]
  | y :: hs, i + 1, x, h => by
    have ih := set_pc hs i x (by simpa using h)
    rw [show (i + 1) * 2 = i * 2 + 2 by omega]
    simp [Pc] at ih ⊢
    exact ih
/-- a store of a pair's value alone -/
theorem set_val : ∀ (hs : List It) (i : Nat) (x : It) (u : Int), hs[i]? = some x → (hs.flatMap Pc).set (i * 2 + 1) (.int .u64 u) = (hs.set i (x.1, (x.2.1, u))).flatMap Pc
  | [], i, x, u, h => by simp at h
  | y :: hs, 0, x, u, h => by simp at h; subst h; simp [Pc]
  | y :: hs, i + 1, x, u, h => by
    have ih := set_val hs i x u (by simpa using h)
    rw [show (i + 1) * 2 + 1 = (i * 2 + 1) + 2 by omega]
    simp [Pc] at ih ⊢
    exact ih

/-- the items' keys lie -/
def Kbs (B : Nat) (w : World) (hs : List It) : Prop := ∀ x ∈ hs, Kb B w x.1.1 x.1.2.1 x.1.2.2 x.2.1
/-- pairs small enough -/
def Small (l : List KV) : Prop := ∀ x ∈ l, x.1.length ≤ 300 ∧ 0 ≤ x.2 ∧ x.2 < 18446744073709551616

section
variable {B : Nat} {w w' : World} {p : Option Addr} {n c : Nat} {l : List KV} {hs : List It}

theorem Kbs.step (h : Kbs B w hs) (k : Below w.heap.size w w') : Kbs B w' hs := fun x hx => (h x hx).step k
theorem Kbs.append {hs2 : List It} (h : Kbs B w hs) (h2 : Kbs B w hs2) : Kbs B w (hs ++ hs2) := fun x hx => by
  rcases List.mem_append.1 hx with hx | hx
  · exact h x hx
  · exact h2 x hx

theorem pick_items {Q : Nat → It → Prop} : ∀ (l : List KV) (s : Nat), (∀ i y, l[i]? = some y → ∃ h : Hd, Q (s + i) (h, y)) →
    ∃ hs : List It, hs.map Prod.snd = l ∧ ∀ i x, hs[i]? = some x → Q (s + i) x
  | [], s, _ => ⟨[], rfl, fun i x h => by simp at h⟩
  | y :: l, s, h => by
    obtain ⟨a, ha⟩ := h 0 y rfl
    obtain ⟨hs, h1, h2⟩ := pick_items (Q := Q) l (s + 1) (fun i z hz => by
      have := h (i + 1) z (by simpa using hz)
      rw [show s + 1 + i = s + (i + 1) by omega]; exact this)
    refine ⟨(a, y) :: hs, by simp [h1], fun i x hx => ?_⟩
    cases i with
    | zero => simp at hx; subst hx; exact ha
    | succ i =>
      have := h2 i x (by simpa using hx)
      rw [show s + (i + 1) = s + 1 + i by omega]; exact this

/-- the items of pairs in memory -/
theorem Pr.items (h : Pr B w p n c l) : ∃ hs : List It, hs.map Prod.snd = l ∧ Kbs B w hs ∧
    (0 < n → ∃ g o, p = some ⟨g, o, none⟩ ∧ g < w.heap.size ∧ ∀ i x, hs[i]? = some x → w.cell? ⟨g, o + i * 2, none⟩ = some x.1.val ∧ w.cell? ⟨g, o + i * 2 + 1, none⟩ = some (.int .u64 x.2.2)) := by
  rcases Nat.eq_zero_or_pos n with h0 | h0
  · have := h.len
    rw [h0] at this
    have := List.length_eq_zero_iff.1 this
    subst this
    exact ⟨[], rfl, fun x hx => by simp at hx, fun h => by omega⟩
  · obtain ⟨g, o, e, hg, _, hc⟩ := h.cells h0
    obtain ⟨hs, h1, h2⟩ := pick_items (Q := fun i x => w.cell? ⟨g, o + i * 2, none⟩ = some x.1.val ∧ w.cell? ⟨g, o + i * 2 + 1, none⟩ = some (.int .u64 x.2.2) ∧ Kb B w x.1.1 x.1.2.1 x.1.2.2 x.2.1) l 0 (fun i y hy => by
      obtain ⟨q, m, d, g1, g2, g3⟩ := hc i y hy
      exact ⟨(q, m, d), by rw [Nat.zero_add]; exact g1, by rw [Nat.zero_add]; exact g2, g3⟩)
    refine ⟨hs, h1, fun x hx => ?_, fun _ => ⟨g, o, e, hg, fun i x hx => ?_⟩⟩
    · obtain ⟨i, hi⟩ := List.getElem?_of_mem hx
      exact (h2 i x hi).2.2
    · have := h2 i x hx
      rw [Nat.zero_add] at this
      exact ⟨this.1, this.2.1⟩

/-- a row that is owned holds pairs -/
theorem Pr.of_row {base e : Nat} (he : prT e) (own : w.ownsRow base e 2 (.slice p n c) n (hs.flatMap Pc)) (hk : Kbs B w hs) (hs1 : Small (hs.map Prod.snd)) (hn : n ≤ 1000) : Pr B w p n c (hs.map Prod.snd) := by
  have hl : hs.length = n := by have := own.1; rw [length_pc] at this; omega
  refine ⟨by rw [List.length_map, hl], ?_, hn, hs1, fun h0 => ?_⟩
  · rcases own.2 with ⟨e, e2⟩ | ⟨g, cap, cur, e, _, _, hcap, _⟩
    · omega
    · cases e; exact hcap
  · rcases own.2 with ⟨e, e2⟩ | ⟨g, cap, cur, e, _, hg, _⟩
    · omega
    · cases e
      refine ⟨g, 0, rfl, ?_, Or.inr ⟨_, _, _, hg, he⟩, fun i y hy => ?_⟩
      · exact (Array.getElem?_eq_some_iff.1 hg).1
      · rw [List.getElem?_map] at hy
        obtain ⟨x, hx, rfl⟩ : ∃ x, hs[i]? = some x ∧ x.2 = y := by
          cases hx : hs[i]? with
          | none => rw [hx] at hy; simp at hy
          | some x => rw [hx] at hy; simp at hy; exact ⟨x, rfl, hy⟩
        have hi : i < n := by rw [← hl]; exact (List.getElem?_eq_some_iff.1 hx).1
        refine ⟨x.1.1, x.1.2.1, x.1.2.2, ?_, ?_, hk x (List.mem_of_getElem? hx)⟩
        · rw [Nat.zero_add, own.cellAt (i * 2) (by omega)]
          exact (flat_pc hs i x hx).1
        · rw [Nat.zero_add, own.cellAt (i * 2 + 1) (by omega)]
          exact (flat_pc hs i x hx).2
end

theorem info79 : (Tryz.prog.info? 79).map (fun i => (i.zero, i.size, i.bytes)) = some (some (.agg #[.slice none 0 0, .int .u64 0]), 2, 32) := by kernel_rfl
theorem info43 : (Tryz.prog.info? 43).map (fun i => (i.zero, i.size, i.bytes)) = some (some (.agg #[.slice none 0 0, .int .u64 0]), 2, 32) := by kernel_rfl

/-- what a loop that appends pairs knows -/
structure Lp (w wr : World) (e : Nat) (v : Value) (k : Nat) (hs : List It) : Prop where
  own : wr.ownsRow w.heap.size e 2 v k (hs.flatMap Pc)
  below : Below w.heap.size w wr

section
variable {B : Nat} {w : World} {p : Option Addr} {n c : Nat} {l : List KV}

set_option maxRecDepth 100000 in
set_option maxHeartbeats 1600000 in
theorem pairs8 (h : Pr B w p n c l) : Calls Tryz.prog 8 #[.slice p n c] w fun e w' => ∃ p' c', e = .returned (.slice p' n c') ∧ Pr B w' p' n c' l ∧ Below w.heap.size w w' := by
  obtain ⟨hs, rfl, hks, hcells⟩ := h.items
  have hlen : hs.length = n := by have := h.len; rwa [List.length_map] at this
  have HLEN := Lib.hid hlen
  have HKS := Lib.hid hks
  have HSM : Hid (Small (hs.map Prod.snd)) := h.small
  have hn := h.few
  have HC := Lib.hid hcells
  clear h hks hcells hlen
  go_enter Tryz.func8, Tryz.ntmps8
  go_wp2_with fail
  go_loopw [3, 8] (fun v t wr => ∃ (k : Nat) (pv : Option Addr) (cv : Nat), t = .int .i64 k ∧ k ≤ n ∧ v = .slice pv k cv ∧ Hid (Lp w wr 79 v k (hs.take k))) (fun _ t _ => n - (intOf t).toNat)
  case atStart => exact ⟨0, none, 0, rfl, by omega, rfl, ⟨World.ownsRow_nil _ _ _ _, Below.refl _ _⟩⟩
  case round =>
    obtain ⟨k, pv, cv, rfl, hk, rfl, hl⟩ := hrel
    by_cases hlt : k < n
    · obtain ⟨b, o, rfl, hblt, hc⟩ := HC.out (by omega)
      obtain ⟨⟨⟨q, m, d⟩, y, u⟩, hx⟩ : ∃ x, hs[k]? = some x := ⟨hs[k]'(by rw [HLEN.out]; exact hlt), List.getElem?_eq_getElem (by rw [HLEN.out]; exact hlt)⟩
      obtain ⟨g0, g1⟩ := hc k _ hx
      simp only [Hd.val] at g0 g1
      have hwr : ∀ j, wr.cell? ⟨b, j, none⟩ = w.cell? ⟨b, j, none⟩ := fun j => hl.out.below.cell (by show b < _; omega)
      rw [← hwr] at g0 g1
      have hbr : b < wr.heap.size := by have := hl.out.below.size; omega
      have HX := Lib.hid hx
      clear hc hx hwr hblt
      go_wp2_with (at_builtin; refine stop ?_)
      refine unhid ?_
      obtain ⟨i0, hi, hz0, hz1, hz2⟩ := info_parts info79
      refine wpList_append_lies _ rfl _ _ 32 (by rfl) w.heap.size 79 i0 (.agg #[.slice none 0 0, .int .u64 0]) 2 32 Tryz.underlying32 hi hz0 hz1 hz2 rfl (by decide) _ k _ (by rfl) ((hl.out.own.alloc _).alloc _) ⟨wr.heap.size + 1, 0, none⟩ 1 1 [.slice q m d, .int .u64 u] (by rfl) (by rfl) (by have := World.news_of_block (heap_alloc_new (wr.alloc (.cells #[.slice q m d, .int .u64 u] 43)) (.cells #[.slice q m d, .int .u64 u] 79)); rw [World.size_alloc] at this; exact this) (by intro z hz; rcases List.mem_cons.1 hz with rfl | hz; rfl; rcases List.mem_cons.1 hz with rfl | hz; rfl; cases hz) (by decide) (by unfold maxLen; omega) (by omega) (by have := hl.out.below.size; rw [World.size_alloc, World.size_alloc]; omega) _ rfl ?_
      intro g cap w3 hown3 hgrow _ _
      have hlw : Lp w w3 79 (.slice (some ⟨g, 0, none⟩) (k + 1) cap) (k + 1) (hs.take (k + 1)) := by
        have htk : hs.take (k + 1) = hs.take k ++ [((q, m, d), y, u)] := by rw [List.take_add_one, HX.out]; rfl
        refine ⟨?_, ?_⟩
        · rw [htk, List.flatMap_append]
          exact hown3
        · have hsz := hl.out.below.size
          refine (((hl.out.below.alloc hsz _).alloc (by rw [World.size_alloc]; omega) _)).grown hgrow (by rw [World.size_alloc, World.size_alloc]; omega) (fun j hj => (hl.out.own.lt j hj).1)
      have HLW := Lib.hid hlw
      clear hown3 hgrow hi hz0 hz1 hz2 hlw
      go_wp2
      go_roundw
      case rel => exact ⟨k + 1, some ⟨g, 0, none⟩, cap, by go_num, by omega, rfl, HLW⟩
      case measure => simp [intOf]; omega
    · obtain rfl : k = n := by omega
      go_wp2_with fail
      go_ret
      have hown := hl.out.own
      rw [List.take_of_length_le (by rw [HLEN.out]; exact Nat.le_refl _)] at hown
      exact ⟨pv, cv, rfl, Pr.of_row (Or.inr rfl) hown (HKS.out.step hl.out.below) HSM.out hn, hl.out.below⟩
end

end Go.Proofs.YtbihlmkjoplkoaaGreatDoor
/-
  Sort: what it does to a list of items, in plain Lean.
-/
namespace Go.Proofs.YtbihlmkjoplkoaaGreatDoor
open Go.RowKit
set_option linter.unusedVariables false

/-- items whose keys rise -/
def RiseI (hs : List It) : Prop := Rise (hs.map Prod.snd)
theorem riseI_iff (hs : List It) : RiseI hs ↔ (hs.map (fun x : It => x.2.1)).Pairwise fun a b => cmpL a b < 0 := by
  unfold RiseI Rise
  simp [List.pairwise_map]
def SmallI (hs : List It) : Prop := ∀ x ∈ hs, x.2.1.length ≤ 300 ∧ 0 ≤ x.2.2 ∧ x.2.2 < 18446744073709551616
theorem smallI_iff (hs : List It) : SmallI hs ↔ Small (hs.map Prod.snd) := by
  refine ⟨fun h x hx => ?_, fun h x hx => h _ (List.mem_map_of_mem hx)⟩
  obtain ⟨y, hy, rfl⟩ := List.mem_map.1 hx
  exact h y hy

theorem map_set_same {α β : Type} (f : α → β) (l : List α) (j : Nat) (x y : α) (hx : l[j]? = some x) (h : f y = f x) : (l.set j y).map f = l.map f := by
  apply List.ext_getElem?
  intro i
  rw [List.getElem?_map, List.getElem?_map, List.getElem?_set]
  by_cases hij : j = i
  · subst hij
    rw [if_pos rfl, hx]
    have : j < l.length := (List.getElem?_eq_some_iff.1 hx).1
    simp [this, h]
  · rw [if_neg hij]

section
variable {hs : List It} {j : Nat} {K : List Int}

/-- the value turns, the key stays -/
theorem RiseI.set {x y : It} (h : RiseI hs) (hx : hs[j]? = some x) (e : y.2.1 = x.2.1) : RiseI (hs.set j y) := by
  rw [riseI_iff] at h ⊢
  rw [map_set_same _ _ _ x y hx e]
  exact h
theorem SmallI.set {y : It} (h : SmallI hs) (hy : y.2.1.length ≤ 300 ∧ 0 ≤ y.2.2 ∧ y.2.2 < 18446744073709551616) : SmallI (hs.set j y) := fun x hx => by
  rcases List.mem_or_eq_of_mem_set hx with hx | rfl
  · exact h x hx
  · exact hy
/-- an item is put in at its place -/
theorem RiseI.ins {y : It} (h : RiseI hs) (hy : y.2.1 = K) (h1 : ∀ x ∈ hs.take j, cmpL x.2.1 K < 0) (h2 : ∀ x, hs[j]? = some x → 0 ≤ cmpL x.2.1 K ∧ cmpL x.2.1 K ≠ 0) : RiseI (hs.take j ++ y :: hs.drop j) := by
  subst hy
  have hall : ∀ x ∈ hs.drop j, cmpL y.2.1 x.2.1 < 0 := by
    intro x hx
    obtain ⟨i, hi⟩ := List.getElem?_of_mem hx
    rw [List.getElem?_drop] at hi
    have hl : j + i < hs.length := (List.getElem?_eq_some_iff.1 hi).1
    obtain ⟨z, hz⟩ : ∃ z, hs[j]? = some z := ⟨hs[j]'(by omega), List.getElem?_eq_getElem (by omega)⟩
    have hzy : cmpL y.2.1 z.2.1 < 0 := by
      obtain ⟨a, b⟩ := h2 z hz
      rw [cmpL_flip]; omega
    cases i with
    | zero =>
      rw [Nat.add_zero, hz] at hi; cases hi; exact hzy
    | succ i =>
      have : cmpL z.2.1 x.2.1 < 0 := by
        rw [riseI_iff, List.pairwise_iff_getElem] at h
        have hz' := List.getElem?_eq_some_iff.1 hz
        have hi' := List.getElem?_eq_some_iff.1 hi
        have := h j (j + (i + 1)) (by rw [List.length_map]; omega) (by rw [List.length_map]; omega) (by omega)
        rw [List.getElem_map, List.getElem_map, hz'.2, hi'.2] at this
        exact this
      exact cmpL_trans _ _ _ hzy this
  unfold RiseI Rise at h ⊢
  rw [← List.take_append_drop j hs, List.map_append, List.pairwise_append] at h
  rw [List.map_append, List.pairwise_append, List.map_cons, List.pairwise_cons]
  refine ⟨h.1, ⟨fun x hx => ?_, h.2.1⟩, fun a ha b hb => ?_⟩
  · obtain ⟨z, hz, rfl⟩ := List.mem_map.1 hx
    exact hall z hz
  · rcases List.mem_cons.1 hb with rfl | hb
    · obtain ⟨z, hz, rfl⟩ := List.mem_map.1 ha
      exact h1 z hz
    · exact h.2.2 a ha b hb
theorem SmallI.ins {y : It} (h : SmallI hs) (hy : y.2.1.length ≤ 300 ∧ 0 ≤ y.2.2 ∧ y.2.2 < 18446744073709551616) : SmallI (hs.take j ++ y :: hs.drop j) := fun x hx => by
  rcases List.mem_append.1 hx with hx | hx
  · exact h x (List.mem_of_mem_take hx)
  · rcases List.mem_cons.1 hx with rfl | hx
    · exact hy
    · exact h x (List.mem_of_mem_drop hx)
theorem Kbs.ins {B : Nat} {w : World} {y : It} (h : Kbs B w hs) (hy : Kb B w y.1.1 y.1.2.1 y.1.2.2 y.2.1) : Kbs B w (hs.take j ++ y :: hs.drop j) := fun x hx => by
  rcases List.mem_append.1 hx with hx | hx
  · exact h x (List.mem_of_mem_take hx)
  · rcases List.mem_cons.1 hx with rfl | hx
    · exact hy
    · exact h x (List.mem_of_mem_drop hx)
theorem Kbs.set {B : Nat} {w : World} {y : It} (h : Kbs B w hs) (hy : Kb B w y.1.1 y.1.2.1 y.1.2.2 y.2.1) : Kbs B w (hs.set j y) := fun x hx => by
  rcases List.mem_or_eq_of_mem_set hx with hx | rfl
  · exact h x hx
  · exact hy

/-- a gap goes down by one place -/
theorem gap_step (hs : List It) (z x : It) (k : Nat) (hk : 0 < k) (hkl : k ≤ hs.length) (hx : hs[k - 1]? = some x) :
    (hs.take k ++ z :: hs.drop k).set k x = hs.take (k - 1) ++ x :: hs.drop (k - 1) := by
  obtain ⟨k, rfl⟩ : ∃ k', k = k' + 1 := ⟨k - 1, by omega⟩
  rw [Nat.add_sub_cancel] at hx ⊢
  rw [List.set_append_right _ _ (by rw [List.length_take]; omega)]
  have h1 : min (k + 1) hs.length = k + 1 := by omega
  rw [List.length_take, h1, Nat.sub_self]
  rw [List.take_add_one, hx, List.set_cons_zero]
  have h2 : hs.drop k = x :: hs.drop (k + 1) := by
    have := List.getElem?_eq_some_iff.1 hx
    rw [List.drop_eq_getElem_cons this.1, this.2]
  rw [h2]
  simp
/-- the gap is filled -/
theorem gap_fill (hs : List It) (z x : It) (k : Nat) (hkl : k ≤ hs.length) :
    (hs.take k ++ z :: hs.drop k).set k x = hs.take k ++ x :: hs.drop k := by
  rw [List.set_append_right _ _ (by rw [List.length_take]; omega)]
  have h1 : min k hs.length = k := by omega
  rw [List.length_take, h1, Nat.sub_self, List.set_cons_zero]
theorem gap_before (hs : List It) (z : It) (k : Nat) (hk : 0 < k) (hkl : k ≤ hs.length) : (hs.take k ++ z :: hs.drop k)[k - 1]? = hs[k - 1]? := by
  rw [List.getElem?_append_left (by rw [List.length_take]; omega), List.getElem?_take, if_pos (by omega)]
theorem gap_length (hs : List It) (z : It) (k : Nat) (hkl : k ≤ hs.length) : (hs.take k ++ z :: hs.drop k).length = hs.length + 1 := by
  rw [List.length_append, List.length_cons, List.length_take, List.length_drop]; omega
end

/-- a pair's two cells are stored into a row that is owned -/
theorem owns_pair {W : World} {base e g n cap : Nat} {hs : List It} (h : W.ownsRow base e 2 (.slice (some ⟨g, 0, none⟩) n cap) n (hs.flatMap Pc)) (j : Nat) (hj : j < n) (x : It) :
    ((W.setCell ⟨g, j * 2, none⟩ x.1.val).setCell ⟨g, j * 2 + 1, none⟩ (.int .u64 x.2.2)).ownsRow base e 2 (.slice (some ⟨g, 0, none⟩) n cap) n ((hs.set j x).flatMap Pc) := by
  have hl : hs.length = n := by have := h.1; rw [length_pc] at this; omega
  have h1 := (h.stored (j * 2) x.1.val).1
  have h2 := (h1.stored (j * 2 + 1) (.int .u64 x.2.2)).1
  rw [set_pc hs j x (by omega)] at h2
  exact h2
theorem owns_val {W : World} {base e g n cap : Nat} {hs : List It} (h : W.ownsRow base e 2 (.slice (some ⟨g, 0, none⟩) n cap) n (hs.flatMap Pc)) (j : Nat) (x : It) (hx : hs[j]? = some x) (u : Int) :
    (W.setCell ⟨g, j * 2 + 1, none⟩ (.int .u64 u)).ownsRow base e 2 (.slice (some ⟨g, 0, none⟩) n cap) n ((hs.set j (x.1, (x.2.1, u))).flatMap Pc) := by
  have h1 := (h.stored (j * 2 + 1) (.int .u64 u)).1
  rw [set_val hs j x u hx] at h1
  exact h1
/-- a pair's cells in a row that is owned -/
theorem owns_at {W : World} {base e g n cap : Nat} {hs : List It} (h : W.ownsRow base e 2 (.slice (some ⟨g, 0, none⟩) n cap) n (hs.flatMap Pc)) {j : Nat} {x : It} (hx : hs[j]? = some x) :
    W.cell? ⟨g, j * 2, none⟩ = some x.1.val ∧ W.cell? ⟨g, j * 2 + 1, none⟩ = some (.int .u64 x.2.2) := by
  have hl : hs.length = n := by have := h.1; rw [length_pc] at this; omega
  have hj : j < n := by rw [← hl]; exact (List.getElem?_eq_some_iff.1 hx).1
  have := flat_pc hs j x hx
  exact ⟨by rw [h.cellAt (j * 2) (by omega)]; exact this.1, by rw [h.cellAt (j * 2 + 1) (by omega)]; exact this.2⟩
theorem owns_some {W : World} {base e n cap : Nat} {p : Option Addr} {xs : List Value} (h : W.ownsRow base e 2 (.slice p n cap) n xs) (h0 : 0 < n) : ∃ g, p = some ⟨g, 0, none⟩ ∧ base ≤ g ∧ g < W.heap.size ∧ n ≤ cap := by
  rcases h.2 with ⟨e, e2⟩ | ⟨g, c, cur, e, hb, hg, hc, _⟩
  · omega
  · cases e
    exact ⟨g, rfl, hb, (Array.getElem?_eq_some_iff.1 hg).1, hc⟩

theorem Lp.drewN {w wr : World} {e : Nat} {v : Value} {k : Nat} {hs : List It} (h : Lp w wr e v k hs) (z : Nat) : Lp w (wr.drewN z) e v k hs :=
  ⟨by
    induction z with
    | zero => exact h.own
    | succ z ih => exact World.ownsRow.drew ih, below_drewN h.below z⟩
end Go.Proofs.YtbihlmkjoplkoaaGreatDoor
