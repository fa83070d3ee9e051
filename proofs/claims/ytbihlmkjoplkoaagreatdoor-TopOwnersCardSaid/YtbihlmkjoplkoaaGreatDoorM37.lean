/-
  For the statement TopOwners: Pairs that lie in memory, and what is cut out of them; Keys that rise, plainly; canon: Sorted, check; canon: what building a tree makes, plainly.
-/
import Derived.Test.YtbihlmkjoplkoaaGreatDoorM36
/-
  Pairs that lie in memory, and what is cut out of them.
-/
namespace Go.Proofs.YtbihlmkjoplkoaaGreatDoor
open Go.RowKit
set_option linter.unusedVariables false

/-- a key and its value -/
abbrev KV := List Int × Int

/-- the two types of pairs -/
def prT (t : TypeId) : Prop := t = 43 ∨ t = 79

/-- pairs that lie in memory, two cells each; each key bytes that no one turns -/
structure Pr (B : Nat) (w : World) (p : Option Addr) (n c : Nat) (l : List KV) : Prop where
  len : l.length = n
  cap : n ≤ c
  few : n ≤ 1000
  small : ∀ x ∈ l, x.1.length ≤ 300 ∧ 0 ≤ x.2 ∧ x.2 < 18446744073709551616
  cells : 0 < n → ∃ g o, p = some ⟨g, o, none⟩ ∧ g < w.heap.size ∧ (g < B ∨ ∃ cs t z, w.heap[g]? = some (.cells cs t z) ∧ prT t) ∧
    ∀ i x, l[i]? = some x → ∃ q m d, w.cell? ⟨g, o + i * 2, none⟩ = some (.slice q m d) ∧ w.cell? ⟨g, o + i * 2 + 1, none⟩ = some (.int .u64 x.2) ∧ Kb B w q m d x.1

section
variable {B wb : Nat} {o : Int} {w w' : World} {p : Option Addr} {n c : Nat} {l : List KV}

theorem Pr.nil (p : Option Addr) : Pr B w p 0 c [] := ⟨rfl, Nat.zero_le _, by omega, by simp, fun h => absurd h (by omega)⟩

/-- what leaves the pairs' block and the keys leaves the pairs -/
theorem Pr.keep (h : Pr B w p n c l) (hs : w.heap.size ≤ w'.heap.size) (e : ∀ g, (g < B ∨ ∃ cs t z, w.heap[g]? = some (.cells cs t z) ∧ prT t) → g < w.heap.size → w'.heap[g]? = w.heap[g]?)
    (k : ∀ q m d xs, Kb B w q m d xs → Kb B w' q m d xs) : Pr B w' p n c l :=
  ⟨h.len, h.cap, h.few, h.small, fun h0 => by
    obtain ⟨g, o, e1, e2, e3, hc⟩ := h.cells h0
    have hg := e g e3 e2
    refine ⟨g, o, e1, Nat.lt_of_lt_of_le e2 hs, ?_, fun i x hi => ?_⟩
    · rw [hg]; exact e3
    · obtain ⟨q, m, d, g1, g2, g3⟩ := hc i x hi
      exact ⟨q, m, d, (World.cell?_of_block hg).trans g1, (World.cell?_of_block hg).trans g2, k _ _ _ _ g3⟩⟩
theorem Pr.oth (h : Pr B w p n c l) (k : Oth B wb w w') (hw : Wld w wb o) : Pr B w' p n c l := by
  refine h.keep k.size (fun g hg hlt => ?_) (fun q m d xs hk => hk.oth k hw)
  rcases hg with hg | ⟨cs, t, z, h1, h2⟩
  · exact k.low g hg
  · refine k.block g hlt (fun e => ?_) (not_isSt h1 ?_)
    · obtain ⟨x, hx⟩ := hw
      rw [e, hx] at h1; cases h1
      rcases h2 with h2 | h2 <;> cases h2
    · rcases h2 with rfl | rfl <;> simp [stT]
/-- the block of the pairs -/
theorem Pr.block {g o' : Nat} (h : Pr B w (some ⟨g, o', none⟩) n c l) (h0 : 0 < n) (k : Oth B wb w w') (hw : Wld w wb o) : w'.heap[g]? = w.heap[g]? := by
  obtain ⟨g', o'', e, hlt, hg, _⟩ := h.cells h0
  cases e
  rcases hg with hg | ⟨cs, t, z, h1, h2⟩
  · exact k.low g hg
  · refine k.block g hlt (fun e => ?_) (not_isSt h1 ?_)
    · obtain ⟨x, hx⟩ := hw
      rw [e, hx] at h1; cases h1
      rcases h2 with h2 | h2 <;> cases h2
    · rcases h2 with rfl | rfl <;> simp [stT]
theorem Pr.step (h : Pr B w p n c l) (k : Below w.heap.size w w') : Pr B w' p n c l :=
  h.keep k.size (fun g _ hlt => k.block g hlt) (fun q m d xs hk => hk.step k)
theorem Pr.drewN (h : Pr B w p n c l) (z : Nat) : Pr B (w.drewN z) p n c l := h.step (below_drewN (Below.refl _ _) z)

/-- the pair at a place -/
theorem Pr.at (h : Pr B w p n c l) {i : Nat} {x : KV} (hi : l[i]? = some x) : ∃ g o q m d, p = some ⟨g, o, none⟩ ∧ w.cell? ⟨g, o + i * 2, none⟩ = some (.slice q m d) ∧ w.cell? ⟨g, o + i * 2 + 1, none⟩ = some (.int .u64 x.2) ∧ Kb B w q m d x.1 := by
  have hl : i < l.length := (List.getElem?_eq_some_iff.1 hi).1
  obtain ⟨g, o, e1, _, _, hc⟩ := h.cells (by rw [← h.len]; omega)
  obtain ⟨q, m, d, g1, g2, g3⟩ := hc i x hi
  exact ⟨g, o, q, m, d, e1, g1, g2, g3⟩

theorem Pr.sub (h : Pr B w p n c l) (s : Nat) (hs : s ≤ n) : Pr B w (if c = s then p else p.map (·.add (s * 2))) (n - s) (c - s) (l.drop s) := by
  have hl := h.len
  have hc := h.cap
  refine ⟨by rw [List.length_drop, hl], by omega, by have := h.few; omega, fun x hx => h.small x (List.mem_of_mem_drop hx), fun h0 => ?_⟩
  rw [if_neg (by omega)]
  obtain ⟨g, o, rfl, e2, e3, hcell⟩ := h.cells (by omega)
  refine ⟨g, o + s * 2, by simp [Addr.add], e2, e3, fun i x hi => ?_⟩
  rw [List.getElem?_drop] at hi
  have := hcell (s + i) x hi
  rw [show o + s * 2 + i * 2 = o + (s + i) * 2 by omega]
  exact this

theorem run_size79 (w : World) : (sizeOf 79).run Tryz.prog w = .ok 2 w := by kernel_rfl
theorem elem32 : Tryz.prog.elem 32 = 79 := by kernel_rfl
theorem und32 : Tryz.prog.underlying 32 = some (.slice (Tryz.prog.elem 32)) := by kernel_rfl

/-- 'l[s:]' -/
theorem pairs_from (h : Pr B w p n c l) (i : Int) (s : Nat) (hi : i = (s : Int)) (hs : s ≤ n) :
    ∃ q d, (∀ w', (Instr.slice 32 (.slice p n c) (some (.int .i64 i)) none none).run Tryz.prog w' = .ok (.slice q (n - s : Nat) d) w') ∧ Pr B w q (n - s) d (l.drop s) := by
  subst hi
  refine ⟨_, _, fun w' => ?_, h.sub s hs⟩
  rw [run_slice_l w' 32 p n c und32 .i64 (s : Int) (by omega) (by omega), elem32, run_size79]
  rfl
/-- 'l[:s]' -/
theorem pairs_to (h : Pr B w p n c l) (i : Int) (s : Nat) (hi : i = (s : Int)) (hs : s ≤ n) :
    ∃ q d, (∀ w', (Instr.slice 32 (.slice p n c) none (some (.int .i64 i)) none).run Tryz.prog w' = .ok (.slice q s d) w') ∧ Pr B w q s d (l.take s) := by
  subst hi
  have hc := h.cap
  refine ⟨if c = 0 then p else p.map (·.add (0 * 2)), c, fun w' => ?_, ?_⟩
  · rw [run_slice_h w' 32 p n c und32 .i64 (s : Int) (by omega) (by omega), elem32, run_size79]
    rfl
  · have h0 := h.sub 0 (Nat.zero_le _)
    have hlen := h.len
    refine ⟨by rw [List.length_take, hlen]; omega, by omega, by have := h.few; omega, fun x hx => h.small x (List.mem_of_mem_take hx), fun hp => ?_⟩
    obtain ⟨g, o, e, e2, e3, hcell⟩ := h0.cells (by omega)
    refine ⟨g, o, e, e2, e3, fun i x hi => ?_⟩
    rw [List.getElem?_take] at hi
    split at hi
    · exact hcell i x (by simpa using hi)
    · cases hi

/-- 'k[s:t]' -/
theorem slice_mid {xs : List Int} (h : Kb B w p n c xs) (i j : Int) (s t : Nat) (hi : i = (s : Int)) (hj : j = (t : Int)) (hst : s ≤ t) (ht : t ≤ n) :
    ∃ q d, (∀ w', (Instr.slice 41 (.slice p n c) (some (.int .i64 i)) (some (.int .i64 j)) none).run Tryz.prog w' = .ok (.slice q (t - s : Nat) d) w') ∧ Kb B w q (t - s) d ((xs.take t).drop s) := by
  subst hi hj
  have hc := h.bs.cap
  have hb := h.bs.big
  have hlen := h.bs.len
  refine ⟨if c = s then p else p.map (·.add (s * 1)), c - s, fun w' => ?_, ?_⟩
  · rw [run_slice_lh w' 41 p n c und41 .i64 .i64 (s : Int) (t : Int) (by omega) (by omega) (by omega), elem41, run_size5]
    rfl
  · have h0 := h.sub s (by omega)
    refine ⟨⟨by rw [List.length_drop, List.length_take, hlen]; omega, by omega, by omega, fun x hx => h.bs.byte x (List.mem_of_mem_take (List.mem_of_mem_drop hx)), fun hp => ?_⟩, fun hp => h0.arr (by omega)⟩
    obtain ⟨b, o, e, hcell⟩ := h0.bs.cells.at (by omega)
    refine ⟨b, o, e, fun i hi => ?_⟩
    rw [hcell i (by omega)]
    simp only [List.getD_eq_getElem?_getD, List.getElem?_drop, List.getElem?_take]
    rw [if_pos (by omega)]
end

end Go.Proofs.YtbihlmkjoplkoaaGreatDoor
/-
  Keys that rise, plainly.
-/
namespace Go.Proofs.YtbihlmkjoplkoaaGreatDoor
set_option linter.unusedVariables false

/-- pairs whose keys rise -/
def Rise (l : List KV) : Prop := l.Pairwise fun x y => cmpL x.1 y.1 < 0

/-- what stands between two keys begins as both do -/
theorem com_between : ∀ (a b c : List Int), cmpL a b ≤ 0 → cmpL b c ≤ 0 → com a c ≤ com a b
  | [], b, c, _, _ => by simp [com]
  | x :: a, [], c, h, _ => by simp [cmpL] at h
  | x :: a, y :: b, [], _, _ => by simp [com]
  | x :: a, y :: b, z :: c, h1, h2 => by
    simp only [com, cmpL] at *
    by_cases e1 : x = z
    · rw [if_pos e1]
      by_cases e2 : x = y
      · have e3 : y = z := e2.symm.trans e1
        rw [if_pos e2] at h1 ⊢
        rw [if_pos e3] at h2
        have := com_between a b c h1 h2
        omega
      · rw [if_neg e2] at h1
        have e3 : ¬ y = z := fun e => e2 (e1.trans e.symm)
        rw [if_neg e3] at h2
        split at h1
        · split at h2
          · omega
          · omega
        · omega
    · rw [if_neg e1]; omega

theorem cmpL_trans : ∀ (a b c : List Int), cmpL a b < 0 → cmpL b c < 0 → cmpL a c < 0
  | [], [], c, h, _ => by simp [cmpL] at h
  | [], y :: b, [], _, h => by simp [cmpL] at h
  | [], y :: b, z :: c, _, _ => by simp [cmpL]
  | x :: a, [], c, h, _ => by simp [cmpL] at h
  | x :: a, y :: b, [], _, h => by simp [cmpL] at h
  | x :: a, y :: b, z :: c, h1, h2 => by
    simp only [cmpL] at *
    by_cases e1 : x = y
    · by_cases e2 : y = z
      · rw [if_pos e1] at h1
        rw [if_pos e2] at h2
        rw [if_pos (e1.trans e2)]
        exact cmpL_trans a b c h1 h2
      · rw [if_neg e2] at h2
        rw [if_neg (fun e => e2 (e1.symm.trans e))]
        split at h2
        · rw [if_pos (by omega)]; omega
        · omega
    · rw [if_neg e1] at h1
      split at h1
      · by_cases e2 : y = z
        · rw [if_neg (by omega), if_pos (by omega)]; omega
        · rw [if_neg e2] at h2
          split at h2
          · rw [if_neg (by omega), if_pos (by omega)]; omega
          · omega
      · omega

theorem cmpL_pre : ∀ (p u : List Int), 0 ≤ cmpL (p ++ u) p
  | [], [] => by simp [cmpL]
  | [], x :: u => by simp [cmpL]
  | y :: p, u => by simp [cmpL]; exact cmpL_pre p u
theorem cmpL_flip : ∀ (a b : List Int), cmpL a b = - cmpL b a
  | [], [] => rfl
  | [], _ :: _ => rfl
  | _ :: _, [] => rfl
  | x :: a, y :: b => by
    simp only [cmpL]
    by_cases e : x = y
    · rw [if_pos e, if_pos e.symm]; exact cmpL_flip a b
    · have e' : ¬ y = x := fun h => e h.symm
      by_cases h : x < y
      · have h' : ¬ y < x := by omega
        simp [e, e', h, h']
      · have h' : y < x := by omega
        simp [e, e', h, h']
theorem com_app : ∀ (p u v : List Int), com (p ++ u) (p ++ v) = p.length + com u v
  | [], u, v => by simp
  | x :: p, u, v => by simp [com]; rw [com_app p u v]; omega

/-- keys that rise, and begin with the same -/
structure Ks (pre : List Int) (l : List KV) : Prop where
  rise : Rise l
  pre : ∀ x ∈ l, ∃ r, x.1 = pre ++ r

theorem pre_split {K xs r : List Int} {b : Int} (h : xs = K ++ r) (h1 : K.length < xs.length) (hb : xs.getD K.length 0 = b) : ∃ r', xs = (K ++ [b]) ++ r' := by
  subst h
  cases r with
  | nil => simp at h1
  | cons y r =>
    rw [getD_mid] at hb
    subst hb
    exact ⟨r, by simp⟩

/-- where the first and the last key part, all do -/
theorem ks_end {pre : List Int} {l : List KV} {n : Nat} (h : Ks pre l) (hn : l.length = n + 2) {x0 xn : KV} (h0 : l[0]? = some x0) (hl : l[n + 1]? = some xn) :
    pre.length ≤ com x0.1 xn.1 ∧ com x0.1 xn.1 ≤ x0.1.length ∧ com x0.1 xn.1 < xn.1.length ∧ (∀ x ∈ l, ∃ r, x.1 = x0.1.take (com x0.1 xn.1) ++ r) ∧
    (∀ i x, 0 < i → l[i]? = some x → com x0.1 xn.1 < x.1.length) ∧ (com x0.1 xn.1 < x0.1.length → x0.1.getD (com x0.1 xn.1) 0 ≠ xn.1.getD (com x0.1 xn.1) 0) := by
  have m0 := List.mem_of_getElem? h0
  have ml := List.mem_of_getElem? hl
  have first : ∀ i x, 0 < i → l[i]? = some x → cmpL x0.1 x.1 < 0 := fun i x hi hx => by
    have := List.pairwise_iff_getElem.1 h.rise 0 i (by omega) (List.getElem?_eq_some_iff.1 hx).1 hi
    rw [(List.getElem?_eq_some_iff.1 h0).2, (List.getElem?_eq_some_iff.1 hx).2] at this
    exact this
  have last : ∀ i x, i < n + 1 → l[i]? = some x → cmpL x.1 xn.1 < 0 := fun i x hi hx => by
    have := List.pairwise_iff_getElem.1 h.rise i (n + 1) (List.getElem?_eq_some_iff.1 hx).1 (by omega) hi
    rw [(List.getElem?_eq_some_iff.1 hl).2, (List.getElem?_eq_some_iff.1 hx).2] at this
    exact this
  obtain ⟨r0, e0⟩ := h.pre x0 m0
  obtain ⟨rn, en⟩ := h.pre xn ml
  have beg : ∀ x ∈ l, ∃ r, x.1 = x0.1.take (com x0.1 xn.1) ++ r := fun x hx => by
    obtain ⟨i, hi⟩ := List.getElem?_of_mem hx
    have hc : com x0.1 xn.1 ≤ com x0.1 x.1 := by
      by_cases i0 : i = 0
      · subst i0
        rw [h0] at hi; cases hi
        have : com x0.1 x0.1 = x0.1.length := by have := com_app x0.1 [] []; simpa [com] using this
        rw [this]; exact com_le_left _ _
      · by_cases i1 : i < n + 1
        · exact com_between _ _ _ (Int.le_of_lt (first i x (by omega) hi)) (Int.le_of_lt (last i x i1 hi))
        · have hil := (List.getElem?_eq_some_iff.1 hi).1
          obtain rfl : i = n + 1 := by omega
          rw [hl] at hi; cases hi
          exact Nat.le_refl _
    have h1 := com_split x0.1 x.1
    refine ⟨x.1.drop (com x0.1 xn.1), ?_⟩
    have h2 : x0.1.take (com x0.1 xn.1) = x.1.take (com x0.1 xn.1) := by
      have := congrArg (fun t => t.take (com x0.1 xn.1)) h1
      simp only [List.take_take] at this
      rwa [Nat.min_eq_left hc] at this
    rw [h2, List.take_append_drop]
  have long : ∀ i x, 0 < i → l[i]? = some x → com x0.1 xn.1 < x.1.length := fun i x hi hx => by
    obtain ⟨r, hr⟩ := beg x (List.mem_of_getElem? hx)
    have hle := com_le_left x0.1 xn.1
    have hlen : (x0.1.take (com x0.1 xn.1)).length = com x0.1 xn.1 := by rw [List.length_take]; omega
    have h3 := congrArg List.length hr
    rw [List.length_append, hlen] at h3
    by_cases hr0 : r = []
    · subst hr0
      rw [List.append_nil] at hr
      have h4 := first i x hi hx
      have h5 := cmpL_pre (x0.1.take (com x0.1 xn.1)) (x0.1.drop (com x0.1 xn.1))
      rw [List.take_append_drop, ← hr] at h5
      omega
    · have : 0 < r.length := List.length_pos_iff.2 hr0
      omega
  refine ⟨?_, com_le_left _ _, long (n + 1) xn (by omega) hl, beg, long, fun hlt => com_diff _ _ hlt (long (n + 1) xn (by omega) hl)⟩
  rw [e0, en, com_app]; omega

theorem Ks.drop {pre : List Int} {l : List KV} (h : Ks pre l) (s : Nat) : Ks pre (l.drop s) := ⟨List.Pairwise.sublist (List.drop_sublist s l) h.rise, fun x hx => h.pre x (List.mem_of_mem_drop hx)⟩
theorem Ks.take {pre : List Int} {l : List KV} (h : Ks pre l) (s : Nat) : Ks pre (l.take s) := ⟨List.Pairwise.sublist (List.take_sublist s l) h.rise, fun x hx => h.pre x (List.mem_of_mem_take hx)⟩

/-- whether keys rise, told by neighbours -/
def riseB : List KV → Bool
  | a :: b :: r => decide (cmpL a.1 b.1 < 0) && riseB (b :: r)
  | _ => true
theorem riseB_iff : ∀ l : List KV, riseB l = true ↔ ∀ i x y, l[i]? = some x → l[i + 1]? = some y → cmpL x.1 y.1 < 0
  | [] => by simp [riseB]
  | [a] => by simp [riseB]
  | a :: b :: r => by
    have ih := riseB_iff (b :: r)
    simp only [riseB, Bool.and_eq_true, decide_eq_true_eq, ih]
    constructor
    · rintro ⟨h0, h⟩ i x y hx hy
      cases i with
      | zero => simp at hx hy; subst hx hy; exact h0
      | succ i => exact h i x y (by simpa using hx) (by simpa using hy)
    · intro h
      exact ⟨h 0 a b (by simp) (by simp), fun i x y hx hy => h (i + 1) x y (by simpa using hx) (by simpa using hy)⟩
theorem Rise.told {l : List KV} (h : Rise l) : ∀ i x y, l[i]? = some x → l[i + 1]? = some y → cmpL x.1 y.1 < 0 := fun i x y hx hy => by
  have := List.pairwise_iff_getElem.1 h i (i + 1) (List.getElem?_eq_some_iff.1 hx).1 (List.getElem?_eq_some_iff.1 hy).1 (by omega)
  rw [(List.getElem?_eq_some_iff.1 hx).2, (List.getElem?_eq_some_iff.1 hy).2] at this
  exact this
end Go.Proofs.YtbihlmkjoplkoaaGreatDoor
/-
  canon: Sorted, check.
-/
namespace Go.Proofs.YtbihlmkjoplkoaaGreatDoor
open Go.RowKit
set_option linter.unusedVariables false

section
variable {B wb : Nat} {o : Int} {w w' : World} {p : Option Addr} {n c : Nat} {l : List KV}

set_option maxRecDepth 100000 in
set_option maxHeartbeats 800000 in
theorem sorted68 (h : Pr B w p n c l) (hr : Rise l) : Calls Tryz.prog 68 #[.slice p n c] w fun e w' => e = .returned (.bool true) ∧ ∃ z, w' = w.drewN z := by
  have hn := h.few
  have HP := Lib.hid h
  have HR := Lib.hid hr.told
  clear h hr
  go_enter Tryz.func68, Tryz.ntmps68
  go_wp2_with fail
  go_loopw [3] (fun i wr => ∃ k : Nat, i = .int .i64 k ∧ 1 ≤ k ∧ k ≤ n + 1 ∧ ∃ z, wr = w.drewN z) (fun i _ => n + 1 - (intOf i).toNat)
  case atStart => exact ⟨1, rfl, by omega, by omega, 0, rfl⟩
  case round =>
    obtain ⟨k, rfl, hk1, hk2, z, rfl⟩ := hrel
    by_cases hlt : k < n
    · obtain ⟨x0, e0⟩ : ∃ x, l[k - 1]? = some x := ⟨l[k - 1]'(by rw [HP.out.len]; omega), List.getElem?_eq_getElem (by rw [HP.out.len]; omega)⟩
      obtain ⟨x1, e1⟩ : ∃ x, l[k]? = some x := ⟨l[k]'(by rw [HP.out.len]; omega), List.getElem?_eq_getElem (by rw [HP.out.len]; omega)⟩
      obtain ⟨g, o, q, m, d, rfl, g0, _, hb0⟩ := HP.out.at e0
      obtain ⟨g', o', q', m', d', e2, g1, _, hb1⟩ := HP.out.at e1
      cases e2
      have hlt0 := HR.out (k - 1) x0 x1 e0 (by rw [Nat.sub_add_cancel hk1]; exact e1)
      have H15 : Hid (∀ j, Calls Tryz.prog 99 #[.slice q m d, .slice q' m' d'] (w.drewN j) fun e w' => e = .returned (.int .i64 (cmpL x0.1 x1.1)) ∧ w' = w.drewN j) := fun j => cmp15 _ _ _ _ _ _ _ _ _ (hb0.bs.drewN j) (hb1.bs.drewN j)
      generalize hcm : cmpL x0.1 x1.1 = r at *
      have hr1 : decide (0 ≤ r) = false := by simp; omega
      have hw : IntKind.i64.wrap ((k : Int) - 1) = (k : Int) - 1 := IntWalk.i64_in _ (by omega)
      have hw2 : (0 : Int) ≤ (k : Int) - 1 := by omega
      have hw3 : (1 : Int) ≤ (k : Int) := by omega
      have hw4 : (k : Int) - 1 < (n : Int) := by omega
      have hw5 : ((k : Int) - 1).toNat = k - 1 := by omega
      have q1 : IntKind.i64.wrap ((k : Int) + 1) = (k : Int) + 1 := IntWalk.i64_in _ (by omega)
      clear hb0 hb1 hlt0 hcm e0 e1
      go_wp2_with fail
      go_quiet ((go_at_call 99; exact (H15.out _).mono (fun _ _ ⟨he, hw⟩ => ⟨he, _, hw⟩)))
      go_wp2_with fail
      go_roundw
      case rel => exact ⟨k + 1, by go_num, by omega, by omega, z + nq, rfl⟩
      case measure => simp [intOf]; omega
    · go_wp2_with fail
      go_ret
      exact ⟨rfl, z, rfl⟩

set_option maxRecDepth 100000 in
set_option maxHeartbeats 800000 in
theorem check46 (h : Pr B w p n c l) (hr : Rise l) : Calls Tryz.prog 46 #[.slice p n c] w fun e w' => e = .returned (.int .i64 0) ∧ Below w.heap.size w w' := by
  have hn := h.few
  have HP := Lib.hid h
  have HR := Lib.hid hr
  clear h hr
  go_enter Tryz.func46, Tryz.ntmps46
  go_wp2_with fail
  go_loopw [8] (fun i wr => ∃ k : Nat, i = .int .i64 k ∧ k ≤ n ∧ Hid (Gw w wr)) (fun i _ => n - (intOf i).toNat)
  case atStart => exact ⟨0, rfl, by omega, Gw.refl w⟩
  case round =>
    obtain ⟨k, rfl, hk, hg⟩ := hrel
    by_cases hlt : k < n
    · obtain ⟨x, e0⟩ : ∃ x, l[k]? = some x := ⟨l[k]'(by rw [HP.out.len]; omega), List.getElem?_eq_getElem (by rw [HP.out.len]; omega)⟩
      obtain ⟨g, o, q, m, d, rfl, g0, g1, hb⟩ := (HP.out.step hg.out).at e0
      have hx := HP.out.small x (List.mem_of_getElem? e0)
      have hm : m ≤ 300 := by rw [← hb.bs.len]; exact hx.1
      have HM : Hid (∀ W, Calls Tryz.prog 54 #[.slice q m d] W fun e w' => e = .returned (.int .i64 0) ∧ w' = W) := fun W => by
        have := may40 q m d W (by omega)
        rw [show mayE m = 0 from if_neg (by omega)] at this
        exact this
      have GA : Hid (Gw w (wr.alloc (.cells #[.slice q m d, .int .u64 x.2] 79))) := hg.out.alloc _
      clear hx hm hb e0
      go_wp2_with fail
      refine (HM.out _).mono ?_; rintro e w1 ⟨rfl, hw1⟩
      rw [hw1]; clear hw1 w1
      go_wp2_with fail
      go_roundw
      case rel => exact ⟨k + 1, by go_num, by omega, GA.out⟩
      case measure => simp [intOf]; omega
    · have HS := Lib.hid (sorted68 (HP.out.step hg.out) HR.out)
      go_wp2_with fail
      refine HS.out.mono ?_; rintro e w1 ⟨rfl, z, hw1⟩
      rw [hw1]; clear hw1 w1
      go_wp2_with fail
      go_ret
      exact ⟨rfl, hg.out.drewN z⟩
end
end Go.Proofs.YtbihlmkjoplkoaaGreatDoor
/-
  canon: what building a tree makes, plainly.
-/
namespace Go.Proofs.YtbihlmkjoplkoaaGreatDoor
open Go.RowKit
set_option linter.unusedVariables false

def Nobody : List Int → Nat → Int → Prop := fun _ _ _ => False

/-- what building makes -/
structure Tr (q : Int) (n i : Nat) (pre : List Int) (S S' : Store) (t : T) : Prop where
  rep : Rep S' t
  grown : ∀ a d, S a = some d → S' a = some d
  new : ∀ a, t.In a → S a = none
  sep : t.Sep
  full : t.Full
  all : t.All (Good q Nobody 300) pre
  cnt : t.cnt (fun _ => true) ≤ n * (301 - i)
  live : 0 < n → t ≠ .nil

def TreeS (B wb : Nat) (o : Int) (w w' : World) (S : Store) (q : Int) (n i : Nat) (pre : List Int) (e : Ending) : Prop :=
  ∃ t S', e = .returned (.pointer (pt t.ptr)) ∧ Env B wb o w' S' ∧ Oth B wb w w' ∧ Tr q n i pre S S' t

/-- while the kids are set -/
structure Bld (B wb : Nat) (o : Int) (w0 : World) (S0 : Store) (q : Int) (a : Nat) (pre part : List Int) (val : Int) (has : Bool) (w : World) (S : Store) (kf : Nat → T) (N : Nat) : Prop where
  env : Env B wb o w S
  oth : Oth B wb w0 w
  grown : ∀ x d, S0 x = some d → S x = some d
  newa : S0 a = none
  node : S a = some ⟨q, part, val, has, false, fun b => (kf b).ptr⟩
  rep : ∀ b, Rep S (kf b)
  sep : (T.node a q part val has false kf).Sep
  new : ∀ b x, (kf b).In x → S0 x = none
  full : ∀ b, (kf b).Full
  all : ∀ b : Nat, (kf b).All (Good q Nobody 300) (pre ++ part ++ [(b : Int)])
  cnt : sumTo (fun b => (kf b).cnt (fun _ => true)) 256 ≤ N

section
variable {B wb : Nat} {o : Int} {w0 w : World} {S0 S : Store} {q : Int} {a : Nat} {pre part : List Int} {val : Int} {has : Bool} {kf : Nat → T} {N : Nat}

theorem sum_none' (n : Nat) : sumTo (fun b => (none' b).cnt (fun _ => true)) n = 0 := sumTo_zero n (fun _ _ => rfl)

theorem Bld.start (he : Env B wb o w S) (ho : Oth B wb w0 w) (h0 : S0 a = none) (h1 : S a = some ⟨q, part, val, has, false, fun _ => none⟩) (h2 : ∀ x, x ≠ a → S x = S0 x) :
    Bld B wb o w0 S0 q a pre part val has w S none' 0 :=
  ⟨he, ho, fun x d hx => by rw [h2 x (fun e => by rw [e, h0] at hx; cases hx)]; exact hx, h0, h1, fun _ => trivial, sep_none' _ _ _ _ _ _, fun b x hx => hx.elim, fun _ => trivial, fun _ => trivial,
    by rw [sum_none']; exact Nat.le_refl _⟩

theorem Bld.set (h : Bld B wb o w0 S0 q a pre part val has w S kf N) (b : Nat) {w1 w2 : World} {S1 : Store} {t : T} {m i x : Nat} (ho1 : Oth B wb w w1) (tr : Tr q m i (pre ++ part ++ [(b : Int)]) S S1 t) (hx : t.ptr = some x)
    (he2 : Env B wb o w2 (stS S1 a ⟨q, part, val, has, false, updK (fun b => (kf b).ptr) b (some x)⟩)) (ho2 : Oth B wb w1 w2) :
    Bld B wb o w0 S0 q a pre part val has w2 (stS S1 a ⟨q, part, val, has, false, updK (fun b => (kf b).ptr) b (some x)⟩) (updT kf b t) (N + m * (301 - i)) := by
  have ha : S a ≠ none := by rw [h.node]; simp
  have hat : ¬ t.In a := fun hin => ha (tr.new a hin)
  have hak : ∀ c, ¬ (kf c).In a := h.sep.1
  have hk1 : ∀ c, Rep S1 (kf c) := fun c => (h.rep c).same fun y hy => by
    cases hS : S y with
    | none => exact absurd hS ((h.rep c).in hy)
    | some d => exact tr.grown y d hS
  have hdis : ∀ c y, (kf c).In y → ¬ t.In y := fun c y hy ht => (h.rep c).in hy (tr.new y ht)
  refine ⟨he2, (h.oth.trans ho1).trans ho2, fun y d hy => ?_, h.newa, ?_, fun c => ?_, ⟨fun c => ?_, fun c c' hcc y hy hy' => ?_, fun c => ?_⟩, fun c y hy => ?_, full_upd h.full tr.full, fun c => ?_, ?_⟩
  · rw [stS_other _ _ _ _ (fun e => by rw [e, h.newa] at hy; cases hy)]
    exact tr.grown y d (h.grown y d hy)
  · rw [stS_same, ptr_upd, hx]
  · by_cases e : c = b
    · subst e; rw [updT_same]
      exact tr.rep.same fun y hy => stS_other _ _ _ _ (fun e => hat (e ▸ hy))
    · rw [updT_other _ _ _ _ e]
      exact (hk1 c).same fun y hy => stS_other _ _ _ _ (fun e => hak c (e ▸ hy))
  · by_cases e : c = b
    · subst e; rw [updT_same]; exact hat
    · rw [updT_other _ _ _ _ e]; exact hak c
  · by_cases e : c = b
    · subst e
      rw [updT_same] at hy
      rw [updT_other _ _ _ _ (fun e => hcc e.symm)] at hy'
      exact hdis c' y hy' hy
    · rw [updT_other _ _ _ _ e] at hy
      by_cases e' : c' = b
      · subst e'; rw [updT_same] at hy'; exact hdis c y hy hy'
      · rw [updT_other _ _ _ _ e'] at hy'
        exact h.sep.2.1 c c' hcc y hy hy'
  · by_cases e : c = b
    · subst e; rw [updT_same]; exact tr.sep
    · rw [updT_other _ _ _ _ e]; exact h.sep.2.2 c
  · by_cases e : c = b
    · subst e; rw [updT_same] at hy
      have h1 := tr.new y hy
      cases hS : S0 y with
      | none => rfl
      | some d => rw [h.grown y d hS] at h1; cases h1
    · rw [updT_other _ _ _ _ e] at hy; exact h.new c y hy
  · by_cases e : c = b
    · subst e; rw [updT_same]; exact tr.all
    · rw [updT_other _ _ _ _ e]; exact h.all c
  · have h1 := sumTo_upd (fun t => t.cnt fun _ => true) kf b t 256
    have h2 := tr.cnt
    have h3 := h.cnt
    omega

theorem Bld.done (h : Bld B wb o w0 S0 q a pre part val has w S kf N) {n i : Nat} (hp : pre.length + part.length ≤ 300) (hf : has = true ∨ Two kf) (hN : N + 1 ≤ n * (301 - i)) :
    Tr q n i pre S0 S (.node a q part val has false kf) :=
  ⟨⟨h.node, h.rep⟩, h.grown, fun y hy => by
    rcases hy with rfl | ⟨b, hb⟩
    · exact h.newa
    · exact h.new b y hb, h.sep, ⟨hf, h.full⟩, ⟨⟨Or.inl rfl, hp⟩, h.all⟩, by have := h.cnt; simp only [T.cnt, if_pos]; omega, fun _ e => by cases e⟩

/-- the tree of one pair -/
theorem tr_leaf {v : Int} {k : List Int} {i : Nat} (h0 : S0 a = none) (hl : pre.length + k.length ≤ 300) (hi : i ≤ 300) :
    Tr q 1 i pre S0 (stS S0 a ⟨q, k, v, true, true, fun _ => none⟩) (.node a q k v true true none') :=
  ⟨rep_leaf (stS_same _ _ _), fun x d hx => by rw [stS_other _ _ _ _ (fun e => by rw [e, h0] at hx; cases hx)]; exact hx, fun y hy => by
    rcases hy with rfl | ⟨b, hb⟩
    · exact h0
    · exact hb.elim, sep_none' _ _ _ _ _ _, full_none' _ _ _ _ _, ⟨⟨Or.inl rfl, hl⟩, fun _ => trivial⟩, by
      simp only [T.cnt, if_pos]
      rw [sum_none']; omega, fun _ e => by cases e⟩
end

/-- the maker, boxed -/
structure Mk (w : World) (b : Nat) (q : Int) (wb : Nat) : Prop where
  heap : w.heap[b]? = some (.cells #[.pointer (some ⟨wb, 0, none⟩), .int .u64 q] 119 (0, 0))
  ne : b ≠ wb
section
variable {B wb : Nat} {o : Int} {w : World} {S : Store}
theorem Mk.c0 {b : Nat} {q : Int} (h : Mk w b q wb) : w.cell? ⟨b, 0, none⟩ = some (.pointer (some ⟨wb, 0, none⟩)) := by rw [cell_of_row _ _ _ _ _ _ h.heap]; rfl
theorem Mk.c1 {b : Nat} {q : Int} (h : Mk w b q wb) : w.cell? ⟨b, 1, none⟩ = some (.int .u64 q) := by rw [cell_of_row _ _ _ _ _ _ h.heap]; rfl
theorem Mk.oth {b : Nat} {q : Int} {w' : World} (h : Mk w b q wb) (k : Oth B wb w w') : Mk w' b q wb := ⟨k.keep h.heap (by simp [stT]) h.ne, h.ne⟩
theorem Mk.both {b : Nat} {q : Int} (h : Mk w b q wb) : w.cell? ⟨b, 0, none⟩ = some (.pointer (some ⟨wb, 0, none⟩)) ∧ w.cell? ⟨b, 1, none⟩ = some (.int .u64 q) := ⟨h.c0, h.c1⟩

/-- the world behind the box -/
structure StartM (B wb : Nat) (o : Int) (w W : World) (S : Store) (q : Int) : Prop where
  env : Env B wb o W S
  oth : Oth B wb w W
  bel : Below w.heap.size w W
  bx : Mk W w.heap.size q wb
theorem StartM.mk' (h : Env B wb o w S) (q : Int) : StartM B wb o w (w.alloc (.cells #[.pointer (some ⟨wb, 0, none⟩), .int .u64 q] 119)) S q := by
  have hB : Below w.heap.size w (w.alloc (.cells #[.pointer (some ⟨wb, 0, none⟩), .int .u64 q] 119)) := (Below.refl _ _).alloc (Nat.le_refl _) _
  exact ⟨h.below hB, h.oth hB, hB, ⟨heap_alloc_new _ _, by have := h.wld.lt; omega⟩⟩
end
end Go.Proofs.YtbihlmkjoplkoaaGreatDoor
