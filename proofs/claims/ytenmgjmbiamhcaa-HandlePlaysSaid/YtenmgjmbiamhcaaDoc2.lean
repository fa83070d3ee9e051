/-
  The document's table, by value: Handles, New.
-/
import Derived.Test.YtenmgjmbiamhcaaDoc1
namespace Go.Proofs.Ytenmgjmbiamhcaa
open Go.RowKit
set_option linter.unusedVariables false

/-- the handles that are there, below k -/
def posL (hs : List Bool) (k : Nat) : List Int := ((List.range k).filter fun j => hs[j]?.getD false).map fun j : Nat => (j : Int) + 1
theorem posL_succ (hs : List Bool) (k : Nat) (b : Bool) (h : hs[k]? = some b) : posL hs (k + 1) = posL hs k ++ (if b then [(k : Int) + 1] else []) := by
  unfold posL
  rw [List.range_succ, List.filter_append, List.map_append]
  congr 1
  cases b <;> simp [h]
theorem posL_len (hs : List Bool) : ∀ k, k ≤ hs.length → (posL hs k).length = cntB hs k
  | 0, _ => rfl
  | k + 1, hk => by
    obtain ⟨b, hb⟩ : ∃ b, hs[k]? = some b := ⟨hs[k]'(by omega), List.getElem?_eq_getElem (by omega)⟩
    rw [posL_succ hs k b hb, cntB_succ hs k b hb, List.length_append, posL_len hs k (by omega)]
    cases b <;> simp
theorem posL_mem (hs : List Bool) (k : Nat) (x : Int) : x ∈ posL hs k ↔ ∃ j : Nat, j < k ∧ hs[j]? = some true ∧ x = (j : Int) + 1 := by
  unfold posL
  simp only [List.mem_map, List.mem_filter, List.mem_range]
  constructor
  · rintro ⟨j, ⟨h1, h2⟩, rfl⟩
    refine ⟨j, h1, ?_, rfl⟩
    cases hj : hs[j]? with
    | none => rw [hj] at h2; cases h2
    | some b => rw [hj] at h2; simp at h2; rw [h2]
  · rintro ⟨j, h1, h2, rfl⟩
    exact ⟨j, ⟨h1, by rw [h2]; rfl⟩, rfl⟩
theorem posL_sorted (hs : List Bool) (k : Nat) : (posL hs k).Pairwise (fun a b => a < b) := by
  unfold posL
  rw [List.pairwise_map]
  exact (List.pairwise_lt_range.filter _).imp (fun h => by omega)

theorem posL_f {w : World} {base ch ca m : Nat} {ph pa : Option Addr} {hs : List Bool} {xs : List Int} {f : Int → Option Int} (h : Rt w base ph ch pa ca m hs xs f) (x : Int) : x ∈ posL hs m ↔ (f x).isSome = true := by
  rw [posL_mem]
  constructor
  · rintro ⟨j, h1, h2, rfl⟩
    obtain ⟨y, hy⟩ : ∃ y, xs[j]? = some y := ⟨xs[j]'(by have := h.lenA; omega), List.getElem?_eq_getElem (by have := h.lenA; omega)⟩
    rw [h.hit j true y h2 hy]; rfl
  · intro hx
    have hl := h.out x hx
    obtain ⟨i, hi⟩ : ∃ i : Nat, x = (i : Int) + 1 := ⟨(x - 1).toNat, by omega⟩
    subst hi
    refine ⟨i, by omega, ?_, rfl⟩
    obtain ⟨b, hb⟩ : ∃ b, hs[i]? = some b := ⟨hs[i]'(by have := h.lenH; omega), List.getElem?_eq_getElem (by have := h.lenH; omega)⟩
    obtain ⟨y, hy⟩ : ∃ y, xs[i]? = some y := ⟨xs[i]'(by have := h.lenA; omega), List.getElem?_eq_getElem (by have := h.lenA; omega)⟩
    have h2 := h.hit i b y hb hy
    rw [h2] at hx
    cases b with
    | true => exact hb
    | false => simp at hx

theorem sorted_same {l l' : List Int} (h1 : l.Pairwise (fun a b => a ≤ b)) (h2 : l'.Pairwise (fun a b => a ≤ b)) (n1 : l.Nodup) (n2 : l'.Nodup) (hm : ∀ x, x ∈ l ↔ x ∈ l') : l = l' :=
  List.Perm.eq_of_pairwise (le := fun a b => a ≤ b) (fun a b _ _ h1 h2 => Int.le_antisymm h1 h2) h1 h2 ((List.perm_ext_iff_of_nodup n1 n2).2 hm)

/-- what the document's Handles leaves -/
def DOut (w : World) (hs : List Bool) (m : Nat) (e : Ending) (w' : World) : Prop :=
  ∃ (p : Option Addr) (n c : Nat), e = .returned (.slice p n c) ∧ w'.ownsRow (w.heap.size + 1) 3 1 (.slice p n c) n ((posL hs m).map iv) ∧ Below w.heap.size w w'

set_option maxRecDepth 100000 in
set_option maxHeartbeats 1600000 in
theorem handles26 {w : World} {base ch ca m : Nat} {ph pa : Option Addr} {hs : List Bool} {xs : List Int} {f : Int → Option Int} (h : Rt w base ph ch pa ca m hs xs f) (room : Int) :
    Calls Try.prog 26 #[.agg #[.int .i64 room, .slice ph m ch, .slice pa m ca]] w (DOut w hs m) := by
  have H := Lib.hid h
  have hsm := h.small
  clear h
  go_enter Try.func26, Try.ntmps26
  go_wp2_with fail
  obtain ⟨W, hW⟩ : ∃ W, W = w.alloc (.cells #[.int .i64 room, .slice ph m ch, .slice pa m ca] 30) := ⟨_, rfl⟩
  rw [← hW]
  obtain ⟨b1, hb1⟩ : ∃ b1, b1 = w.heap.size := ⟨_, rfl⟩
  have sW : W.heap.size = w.heap.size + 1 := by rw [hW, World.size_alloc]
  have c1 : W.cell? ⟨b1, 1, none⟩ = some (.slice ph m ch) := by rw [hW, hb1]; exact (Var.new rfl rfl).cell
  have HR : Hid (Rt W base ph ch pa ca m hs xs f) := by show Rt _ _ _ _ _ _ _ _ _ _; rw [hW]; exact H.out.step ((Below.refl _ _).alloc (Nat.le_refl _) _)
  have HB0 : Hid (Below w.heap.size w W) := by show Below _ _ _; rw [hW]; exact (Below.refl _ _).alloc (Nat.le_refl _) _
  have HB1 := Lib.hid hb1
  have SW := Lib.hid sW
  have HC1 := Lib.hid c1
  rw [← hb1]
  clear hW H hb1 sW c1
  go_loopw [3, 4] (fun u t wr => ∃ (i : Nat) (p : Option Addr) (n c : Nat), u = .slice p n c ∧ t = .int .i64 i ∧ i ≤ m ∧ Hid (wr.ownsRow W.heap.size 3 1 (.slice p n c) n ((posL hs i).map iv)) ∧ Hid (Below W.heap.size W wr)) (fun _ t _ => m - (intOf t).toNat)
  case atStart => exact ⟨0, none, 0, 0, rfl, rfl, by omega, World.ownsRow_nil _ _ _ _, Below.refl _ _⟩
  case round =>
    obtain ⟨i, p, n, c, rfl, rfl, hi, HOW, HB⟩ := hrel
    have c1 : wr.cell? ⟨b1, 1, none⟩ = some (.slice ph m ch) := (HB.out.cell (p := ⟨b1, 1, none⟩) (by have := HB1.out; have := SW.out; show b1 < _; omega)).trans HC1.out
    by_cases hlt : i < m
    · have hR := HR.out.step HB.out
      obtain ⟨b, hb⟩ : ∃ b, hs[i]? = some b := ⟨hs[i]'(by have := HR.out.lenH; omega), List.getElem?_eq_getElem (by have := HR.out.lenH; omega)⟩
      obtain ⟨blk, hph, _, hmc, ci⟩ := own_bool hR.ownH i b hb
      have d0 : decide ((i : Int) < (m : Int)) = true := by simp; omega
      have b0 : (0 : Int) ≤ (i : Int) := by omega
      have b1' : (i : Int) < (m : Int) := by omega
      have q0 : IntKind.i64.wrap ((i : Int) + 1) = (i : Int) + 1 := IntWalk.i64_in _ (by omega)
      have hps := posL_succ hs i b hb
      have HPS := Lib.hid hps
      have hnl := HOW.out.1
      rw [List.length_map] at hnl
      have hnb : n ≤ 4096 := by
        have h1 := posL_len hs i (by have := HR.out.lenH; omega)
        have h2 := cntB_le hs i
        omega
      rw [hph] at c1
      clear hps hb hR hnl hph
      cases b with
      | true =>
        go_wp2_with (first
          | (at_len; fail)
          | (at_builtin; refine wpList_append_int rfl _ _ (by rfl) ((i : Int) + 1) W.heap.size p n c (posL hs i) (by rfl) (by rfl) HOW.out hnb HB.out.size ?_; intro p2 c2 w2 hO hB2; refine stop ?_))
        refine unhid ?_
        have HO2 : Hid (w2.ownsRow W.heap.size 3 1 (.slice p2 (n + 1) c2) (n + 1) ((posL hs (i + 1)).map iv)) := by
          show World.ownsRow _ _ _ _ _ _ _
          rw [HPS.out]; exact hO
        have HB2 := Lib.hid (HB.out.trans hB2)
        clear hO hB2 c1 ci
        go_wp2_with fail
        go_roundw
        case rel => exact ⟨i + 1, p2, n + 1, c2, rfl, by go_num, by omega, HO2, HB2⟩
        case measure => simp [intOf]; omega
      | false =>
        have HO2 : Hid (wr.ownsRow W.heap.size 3 1 (.slice p n c) n ((posL hs (i + 1)).map iv)) := by
          show World.ownsRow _ _ _ _ _ _ _
          rw [HPS.out]; simpa using HOW.out
        go_wp2_with fail
        go_roundw
        case rel => exact ⟨i + 1, p, n, c, rfl, by go_num, by omega, HO2, HB⟩
        case measure => simp [intOf]; omega
    · obtain rfl : i = m := by omega
      have d0 : decide ((i : Int) < (i : Int)) = false := by simp
      have hfin : Below w.heap.size w wr := HB0.out.trans (HB.out.mono (by have := SW.out; omega))
      have HFIN := Lib.hid hfin
      have HO : Hid (wr.ownsRow (w.heap.size + 1) 3 1 (.slice p n c) n ((posL hs i).map iv)) := by show World.ownsRow _ _ _ _ _ _ _; rw [← SW.out]; exact HOW.out
      clear hfin
      go_wp2_with fail
      go_returns
      exact ⟨p, n, c, rfl, HO.out, HFIN.out⟩

theorem new7_low (room : Int) (w : World) (h : room < 1) : Calls Try.prog 7 #[.int .i64 room] w fun e w' => e = .returned (.tuple #[.agg #[.int .i64 0, .slice none 0 0, .slice none 0 0], .int .i64 1]) ∧ Below w.heap.size w w' := by
  have d1 : decide (room < 1) = true := by simp; omega
  clear h
  go_enter Try.func7, Try.ntmps7
  go_wp2_with fail
  go_returns
  exact ⟨rfl, (Below.refl _ _).alloc (Nat.le_refl _) _⟩
theorem new7_high (room : Int) (w : World) (h1 : ¬ room < 1) (h : 1024 < room) : Calls Try.prog 7 #[.int .i64 room] w fun e w' => e = .returned (.tuple #[.agg #[.int .i64 0, .slice none 0 0, .slice none 0 0], .int .i64 1]) ∧ Below w.heap.size w w' := by
  have d1 : decide (room < 1) = false := by simp; omega
  have d2 : decide (1024 < room) = true := by simp; omega
  clear h
  go_enter Try.func7, Try.ntmps7
  go_wp2_with fail
  go_returns
  exact ⟨rfl, (Below.refl _ _).alloc (Nat.le_refl _) _⟩
theorem new7_yes (room : Int) (w : World) (h1 : ¬ room < 1) (h : ¬ 1024 < room) : Calls Try.prog 7 #[.int .i64 room] w fun e w' => e = .returned (.tuple #[.agg #[.int .i64 room, .slice none 0 0, .slice none 0 0], .int .i64 0]) ∧ Below w.heap.size w w' := by
  have d1 : decide (room < 1) = false := by simp; omega
  have d2 : decide (1024 < room) = false := by simp; omega
  clear h
  go_enter Try.func7, Try.ntmps7
  go_wp2_with fail
  go_returns
  exact ⟨rfl, (Below.refl _ _).alloc (Nat.le_refl _) _⟩

end Go.Proofs.Ytenmgjmbiamhcaa
