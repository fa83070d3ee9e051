/-
  For the statement TopOwners: owned: how many nodes are an owner's; stats: the counts.
-/
import Derived.Test.YtbihlmkjoplkoaaGreatDoorM27
/-
  owned: how many nodes are an owner's.
-/
namespace Go.Proofs.YtbihlmkjoplkoaaGreatDoor
open Go.RowKit
set_option linter.unusedVariables false

theorem wrap_add (a b : Int) : wrap64 (wrap64 a + wrap64 b) = wrap64 (a + b) := by unfold wrap64; omega
theorem wrap_addL (a b : Int) : wrap64 (wrap64 a + b) = wrap64 (a + b) := by unfold wrap64; omega
theorem wrap_addR (a b : Int) : wrap64 (a + wrap64 b) = wrap64 (a + b) := by unfold wrap64; omega

section
variable {B : Nat} {S : Store}

/-- what owned tells -/
def OwnedH (B : Nat) (S : Store) (ow : Int) (t : T) : Prop := ∀ w : World, Sto B w S → Rep S t → Calls Tryz.prog 15 #[.pointer (pt t.ptr), .int .u64 ow] w fun e w' => e = .returned (.int .i64 (wrap64 (t.cnt (fun x => x == ow)))) ∧ ∃ z, w' = w.drewN z

theorem owned_nil (ow : Int) (w : World) : Calls Tryz.prog 15 #[.pointer none, .int .u64 ow] w fun e w' => e = .returned (.int .i64 0) ∧ w' = w := by
  go_enter Tryz.func15, Tryz.ntmps15
  go_wp2_with fail
  go_ret
  exact ⟨rfl, rfl⟩

set_option maxHeartbeats 1600000 in
set_option maxRecDepth 100000 in
theorem owned_node (ow : Int) {w : World} (hs : Sto B w S) {id : Nat} {own : Int} {part : List Int} {val : Int} {has leaf : Bool} {kid : Nat → T} (hr : Rep S (.node id own part val has leaf kid)) (ih : ∀ b, OwnedH B S ow (kid b)) :
    Calls Tryz.prog 15 #[.pointer (some ⟨id, 0, none⟩), .int .u64 ow] w fun e w' => e = .returned (.int .i64 (wrap64 ((T.node id own part val has leaf kid).cnt (fun x => x == ow)))) ∧ ∃ z, w' = w.drewN z := by
  have HS := Lib.hid hs
  have HR := Lib.hid hr
  have HO := Lib.hid (owned_nil ow)
  have he := run_eql_pointer_nil (P := Tryz.prog) w 48 (some ⟨id, 0, none⟩) (by kernel_rfl)
  obtain ⟨f, hf⟩ : ∃ f : Nat → Nat, (fun b => (kid b).cnt (fun x => x == ow)) = f := ⟨_, rfl⟩
  have HI : Hid (∀ b : Nat, b < 256 → ∀ z, Calls Tryz.prog 38 #[.pointer (some ⟨id, 0, none⟩), .int .u8 b] (w.drewN z) fun e w' => ∃ kp, e = .returned (.pointer kp) ∧ (∃ y, w' = (w.drewN z).drewN y) ∧ ∀ y, Calls Tryz.prog 15 #[.pointer kp, .int .u64 ow] (w.drewN y) fun e w' => e = .returned (.int .i64 (wrap64 (f b))) ∧ ∃ x, w' = (w.drewN y).drewN x) := fun b hb z =>
    (kid38 (HS.out.drewN z) HR.out.1 b hb).mono fun e w' ⟨h1, h2⟩ => ⟨_, h1, h2, fun y => by
      have := ih b (w.drewN y) (HS.out.drewN y) (HR.out.2 b)
      rw [show (kid b).cnt (fun x => x == ow) = f b from congrFun hf b] at this
      exact this⟩
  have HC : Hid ((T.node id own part val has leaf kid).cnt (fun x => x == ow) = (if (own == ow) = true then 1 else 0) + sumTo f 256) := by show _ = _; rw [← hf]; simp only [T.cnt]
  have HW := Lib.hid (owner23 hs hr.1)
  clear hs hr ih hf
  generalize hm : (T.node id own part val has leaf kid).cnt (fun x => x == ow) = m at *
  clear hm
  obtain ⟨c0, hc0⟩ : ∃ c0 : Nat, c0 = (if (own == ow) = true then 1 else 0) := ⟨_, rfl⟩
  rw [← hc0] at HC
  cases hd : (own == ow) with
  | true =>
    have h1 : c0 = 1 := by rw [hc0, hd]; rfl
    have HC1 := Lib.hid h1
    clear hc0 h1
    go_enter Tryz.func15, Tryz.ntmps15
    go_wp2_with fail
    refine HW.out.mono ?_; rintro e w1 ⟨rfl, hw1⟩
    rw [hw1]; clear hw1 w1
    go_wp2_with fail
    go_loopw [5, 13] (fun x i wr => ∃ k : Nat, i = .int .i64 k ∧ k ≤ 256 ∧ (∃ y, x = .int .i64 y ∧ Hid (y = wrap64 ((c0 + sumTo f k : Nat) : Int))) ∧ ∃ z, wr = w.drewN z) (fun _ i _ => 256 - (intOf i).toNat)
    case atStart => exact ⟨0, rfl, by omega, ⟨_, rfl, by show _ = _; rw [HC1.out]; simp [sumTo, wrap64]⟩, 0, rfl⟩
    case round =>
      obtain ⟨k, rfl, hk, ⟨y, rfl, hy⟩, z, rfl⟩ := hrel
      by_cases hlt : k < 256
      · have q1 : IntKind.u8.wrap (k : Int) = k := by simp [IntKind.wrap, IntKind.bits, IntKind.signed]; omega
        have HL := Lib.hid hlt
        go_wp2_with fail
        refine (HI.out k HL.out z).mono ?_; rintro e w1 ⟨kp, rfl, ⟨y1, hw1⟩, h15⟩
        rw [hw1, World.drewN_drewN]; clear hw1 w1
        have H15 := Lib.hid (h15 (z + y1))
        clear h15
        go_wp2_with fail
        refine H15.out.mono ?_; rintro e w1 ⟨rfl, x1, hw1⟩
        rw [hw1, World.drewN_drewN]; clear hw1 w1
        go_wp2_with fail
        go_roundw
        case rel => exact ⟨k + 1, by go_num, HL.out, ⟨_, rfl, by show _ = _; rw [hy.out, wrap_addL, wrap_addR]; congr 1; simp only [sumTo]; push_cast; omega⟩, _, rfl⟩
        case measure => have := HL.out; simp [intOf]; omega
      · obtain rfl : k = 256 := by omega
        go_wp2_with fail
        go_ret
        exact ⟨by rw [hy.out, HC.out]; rfl, _, rfl⟩
  | false =>
    have h1 : c0 = 0 := by rw [hc0, hd]; rfl
    have HC1 := Lib.hid h1
    clear hc0 h1
    go_enter Tryz.func15, Tryz.ntmps15
    go_wp2_with fail
    refine HW.out.mono ?_; rintro e w1 ⟨rfl, hw1⟩
    rw [hw1]; clear hw1 w1
    go_wp2_with fail
    go_loopw [5, 13] (fun x i wr => ∃ k : Nat, i = .int .i64 k ∧ k ≤ 256 ∧ (∃ y, x = .int .i64 y ∧ Hid (y = wrap64 ((c0 + sumTo f k : Nat) : Int))) ∧ ∃ z, wr = w.drewN z) (fun _ i _ => 256 - (intOf i).toNat)
    case atStart => exact ⟨0, rfl, by omega, ⟨_, rfl, by show _ = _; rw [HC1.out]; simp [sumTo, wrap64]⟩, 0, rfl⟩
    case round =>
      obtain ⟨k, rfl, hk, ⟨y, rfl, hy⟩, z, rfl⟩ := hrel
      by_cases hlt : k < 256
      · have q1 : IntKind.u8.wrap (k : Int) = k := by simp [IntKind.wrap, IntKind.bits, IntKind.signed]; omega
        have HL := Lib.hid hlt
        go_wp2_with fail
        refine (HI.out k HL.out z).mono ?_; rintro e w1 ⟨kp, rfl, ⟨y1, hw1⟩, h15⟩
        rw [hw1, World.drewN_drewN]; clear hw1 w1
        have H15 := Lib.hid (h15 (z + y1))
        clear h15
        go_wp2_with fail
        refine H15.out.mono ?_; rintro e w1 ⟨rfl, x1, hw1⟩
        rw [hw1, World.drewN_drewN]; clear hw1 w1
        go_wp2_with fail
        go_roundw
        case rel => exact ⟨k + 1, by go_num, HL.out, ⟨_, rfl, by show _ = _; rw [hy.out, wrap_addL, wrap_addR]; congr 1; simp only [sumTo]; push_cast; omega⟩, _, rfl⟩
        case measure => have := HL.out; simp [intOf]; omega
      · obtain rfl : k = 256 := by omega
        go_wp2_with fail
        go_ret
        exact ⟨by rw [hy.out, HC.out]; rfl, _, rfl⟩

theorem owned15 (ow : Int) : ∀ t : T, OwnedH B S ow t := by
  intro t
  induction t with
  | nil =>
    intro w hs hr
    refine (owned_nil ow w).mono ?_
    rintro e w' ⟨rfl, rfl⟩
    exact ⟨by simp [T.cnt, wrap64], 0, rfl⟩
  | node id own part val has leaf kid ih => exact fun w hs hr => owned_node ow hs hr ih
end
end Go.Proofs.YtbihlmkjoplkoaaGreatDoor
/-
  stats: the counts.
-/
namespace Go.Proofs.YtbihlmkjoplkoaaGreatDoor
open Go.RowKit
set_option linter.unusedVariables false

theorem Sto.excOne {B : Nat} {w w' : World} {S : Store} {g : Nat} {cs : Array Value} {t : TypeId} {z : Nat × Nat} (h : Sto B w S) (hg : w.heap[g]? = some (.cells cs t z)) (h1 : ¬ stT t) (h5 : t ≠ 5) (hB : B ≤ g) (k : Exc [g] w w') : Sto B w' S := by
  obtain ⟨FQ, hs⟩ := h
  refine ⟨FQ, hs.keep (fun j hj => k.block j hj.lt ?_) (fun p n c xs hk => ?_)⟩
  · simp only [List.mem_singleton]
    intro e; subst e; exact not_isSt hg h1 hj
  · have key : 0 < n → ∀ r, p = some r → w'.heap[r.block]? = w.heap[r.block]? := fun h0 r hr => by
      obtain ⟨g1, g2⟩ := hk.arr h0 r hr
      refine k.block _ g1 ?_
      simp only [List.mem_singleton]
      intro e
      rcases g2 with g2 | ⟨cs', z', g2⟩
      · omega
      · rw [e, hg] at g2; cases g2; exact h5 rfl
    refine ⟨hk.bs.heapSame key, fun h0 r hr => ?_⟩
    obtain ⟨g1, g2⟩ := hk.arr h0 r hr
    refine ⟨Nat.lt_of_lt_of_le g1 k.size, ?_⟩
    rw [key h0 r hr]; exact g2

/-- the counts in block g: leaves and inner nodes together s -/
structure Cn (w : World) (g : Nat) (s : Int) : Prop where
  heap : ∃ a0 a1 i0 i1 i2 i3 a3 a4 a5 a6 a7 : Int, w.heap[g]? = some (.cells #[.int .i64 a0, .int .i64 a1, .int .i64 i0, .int .i64 i1, .int .i64 i2, .int .i64 i3, .int .i64 a3, .int .i64 a4, .int .i64 a5, .int .i64 a6, .int .i64 a7] 54 (0, 0)) ∧
    wrap64 (a1 + i0 + i1 + i2 + i3) = s

section
variable {w : World} {g : Nat} {s : Int}
theorem Cn.get (h : Cn w g s) (j : Nat) (hj : j < 11) : ∃ x, w.cell? ⟨g, j, none⟩ = some (.int .i64 x) := by
  obtain ⟨a0, a1, i0, i1, i2, i3, a3, a4, a5, a6, a7, h, _⟩ := h.heap
  rw [cell_of_row _ _ _ _ _ _ h]
  match j, hj with
  | 0, _ => exact ⟨_, rfl⟩
  | 1, _ => exact ⟨_, rfl⟩
  | 2, _ => exact ⟨_, rfl⟩
  | 3, _ => exact ⟨_, rfl⟩
  | 4, _ => exact ⟨_, rfl⟩
  | 5, _ => exact ⟨_, rfl⟩
  | 6, _ => exact ⟨_, rfl⟩
  | 7, _ => exact ⟨_, rfl⟩
  | 8, _ => exact ⟨_, rfl⟩
  | 9, _ => exact ⟨_, rfl⟩
  | 10, _ => exact ⟨_, rfl⟩
theorem Cn.free (h : Cn w g s) (j : Nat) : w.frozen? ⟨g, j, none⟩ = false := by
  obtain ⟨a0, a1, i0, i1, i2, i3, a3, a4, a5, a6, a7, h, _⟩ := h.heap
  exact frozen_of_row _ _ _ _ _ h
theorem Cn.set (h : Cn w g s) (j : Nat) (hj : j = 0 ∨ (6 ≤ j ∧ j < 11)) (x : Int) : Cn (w.setCell ⟨g, j, none⟩ (.int .i64 x)) g s := by
  obtain ⟨a0, a1, i0, i1, i2, i3, a3, a4, a5, a6, a7, h, e⟩ := h.heap
  have hh := heap_setCell_same w g j _ 54 (.int .i64 x) h
  rcases hj with rfl | ⟨h6, h11⟩
  · exact ⟨_, _, _, _, _, _, _, _, _, _, _, hh, e⟩
  · match j, h6, h11 with
    | 6, _, _ => exact ⟨_, _, _, _, _, _, _, _, _, _, _, hh, e⟩
    | 7, _, _ => exact ⟨_, _, _, _, _, _, _, _, _, _, _, hh, e⟩
    | 8, _, _ => exact ⟨_, _, _, _, _, _, _, _, _, _, _, hh, e⟩
    | 9, _, _ => exact ⟨_, _, _, _, _, _, _, _, _, _, _, hh, e⟩
    | 10, _, _ => exact ⟨_, _, _, _, _, _, _, _, _, _, _, hh, e⟩
theorem Cn.bump (h : Cn w g s) (j : Nat) (hj : 1 ≤ j ∧ j < 6) {x : Int} (hx : w.cell? ⟨g, j, none⟩ = some (.int .i64 x)) : Cn (w.setCell ⟨g, j, none⟩ (.int .i64 (wrap64 (x + 1)))) g (wrap64 (s + 1)) := by
  obtain ⟨a0, a1, i0, i1, i2, i3, a3, a4, a5, a6, a7, h, e⟩ := h.heap
  have hh := heap_setCell_same w g j _ 54 (.int .i64 (wrap64 (x + 1))) h
  rw [cell_of_row _ _ _ _ _ _ h] at hx
  subst e
  match j, hj with
  | 1, _ => cases hx; exact ⟨_, _, _, _, _, _, _, _, _, _, _, hh, by unfold wrap64; omega⟩
  | 2, _ => cases hx; exact ⟨_, _, _, _, _, _, _, _, _, _, _, hh, by unfold wrap64; omega⟩
  | 3, _ => cases hx; exact ⟨_, _, _, _, _, _, _, _, _, _, _, hh, by unfold wrap64; omega⟩
  | 4, _ => cases hx; exact ⟨_, _, _, _, _, _, _, _, _, _, _, hh, by unfold wrap64; omega⟩
  | 5, _ => cases hx; exact ⟨_, _, _, _, _, _, _, _, _, _, _, hh, by unfold wrap64; omega⟩
theorem Cn.step {w' : World} (h : Cn w g s) (k : Below w.heap.size w w') : Cn w' g s := by
  obtain ⟨a0, a1, i0, i1, i2, i3, a3, a4, a5, a6, a7, h, e⟩ := h.heap
  exact ⟨_, _, _, _, _, _, _, _, _, _, _, (k.block g (heap_lt h)).trans h, e⟩
theorem Cn.sto {B : Nat} {S : Store} {w' : World} (h : Cn w g s) (hs : Sto B w S) (hB : B ≤ g) (k : Exc [g] w w') : Sto B w' S := by
  obtain ⟨a0, a1, i0, i1, i2, i3, a3, a4, a5, a6, a7, h, e⟩ := h.heap
  exact hs.excOne h (by simp [stT]) (by decide) hB k

theorem idx170 (w : World) (k : Nat) (v : Int) (h : k = 0 ∧ v = 4 ∨ k = 1 ∧ v = 16 ∨ k = 2 ∧ v = 48) :
    (Instr.index 170 (.agg #[.int .i64 4, .int .i64 16, .int .i64 48]) (.int .i64 (k : Int))).run Tryz.prog w = .ok (.int .i64 v) w := by
  rcases h with ⟨rfl, rfl⟩ | ⟨rfl, rfl⟩ | ⟨rfl, rfl⟩ <;> kernel_rfl

def placeOf (n : Int) : Nat := if n = 4 then 0 else if n = 16 then 1 else if n = 48 then 2 else 3
theorem placeOf_lt (n : Int) : placeOf n < 4 := by unfold placeOf; repeat' split
                                                   all_goals omega
def kindV (k : Nat) : Int := if k = 0 then 4 else if k = 1 then 16 else 48
theorem placeOf_at {n : Int} {k : Nat} (h : k < 3) (e : n = kindV k) : placeOf n = k := by
  subst e
  match k, h with
  | 0, _ => rfl
  | 1, _ => rfl
  | 2, _ => rfl

set_option maxHeartbeats 800000 in
theorem place65 (w : World) (n : Int) : Calls Tryz.prog 65 #[.int .i64 n] w fun e w' => e = .returned (.int .i64 (placeOf n)) ∧ w' = w := by
  go_enter Tryz.func65, Tryz.ntmps65
  go_wp2_with fail
  go_loop [6] (fun t => ∃ k : Nat, t = .int .i64 k ∧ k ≤ 3 ∧ Hid (∀ j, j < k → n ≠ kindV j)) (fun t => 4 - (intOf t).toNat)
  case atStart => exact ⟨0, rfl, by omega, fun j hj => by omega⟩
  case round =>
    obtain ⟨k, rfl, hk, hno⟩ := hrel
    by_cases h3 : k < 3
    · have d1 : decide ((k : Int) < 3) = true := by simp; omega
      have g0 : ∀ w : World, (Instr.index 170 (.agg #[.int .i64 4, .int .i64 16, .int .i64 48]) (.int .i64 (k : Int))).run Tryz.prog w = .ok (.int .i64 (kindV k)) w := by
        match k, h3 with
        | 0, _ => exact fun w => idx170 w 0 4 (by omega)
        | 1, _ => exact fun w => idx170 w 1 16 (by omega)
        | 2, _ => exact fun w => idx170 w 2 48 (by omega)
      have H3 := Lib.hid h3
      have q0 : IntKind.i64.wrap ((k : Int) + 1) = (k : Int) + 1 := IntWalk.i64_in _ (by omega)
      clear h3 hk
      cases d2 : (n == kindV k) with
      | true =>
        have h3' := H3.out
        have HP : Hid (placeOf n = k) := by
          have e : n = kindV k := by simpa using d2
          exact placeOf_at h3' e
        clear h3'
        go_wp2_with fail
        go_ret
        exact ⟨ret_int (by rw [HP.out]), rfl⟩
      | false =>
        have HD := Lib.hid d2
        go_wp2_with fail
        go_round
        case rel => exact ⟨k + 1, by go_num, H3.out, fun j hj => by
          by_cases e : j = k
          · subst e; have := HD.out; simpa using this
          · exact hno.out j (by omega)⟩
        case measure => have := H3.out; simp [intOf]; omega
    · have d1 : decide ((k : Int) < 3) = false := by simp; omega
      have HP : Hid (placeOf n = 3) := by
        show placeOf n = 3
        have h0 := hno.out 0 (by omega)
        have h1 := hno.out 1 (by omega)
        have h2 := hno.out 2 (by omega)
        have e0 : kindV 0 = 4 := rfl
        have e1 : kindV 1 = 16 := rfl
        have e2 : kindV 2 = 48 := rfl
        unfold placeOf
        rw [if_neg (by rw [← e0]; exact h0), if_neg (by rw [← e1]; exact h1), if_neg (by rw [← e2]; exact h2)]
      go_wp2_with fail
      go_ret
      exact ⟨ret_int (by rw [HP.out]; rfl), rfl⟩
end
end Go.Proofs.YtbihlmkjoplkoaaGreatDoor
