/-
  For the statement TopOwners: Kids: a row or a board of nodes; what is read of them; Kids: which kind; new ones; what is put where there is room.
-/
import Derived.Test.YtbihlmkjoplkoaaGreatDoorM11
/-
  Kids: a row or a board of nodes; what is read of them.
-/
namespace Go.Proofs.YtbihlmkjoplkoaaGreatDoor
open Go.RowKit
set_option linter.unusedVariables false

set_option maxHeartbeats 400000 in
theorem copy15_nil (w : World) : Calls Tryz.prog 166 #[.pointer none] w fun e w' => e = .returned (.pointer none) ∧ w' = w := by
  have H := Lib.hid (ok52_nil w)
  have hnot : ∀ (x : Bool) (w : World), (Op.unary .not (.bool x)).run Tryz.prog w = .ok (.bool (!x)) w := fun _ _ => rfl
  go_enter Tryz.func166, Tryz.ntmps166
  go_wp2_with fail
  refine H.out.mono ?_; rintro e w' ⟨rfl, rfl⟩
  go_wp2_with fail
  go_returns
  exact ⟨rfl, rfl⟩

def kindOf (n : Nat) : Nat := if n ≤ 4 then 4 else if n ≤ 16 then 16 else if n ≤ 48 then 48 else if n ≤ 256 then 256 else 0

/-- a row, or a board, that holds what f says -/
def Hold (w : World) (r : Bool) (g room : Nat) (f : Nat → Option Th) (fp : List Nat) : Prop :=
  match r with
  | true => SmE w g room f ∧ fp = [g] ∧ (room = 4 ∨ room = 16)
  | false => (∃ U, BdE w 0 g room f U fp) ∧ (room = 48 ∨ room = 256)

/-- the two cells of kids -/
def kidCells (r : Bool) (g : Nat) : Array Value :=
  match r with
  | true => #[.pointer (some ⟨g, 0, none⟩), .pointer none]
  | false => #[.pointer none, .pointer (some ⟨g, 0, none⟩)]

/-- kids in block k, of some room, that hold what f says; their blocks -/
structure KdR (w : World) (k room : Nat) (f : Nat → Option Th) (fp : List Nat) (r : Bool) (g : Nat) (fq : List Nat) : Prop where
  heap : w.heap[k]? = some (.cells (kidCells r g) 165 (0, 0))
  hold : Hold w r g room f fq
  apart : k ∉ fq
  fps : fp = k :: fq
  far : ∀ b, 256 ≤ b → f b = none
  fits : cntF f ≤ room

def KdQ (w : World) (k room : Nat) (f : Nat → Option Th) (fp : List Nat) : Prop := ∃ r g fq, KdR w k room f fp r g fq
/-- kids as the program leaves them -/
def KdE (w : World) (k : Nat) (f : Nat → Option Th) (fp : List Nat) : Prop := KdQ w k (kindOf (cntF f)) f fp

theorem Hold.same {w w' : World} {r : Bool} {g room : Nat} {f : Nat → Option Th} {fp : List Nat} (h : Hold w r g room f fp) (e : ∀ k ∈ fp, w'.heap[k]? = w.heap[k]?) : Hold w' r g room f fp := by
  cases r with
  | true =>
    obtain ⟨h1, rfl, h2⟩ := h
    exact ⟨h1.same (e g (by simp)), rfl, h2⟩
  | false =>
    obtain ⟨⟨U, A, X, F, px, cx, pf, cf, h, hf, e1, rfl⟩, h2⟩ := h
    refine ⟨⟨U, A, X, F, px, cx, pf, cf, ⟨h.blk.same (e g (fp_g _ _ _)), own_block h.ownX (fun b hb => e b ?_), own_block h.ownF (fun b hb => e b ?_), h.plc, h.base, h.apX, h.apF, h.apart, h.rooms⟩, hf, e1, rfl⟩, h2⟩
    · cases px with
      | none => cases hb
      | some a =>
        have e : a.block = b := by simpa [Value.ownBlock] using hb
        rw [← e]; exact fp_x _ _ _
    · cases pf with
      | none => cases hb
      | some a =>
        have e : a.block = b := by simpa [Value.ownBlock] using hb
        rw [← e]; exact fp_f _ _ _
theorem Hold.fp_lt {w : World} {r : Bool} {g room : Nat} {f : Nat → Option Th} {fp : List Nat} (h : Hold w r g room f fp) : ∀ k ∈ fp, k < w.heap.size := by
  cases r with
  | true =>
    obtain ⟨h1, rfl, h2⟩ := h
    intro k hk
    simp at hk; subst hk; exact h1.lt
  | false =>
    obtain ⟨⟨U, h⟩, h2⟩ := h
    exact fun k hk => (h.fp_lt k hk).2
theorem KdR.fp_lt {w : World} {k room : Nat} {f : Nat → Option Th} {fp : List Nat} {r : Bool} {g : Nat} {fq : List Nat} (h : KdR w k room f fp r g fq) : ∀ j ∈ fp, j < w.heap.size := by
  intro j hj
  rw [h.fps] at hj
  rcases List.mem_cons.1 hj with rfl | hj
  · exact block_lt_of_cell (a := ⟨j, 0, none⟩) (v := (kidCells r g)[0]!) (by rw [cell_of_row _ _ _ _ _ _ h.heap]; cases r <;> rfl)
  · exact h.hold.fp_lt j hj
theorem KdQ.fp_lt {w : World} {k room : Nat} {f : Nat → Option Th} {fp : List Nat} (h : KdQ w k room f fp) : ∀ j ∈ fp, j < w.heap.size := let ⟨_, _, _, h⟩ := h; h.fp_lt
theorem KdQ.mem {w : World} {k room : Nat} {f : Nat → Option Th} {fp : List Nat} (h : KdQ w k room f fp) : k ∈ fp := let ⟨_, _, _, h⟩ := h; by rw [h.fps]; simp
theorem KdR.same {w w' : World} {k room : Nat} {f : Nat → Option Th} {fp : List Nat} {r : Bool} {g : Nat} {fq : List Nat} (h : KdR w k room f fp r g fq) (e : ∀ j ∈ fp, w'.heap[j]? = w.heap[j]?) : KdR w' k room f fp r g fq :=
  ⟨(e k (by rw [h.fps]; simp)).trans h.heap, h.hold.same (fun j hj => e j (by rw [h.fps]; exact List.mem_cons_of_mem _ hj)), h.apart, h.fps, h.far, h.fits⟩
theorem KdQ.same {w w' : World} {k room : Nat} {f : Nat → Option Th} {fp : List Nat} (h : KdQ w k room f fp) (e : ∀ j ∈ fp, w'.heap[j]? = w.heap[j]?) : KdQ w' k room f fp :=
  let ⟨r, g, fq, h⟩ := h; ⟨r, g, fq, h.same e⟩
theorem KdQ.step {w w' : World} {k room : Nat} {f : Nat → Option Th} {fp : List Nat} (h : KdQ w k room f fp) (b : Below w.heap.size w w') : KdQ w' k room f fp :=
  h.same fun j hj => b.block j (h.fp_lt j hj)
theorem KdQ.far {w : World} {k room : Nat} {f : Nat → Option Th} {fp : List Nat} (h : KdQ w k room f fp) : ∀ b, 256 ≤ b → f b = none := let ⟨_, _, _, h⟩ := h; h.far

section
variable {w : World} {k room : Nat} {f : Nat → Option Th} {fp : List Nat} {g : Nat} {fq : List Nat}
theorem KdR.row0 (h : KdR w k room f fp true g fq) : w.cell? ⟨k, 0, none⟩ = some (.pointer (some ⟨g, 0, none⟩)) := by rw [cell_of_row _ _ _ _ _ _ h.heap]; rfl
theorem KdR.row1 (h : KdR w k room f fp true g fq) : w.cell? ⟨k, 1, none⟩ = some (.pointer none) := by rw [cell_of_row _ _ _ _ _ _ h.heap]; rfl
theorem KdR.brd0 (h : KdR w k room f fp false g fq) : w.cell? ⟨k, 0, none⟩ = some (.pointer none) := by rw [cell_of_row _ _ _ _ _ _ h.heap]; rfl
theorem KdR.brd1 (h : KdR w k room f fp false g fq) : w.cell? ⟨k, 1, none⟩ = some (.pointer (some ⟨g, 0, none⟩)) := by rw [cell_of_row _ _ _ _ _ _ h.heap]; rfl
theorem KdR.free {r : Bool} (h : KdR w k room f fp r g fq) (j : Nat) : w.frozen? ⟨k, j, none⟩ = false := frozen_of_row _ _ _ _ _ h.heap
end

set_option maxHeartbeats 400000 in
theorem ok87 {w : World} {k room : Nat} {f : Nat → Option Th} {fp : List Nat} (h : KdQ w k room f fp) : Calls Tryz.prog 87 #[.pointer (some ⟨k, 0, none⟩)] w fun e w' => e = .returned (.bool true) ∧ w' = w := by
  obtain ⟨r, g, fq, h⟩ := h
  cases r with
  | true =>
    have c0 := h.row0
    clear h
    go_enter Tryz.func87, Tryz.ntmps87
    go_wp2_with fail
    go_ret
    exact ⟨rfl, rfl⟩
  | false =>
    have c0 := h.brd0
    have c1 := h.brd1
    clear h
    go_enter Tryz.func87, Tryz.ntmps87
    go_wp2_with fail
    go_ret
    exact ⟨rfl, rfl⟩
theorem ok87_nil (w : World) : Calls Tryz.prog 87 #[.pointer none] w fun e w' => e = .returned (.bool false) ∧ w' = w := by
  go_enter Tryz.func87, Tryz.ntmps87
  go_wp2_with fail
  go_ret
  exact ⟨rfl, rfl⟩

set_option maxHeartbeats 400000 in
theorem len132 {w : World} {k room : Nat} {f : Nat → Option Th} {fp : List Nat} (h : KdQ w k room f fp) : Calls Tryz.prog 132 #[.pointer (some ⟨k, 0, none⟩)] w fun e w' => e = .returned (.int .i64 (cntF f)) ∧ w' = w := by
  have HK := Lib.hid (ok87 h)
  obtain ⟨r, g, fq, h⟩ := h
  have hnot : ∀ (x : Bool) (w : World), (Op.unary .not (.bool x)).run Tryz.prog w = .ok (.bool (!x)) w := fun _ _ => rfl
  cases r with
  | true =>
    have c0 := h.row0
    have HL := Lib.hid (lenS h.hold.1)
    clear h
    go_enter Tryz.func132, Tryz.ntmps132
    go_wp2_with fail
    refine HK.out.mono ?_; rintro e w' ⟨rfl, rfl⟩
    go_wp2_with fail
    refine HL.out.mono ?_; rintro e w' ⟨rfl, rfl⟩
    go_wp2_with fail
    go_ret
    exact ⟨rfl, rfl⟩
  | false =>
    have c0 := h.brd0
    have c1 := h.brd1
    have HL := Lib.hid (h.hold.1.elim fun U hb => lenE hb)
    clear h
    go_enter Tryz.func132, Tryz.ntmps132
    go_wp2_with fail
    refine HK.out.mono ?_; rintro e w' ⟨rfl, rfl⟩
    go_wp2_with fail
    refine HL.out.mono ?_; rintro e w' ⟨rfl, rfl⟩
    go_wp2_with fail
    go_ret
    exact ⟨rfl, rfl⟩
theorem len132_nil (w : World) : Calls Tryz.prog 132 #[.pointer none] w fun e w' => e = .returned (.int .i64 0) ∧ w' = w := by
  have HK := Lib.hid (ok87_nil w)
  have hnot : ∀ (x : Bool) (w : World), (Op.unary .not (.bool x)).run Tryz.prog w = .ok (.bool (!x)) w := fun _ _ => rfl
  go_enter Tryz.func132, Tryz.ntmps132
  go_wp2_with fail
  refine HK.out.mono ?_; rintro e w' ⟨rfl, rfl⟩
  go_wp2_with fail
  go_ret
  exact ⟨rfl, rfl⟩

set_option maxHeartbeats 400000 in
theorem kind94 {w : World} {k room : Nat} {f : Nat → Option Th} {fp : List Nat} (h : KdQ w k room f fp) : Calls Tryz.prog 94 #[.pointer (some ⟨k, 0, none⟩)] w fun e w' => e = .returned (.int .i64 room) ∧ w' = w := by
  have HK := Lib.hid (ok87 h)
  obtain ⟨r, g, fq, h⟩ := h
  have hnot : ∀ (x : Bool) (w : World), (Op.unary .not (.bool x)).run Tryz.prog w = .ok (.bool (!x)) w := fun _ _ => rfl
  cases r with
  | true =>
    have c0 := h.row0
    have HL := Lib.hid (roomS h.hold.1)
    clear h
    go_enter Tryz.func94, Tryz.ntmps94
    go_wp2_with fail
    refine HK.out.mono ?_; rintro e w' ⟨rfl, rfl⟩
    go_wp2_with fail
    refine HL.out.mono ?_; rintro e w' ⟨rfl, rfl⟩
    go_wp2_with fail
    go_ret
    exact ⟨rfl, rfl⟩
  | false =>
    have c0 := h.brd0
    have c1 := h.brd1
    have HL := Lib.hid (h.hold.1.elim fun U hb => roomE hb)
    clear h
    go_enter Tryz.func94, Tryz.ntmps94
    go_wp2_with fail
    refine HK.out.mono ?_; rintro e w' ⟨rfl, rfl⟩
    go_wp2_with fail
    refine HL.out.mono ?_; rintro e w' ⟨rfl, rfl⟩
    go_wp2_with fail
    go_ret
    exact ⟨rfl, rfl⟩

set_option maxHeartbeats 400000 in
theorem get57 {w : World} {k room : Nat} {f : Nat → Option Th} {fp : List Nat} (h : KdQ w k room f fp) (b : Nat) (hb : b < 256) :
    Calls Tryz.prog 57 #[.pointer (some ⟨k, 0, none⟩), .int .u8 b] w fun e w' => e = .returned (.tuple #[.pointer (valO (f b)), .bool (f b).isSome]) ∧ ∃ z, w' = w.drewN z := by
  have HK := Lib.hid (ok87 h)
  obtain ⟨r, g, fq, h⟩ := h
  have hnot : ∀ (x : Bool) (w : World), (Op.unary .not (.bool x)).run Tryz.prog w = .ok (.bool (!x)) w := fun _ _ => rfl
  cases r with
  | true =>
    have c0 := h.row0
    have HL := Lib.hid (getS h.hold.1 b hb)
    clear h
    go_enter Tryz.func57, Tryz.ntmps57
    go_wp2_with fail
    refine HK.out.mono ?_; rintro e w' ⟨rfl, rfl⟩
    go_wp2_with fail
    refine HL.out.mono ?_; rintro e w2 ⟨rfl, z, hw2⟩
    rw [hw2]; clear hw2 w2
    go_wp2_with fail
    go_ret2
    exact ⟨rfl, z, rfl⟩
  | false =>
    have c0 := h.brd0
    have c1 := h.brd1
    have HL := Lib.hid (h.hold.1.elim fun U hbd => getE hbd b hb)
    clear h
    go_enter Tryz.func57, Tryz.ntmps57
    go_wp2_with fail
    refine HK.out.mono ?_; rintro e w' ⟨rfl, rfl⟩
    go_wp2_with fail
    refine HL.out.mono ?_; rintro e w2 ⟨rfl, z, hw2⟩
    rw [hw2]; clear hw2 w2
    go_wp2_with fail
    go_ret2
    exact ⟨rfl, z, rfl⟩
theorem get57_nil (b : Int) (w : World) : Calls Tryz.prog 57 #[.pointer none, .int .u8 b] w fun e w' => e = .returned (.tuple #[.pointer none, .bool false]) ∧ w' = w := by
  have HK := Lib.hid (ok87_nil w)
  have hnot : ∀ (x : Bool) (w : World), (Op.unary .not (.bool x)).run Tryz.prog w = .ok (.bool (!x)) w := fun _ _ => rfl
  go_enter Tryz.func57, Tryz.ntmps57
  go_wp2_with fail
  refine HK.out.mono ?_; rintro e w' ⟨rfl, rfl⟩
  go_wp2_with fail
  go_ret2
  exact ⟨rfl, rfl⟩

set_option maxHeartbeats 400000 in
theorem next90 {w : World} {k room : Nat} {f : Nat → Option Th} {fp : List Nat} (h : KdQ w k room f fp) (from' : Int) :
    Calls Tryz.prog 90 #[.pointer (some ⟨k, 0, none⟩), .int .i64 from'] w fun e w' => ∃ r, NextR f (max from' 0) r ∧ e = .returned (tri r) ∧ ∃ z, w' = w.drewN z := by
  have HK := Lib.hid (ok87 h)
  obtain ⟨r, g, fq, h⟩ := h
  have hnot : ∀ (x : Bool) (w : World), (Op.unary .not (.bool x)).run Tryz.prog w = .ok (.bool (!x)) w := fun _ _ => rfl
  cases r with
  | true =>
    have c0 := h.row0
    have HL := Lib.hid (nextS h.hold.1 from')
    clear h
    go_enter Tryz.func90, Tryz.ntmps90
    go_wp2_with fail
    refine HK.out.mono ?_; rintro e w' ⟨rfl, rfl⟩
    go_wp2_with fail
    refine HL.out.mono ?_; rintro e w2 ⟨⟨rb, rx, rk⟩, hr, rfl, z, hw2⟩
    rw [hw2]; clear hw2 w2
    have HR := Lib.hid hr
    clear hr
    simp only [tri]
    go_wp2_with fail
    go_ret3
    exact ⟨⟨rb, rx, rk⟩, HR.out, rfl, z, rfl⟩
  | false =>
    have c0 := h.brd0
    have c1 := h.brd1
    have HL := Lib.hid (h.hold.1.elim fun U hbd => nextE hbd from')
    clear h
    go_enter Tryz.func90, Tryz.ntmps90
    go_wp2_with fail
    refine HK.out.mono ?_; rintro e w' ⟨rfl, rfl⟩
    go_wp2_with fail
    refine HL.out.mono ?_; rintro e w2 ⟨⟨rb, rx, rk⟩, hr, rfl, z, hw2⟩
    rw [hw2]; clear hw2 w2
    have HR := Lib.hid hr
    clear hr
    simp only [tri]
    go_wp2_with fail
    go_ret3
    exact ⟨⟨rb, rx, rk⟩, HR.out, rfl, z, rfl⟩
theorem next90_nil (from' : Int) (w : World) : Calls Tryz.prog 90 #[.pointer none, .int .i64 from'] w fun e w' => e = .returned (tri ⟨0, none, false⟩) ∧ w' = w := by
  have HK := Lib.hid (ok87_nil w)
  have hnot : ∀ (x : Bool) (w : World), (Op.unary .not (.bool x)).run Tryz.prog w = .ok (.bool (!x)) w := fun _ _ => rfl
  go_enter Tryz.func90, Tryz.ntmps90
  go_wp2_with fail
  refine HK.out.mono ?_; rintro e w' ⟨rfl, rfl⟩
  go_wp2_with fail
  go_ret3
  exact ⟨rfl, rfl⟩

end Go.Proofs.YtbihlmkjoplkoaaGreatDoor
/-
  Kids: which kind; new ones; what is put where there is room.
-/
namespace Go.Proofs.YtbihlmkjoplkoaaGreatDoor
open Go.RowKit
set_option linter.unusedVariables false

theorem idx134 (w : World) (k : Nat) (v : Int) (h : k = 0 ∧ v = 4 ∨ k = 1 ∧ v = 16 ∨ k = 2 ∧ v = 48 ∨ k = 3 ∧ v = 256) :
    (Instr.index 52 (.agg #[.int .i64 4, .int .i64 16, .int .i64 48, .int .i64 256]) (.int .i64 (k : Int))).run Tryz.prog w = .ok (.int .i64 v) w := by
  rcases h with ⟨rfl, rfl⟩ | ⟨rfl, rfl⟩ | ⟨rfl, rfl⟩ | ⟨rfl, rfl⟩ <;> kernel_rfl

def kindAt (k : Nat) : Nat := if k = 0 then 4 else if k = 1 then 16 else if k = 2 then 48 else 256
theorem kindAt_4 (k : Nat) (hk : k < 4) : k = 0 ∧ kindAt k = 4 ∨ k = 1 ∧ kindAt k = 16 ∨ k = 2 ∧ kindAt k = 48 ∨ k = 3 ∧ kindAt k = 256 := by
  match k, hk with
  | 0, _ => exact Or.inl ⟨rfl, rfl⟩
  | 1, _ => exact Or.inr (Or.inl ⟨rfl, rfl⟩)
  | 2, _ => exact Or.inr (Or.inr (Or.inl ⟨rfl, rfl⟩))
  | 3, _ => exact Or.inr (Or.inr (Or.inr ⟨rfl, rfl⟩))
theorem kindAt_lt {n k : Nat} (h : ¬ n ≤ kindAt k) (hk : k < 4) (hn : n ≤ 256) : k + 1 < 4 := by
  have := kindAt_4 k hk
  omega
theorem kindOf_at {n k : Nat} (hk : k < 4) (hn : n ≤ 256) (h : n ≤ kindAt k) (hb : ∀ j, j < k → ¬ n ≤ kindAt j) : kindOf n = kindAt k := by
  have h4 := kindAt_4 k hk
  have b0 := hb 0
  have b1 := hb 1
  have b2 := hb 2
  have e0 : kindAt 0 = 4 := rfl
  have e1 : kindAt 1 = 16 := rfl
  have e2 : kindAt 2 = 48 := rfl
  unfold kindOf
  repeat' split
  all_goals omega

set_option maxHeartbeats 800000 in
theorem kindOf134 (n : Nat) (hn : n ≤ 256) (w : World) : Calls Tryz.prog 134 #[.int .i64 n] w fun e w' => e = .returned (.int .i64 (kindOf n)) ∧ w' = w := by
  have d0 : decide ((n : Int) < 0) = false := by simp
  go_enter Tryz.func134, Tryz.ntmps134
  go_wp2_with fail
  go_loop [8] (fun t => ∃ k : Nat, t = .int .i64 k ∧ k < 4 ∧ Hid (∀ j, j < k → ¬ n ≤ kindAt j)) (fun t => 4 - (intOf t).toNat)
  case atStart => exact ⟨0, rfl, by omega, fun j hj => by omega⟩
  case round =>
    obtain ⟨k, rfl, hk, hno⟩ := hrel
    have d1 : decide ((k : Int) < 4) = true := by simp; omega
    have hix := idx134
    have g0 : ∀ w : World, (Instr.index 52 (.agg #[.int .i64 4, .int .i64 16, .int .i64 48, .int .i64 256]) (.int .i64 (k : Int))).run Tryz.prog w = .ok (.int .i64 (kindAt k)) w := fun w => by
      have := kindAt_4 k hk
      exact idx134 w k _ (by omega)
    clear hix
    by_cases hle : n ≤ kindAt k
    · have d2 : decide (n ≤ kindAt k) = true := by simp; omega
      have HE := Lib.hid (kindOf_at hk hn hle hno.out)
      clear hle
      go_wp2_with fail
      go_ret
      exact ⟨ret_int (by rw [HE.out]), rfl⟩
    · have d2 : decide (n ≤ kindAt k) = false := by simp; omega
      have h4 := kindAt_lt hle hk hn
      have HE := Lib.hid hle
      clear hle
      have q0 : IntKind.i64.wrap ((k : Int) + 1) = (k : Int) + 1 := IntWalk.i64_in _ (by omega)
      go_wp2_with fail
      go_round
      case rel => exact ⟨k + 1, by go_num, h4, fun j hj => by
        by_cases e : j = k
        · rw [e]; exact HE.out
        · exact hno.out j (by omega)⟩
      case measure => simp [intOf]; omega

theorem SmE.cnt_le {w : World} {g room : Nat} {f : Nat → Option Th} (h : SmE w g room f) : cntF f ≤ room := by
  obtain ⟨n, B, X, h1, h2⟩ := h
  rw [← h2.cnt]; exact h2.le

theorem built165 : Tryz.prog.built 165 [] = some #[.pointer none, .pointer none] := by kernel_rfl

/-- kids of nothing, of a kind -/
def NewKids (w w' : World) (room : Nat) (e : Ending) : Prop := ∃ fp, e = .returned (.pointer (some ⟨w.heap.size, 0, none⟩)) ∧ KdQ w' w.heap.size room (fun _ => none) fp ∧ (∀ j ∈ fp, w.heap.size ≤ j) ∧ Below w.heap.size w w'

set_option maxHeartbeats 800000 in
theorem room131_row (room : Nat) (w : World) (h : room = 4 ∨ room = 16) : Calls Tryz.prog 131 #[.int .i64 room] w fun e w' => NewKids w w' room e := by
  have d0 : decide ((room : Int) ≤ 16) = true := by simp; omega
  have hr : 1 ≤ room ∧ room ≤ 16 := by omega
  have HH := Lib.hid h
  clear h
  go_enter Tryz.func131, Tryz.ntmps131
  go_wp2_with fail
  refine (new40_yes room _ hr).mono ?_; rintro e w2 ⟨rfl, hs, hb⟩
  have HS := Lib.hid hs
  have HB := Lib.hid hb
  have hz1 : (w.alloc (.cells #[.pointer none, .pointer none] 165)).heap.size = w.heap.size + 1 := World.size_alloc _ _
  have hv0 : Var w2 w.heap.size 0 (.pointer none) := (Var.new rfl rfl : Var (w.alloc (.cells #[.pointer none, .pointer none] 165)) w.heap.size 0 (.pointer none)).step hb
  have c0 := hv0.cell
  have z0 := hv0.free
  have hk : w2.heap[w.heap.size]? = some (.cells #[.pointer none, .pointer none] 165 (0, 0)) := by rw [hb.block _ (by rw [hz1]; omega)]; exact heap_alloc_new _ _
  have HK := Lib.hid hk
  have HZ := Lib.hid hz1
  clear hs hb hv0 hk hz1
  go_wp2_with fail
  go_ret
  rw [HZ.out] at HS
  refine ⟨[w.heap.size, w.heap.size + 1], rfl, ⟨true, w.heap.size + 1, [w.heap.size + 1], ⟨heap_setCell_same _ _ 0 _ _ _ HK.out, ⟨HS.out.same (heap_setCell_other _ _ _ _ (by simp)), rfl, HH.out⟩, by simp, rfl, fun _ _ => rfl, by rw [cntF_zero]; omega⟩⟩, by simp, ?_⟩
  exact (Below.step ((Below.refl _ _).alloc (Nat.le_refl _) _) HB.out).setCell (by simp) _

set_option maxHeartbeats 800000 in
theorem room131_brd (room : Nat) (w : World) (h : room = 48 ∨ room = 256) : Calls Tryz.prog 131 #[.int .i64 room] w fun e w' => NewKids w w' room e := by
  have d0 : decide ((room : Int) ≤ 16) = false := by simp; omega
  have HH := Lib.hid h
  clear h
  go_enter Tryz.func131, Tryz.ntmps131
  go_wp2_with fail
  refine (new12_yes 0 room _ HH.out (Nat.zero_le _)).mono ?_; rintro e w2 ⟨rfl, hs, hb⟩
  have HS := Lib.hid hs
  have HB := Lib.hid hb
  have hz1 : (w.alloc (.cells #[.pointer none, .pointer none] 165)).heap.size = w.heap.size + 1 := World.size_alloc _ _
  have hv0 : Var w2 w.heap.size 1 (.pointer none) := (Var.new rfl rfl : Var (w.alloc (.cells #[.pointer none, .pointer none] 165)) w.heap.size 1 (.pointer none)).step hb
  have c0 := hv0.cell
  have z0 := hv0.free
  have hk : w2.heap[w.heap.size]? = some (.cells #[.pointer none, .pointer none] 165 (0, 0)) := by rw [hb.block _ (by rw [hz1]; omega)]; exact heap_alloc_new _ _
  have HK := Lib.hid hk
  have HZ := Lib.hid hz1
  clear hs hb hv0 hk hz1
  go_wp2_with fail
  go_ret
  rw [HZ.out] at HS
  refine ⟨[w.heap.size, w.heap.size + 1], rfl, ⟨false, w.heap.size + 1, [w.heap.size + 1], ⟨heap_setCell_same _ _ 1 _ _ _ HK.out, Hold.same (w := w2) (r := false) ⟨⟨0, HS.out⟩, HH.out⟩ (fun j hj => heap_setCell_other _ _ _ _ (by simp at hj; simp; omega)), by simp, rfl, fun _ _ => rfl, by rw [cntF_zero]; omega⟩⟩, by simp, ?_⟩
  exact (Below.step ((Below.refl _ _).alloc (Nat.le_refl _) _) HB.out).setCell (by simp) _

def okKind (room : Nat) : Prop := room = 4 ∨ room = 16 ∨ room = 48 ∨ room = 256
theorem room131 (room : Nat) (w : World) (h : okKind room) : Calls Tryz.prog 131 #[.int .i64 room] w fun e w' => NewKids w w' room e := by
  rcases h with h | h | h | h
  · exact room131_row room w (Or.inl h)
  · exact room131_row room w (Or.inr h)
  · exact room131_brd room w (Or.inl h)
  · exact room131_brd room w (Or.inr h)

/-- what is left of kids: their blocks are old ones or new ones, all else is as it was -/
structure Kids' (w w' : World) (k room : Nat) (f : Nat → Option Th) (fp : List Nat) : Prop where
  ex : ∃ fp', KdQ w' k room f fp' ∧ ∀ j ∈ fp', j ∈ fp ∨ w.heap.size ≤ j
  exc : Exc fp w w'

theorem updF_far {f : Nat → Option Th} (h : ∀ b, 256 ≤ b → f b = none) (b : Nat) (hb : b < 256) (v : Option Th) : ∀ c, 256 ≤ c → updF f b v c = none := fun c hc => by
  rw [updF_ne _ _ _ _ (by omega)]; exact h c hc

theorem cntF_some (f : Nat → Option Th) (b : Nat) (hb : b < 256) (x : Th) : cntF (updF f b (some x)) = cntF f + (if (f b).isSome then 0 else 1) := by
  have h := cntF_upd f b (some x) hb
  cases hf : f b with
  | none => rw [hf] at h; simp at h ⊢; omega
  | some y => rw [hf] at h; simp at h ⊢; omega
theorem cntF_drop (f : Nat → Option Th) (b : Nat) (hb : b < 256) : cntF (updF f b none) ≤ cntF f := by
  have h := cntF_upd f b none hb
  cases hf : f b with
  | none => rw [hf] at h; simp at h; omega
  | some y => rw [hf] at h; simp at h; omega

set_option maxHeartbeats 800000 in
theorem put135_row {w : World} {k room : Nat} {f : Nat → Option Th} {fp : List Nat} {g : Nat} {fq : List Nat} (h : KdR w k room f fp true g fq) (b : Nat) (hb : b < 256) (x : Th) (hroom : (f b).isSome = true ∨ cntF f < room) :
    Calls Tryz.prog 135 #[.pointer (some ⟨k, 0, none⟩), .int .u8 b, .pointer x] w fun e w' => e = .returned (.tuple #[]) ∧ Kids' w w' k room (updF f b (some x)) fp := by
  have c0 := h.row0
  have HL := Lib.hid (setS h.hold.1 b hb x)
  have H := Lib.hid h
  have HR := Lib.hid hroom
  clear h hroom
  go_enter Tryz.func135, Tryz.ntmps135
  go_wp2_with fail
  refine HL.out.mono ?_; rintro e w2 ⟨n, f', rfl, hn, hs, hx⟩
  have HN := Lib.hid hn
  have HS := Lib.hid hs
  have HX := Lib.hid hx
  clear hn hs hx
  go_wp2_with fail
  go_returns
  have hf : f' = updF f b (some x) := by
    rcases HN.out with ⟨h1, h2, _⟩ | ⟨_, _, h⟩
    · rcases HR.out with h | h
      · rw [h1] at h; cases h
      · omega
    · exact h
  subst hf
  have hq : fq = [g] := H.out.hold.2.1
  have hfp : fp = [k, g] := by rw [H.out.fps, hq]
  have hkg : k ≠ g := by have := H.out.apart; rw [hq] at this; simpa using this
  refine ⟨rfl, ⟨fp, ⟨true, g, fq, ⟨(HX.out.block k (H.out.fp_lt k (by rw [hfp]; simp)) (by simpa using hkg)).trans H.out.heap, ⟨HS.out, hq, H.out.hold.2.2⟩, H.out.apart, H.out.fps, updF_far H.out.far b hb _, HS.out.cnt_le⟩⟩, fun j hj => Or.inl hj⟩, HX.out.wide (by rw [hfp]; simp)⟩

theorem BdE.cnt_le' {w : World} {base g room : Nat} {f : Nat → Option Th} {U : Nat} {fp : List Nat} (h : BdE w base g room f U fp) : cntF f ≤ room := by
  obtain ⟨A, X, F, px, cx, pf, cf, h, hf, rfl, e2⟩ := h
  rw [← cnt_held A X f hf]
  exact h.plc.room
theorem BdE.mem {w : World} {base g room : Nat} {f : Nat → Option Th} {U : Nat} {fp : List Nat} (h : BdE w base g room f U fp) : g ∈ fp := by
  obtain ⟨A, X, F, px, cx, pf, cf, h, hf, rfl, rfl⟩ := h
  exact fp_g _ _ _

set_option maxHeartbeats 800000 in
theorem put135_brd {w : World} {k room : Nat} {f : Nat → Option Th} {fp : List Nat} {g : Nat} {fq : List Nat} (h : KdR w k room f fp false g fq) (b : Nat) (hb : b < 256) (x : Th) (hroom : (f b).isSome = true ∨ cntF f < room) :
    Calls Tryz.prog 135 #[.pointer (some ⟨k, 0, none⟩), .int .u8 b, .pointer x] w fun e w' => e = .returned (.tuple #[]) ∧ Kids' w w' k room (updF f b (some x)) fp := by
  have c0 := h.brd0
  have c1 := h.brd1
  obtain ⟨U, hbd⟩ := h.hold.1
  have HL := Lib.hid (setBd hbd (Nat.zero_le _) b hb x)
  have H := Lib.hid h
  have HR := Lib.hid hroom
  clear h hroom hbd
  go_enter Tryz.func135, Tryz.ntmps135
  go_wp2_with fail
  refine HL.out.mono ?_; rintro e w2 hs
  rcases hs with ⟨h1, h2, _⟩ | ⟨_, rfl, U', fq', hs, hx, hfq, _⟩
  · exfalso
    rcases HR.out with h | h
    · rw [h1] at h; cases h
    · omega
  have HS := Lib.hid hs
  have HX := Lib.hid hx
  have HF := Lib.hid hfq
  clear hs hx hfq
  go_wp2_with fail
  go_end0
  have hk : k < w.heap.size := H.out.fp_lt k (by rw [H.out.fps]; simp)
  refine ⟨rfl, ⟨k :: fq', ⟨false, g, fq', ⟨(HX.out.block k hk H.out.apart).trans H.out.heap, ⟨⟨U', HS.out⟩, H.out.hold.2⟩, fun hin => ?_, rfl, updF_far H.out.far b hb _, HS.out.cnt_le'⟩⟩, fun j hj => ?_⟩, HX.out.wide (fun j hj => by rw [H.out.fps]; exact List.mem_cons_of_mem _ hj)⟩
  · rcases HF.out k hin with h | h
    · exact H.out.apart h
    · omega
  · rw [H.out.fps]
    rcases List.mem_cons.1 hj with rfl | hj
    · exact Or.inl (by simp)
    · rcases HF.out j hj with h | h
      · exact Or.inl (List.mem_cons_of_mem _ h)
      · exact Or.inr h

theorem put135 {w : World} {k room : Nat} {f : Nat → Option Th} {fp : List Nat} (h : KdQ w k room f fp) (b : Nat) (hb : b < 256) (x : Th) (hroom : (f b).isSome = true ∨ cntF f < room) :
    Calls Tryz.prog 135 #[.pointer (some ⟨k, 0, none⟩), .int .u8 b, .pointer x] w fun e w' => e = .returned (.tuple #[]) ∧ Kids' w w' k room (updF f b (some x)) fp := by
  obtain ⟨r, g, fq, h⟩ := h
  cases r with
  | true => exact put135_row h b hb x hroom
  | false => exact put135_brd h b hb x hroom

end Go.Proofs.YtbihlmkjoplkoaaGreatDoor
