/-
  For the statement TopOwners: Kids: moved into other room; Kids: Set, Drop.
-/
import Derived.Test.YtbihlmkjoplkoaaGreatDoorM14
/-
  Kids: moved into other room.
-/
namespace Go.Proofs.YtbihlmkjoplkoaaGreatDoor
open Go.RowKit
set_option linter.unusedVariables false

/-- what is held below a byte -/
def cutF (f : Nat → Option Th) (i : Nat) : Nat → Option Th := fun b => if b < i then f b else none

theorem cutF_zero (f : Nat → Option Th) : cutF f 0 = fun _ => none := by funext b; simp [cutF]
theorem cutF_all (f : Nat → Option Th) (i : Nat) (h : ∀ b, i ≤ b → f b = none) : cutF f i = f := by
  funext b; unfold cutF
  by_cases e : b < i
  · rw [if_pos e]
  · rw [if_neg e, h b (by omega)]
theorem cutF_next (f : Nat → Option Th) (i b : Nat) (x : Th) (hb : i ≤ b) (hf : f b = some x) (hno : ∀ c, c < b → i ≤ c → f c = none) : updF (cutF f i) b (some x) = cutF f (b + 1) := by
  funext c
  unfold updF cutF
  by_cases e : c = b
  · subst e; rw [if_pos rfl, if_pos (by omega), hf]
  · rw [if_neg e]
    by_cases h1 : c < i
    · rw [if_pos h1, if_pos (by omega)]
    · rw [if_neg h1]
      by_cases h2 : c < b
      · rw [if_pos (by omega), hno c h2 (by omega)]
      · rw [if_neg (by omega)]
theorem cntH_mono (p q : Nat → Bool) (h : ∀ b, p b = true → q b = true) : ∀ n, cntH p n ≤ cntH q n
  | 0 => by simp [cntH]
  | n + 1 => by
    rw [cntH_succ, cntH_succ]
    have := cntH_mono p q h n
    have := h n
    cases hp : p n <;> cases hq : q n <;> simp_all <;> omega
theorem cntF_mono (f g : Nat → Option Th) (h : ∀ b, (f b).isSome = true → (g b).isSome = true) : cntF f ≤ cntF g := cntH_mono _ _ h 256
theorem cntF_cut (f : Nat → Option Th) (i b : Nat) (x : Th) (hi : i ≤ b) (hb : b < 256) (hf : f b = some x) : cntF (cutF f i) < cntF f := by
  have h1 := cntF_some (cutF f i) b hb x
  have h2 : cutF f i b = none := by unfold cutF; rw [if_neg (by omega)]
  rw [h2] at h1
  have h3 : cntF (updF (cutF f i) b (some x)) ≤ cntF f := by
    refine cntF_mono _ _ fun c hc => ?_
    unfold updF cutF at hc
    by_cases e : c = b
    · subst e; rw [hf]; rfl
    · rw [if_neg e] at hc
      by_cases e2 : c < i
      · rw [if_pos e2] at hc; exact hc
      · rw [if_neg e2] at hc; cases hc
  simp at h1; omega

/-- moved: the kids' own block has turned, the others are new -/
def MoveR (w w' : World) (k kind : Nat) (f : Nat → Option Th) : Prop := ∃ fp', KdQ w' k kind f fp' ∧ (∀ j ∈ fp', j = k ∨ w.heap.size ≤ j) ∧ Exc [k] w w'

def LoopK (w wr : World) (l kind : Nat) (f : Nat → Option Th) : Prop := ∃ fpl, KdQ wr l kind f fpl ∧ (∀ j ∈ fpl, w.heap.size ≤ j) ∧ Below w.heap.size w wr

theorem KdQ.heap {w : World} {k room : Nat} {f : Nat → Option Th} {fp : List Nat} (h : KdQ w k room f fp) : ∃ v0 v1 : Th, w.heap[k]? = some (.cells #[.pointer v0, .pointer v1] 165 (0, 0)) := by
  obtain ⟨r, g, fq, h⟩ := h
  cases r with
  | true => exact ⟨_, _, h.heap⟩
  | false => exact ⟨_, _, h.heap⟩

/-- the end of move: the other kids' cells are laid over -/
theorem move_end {w wr : World} {k room kind : Nat} {f : Nat → Option Th} {fp : List Nat} (h : KdQ w k room f fp) (hL : LoopK w wr w.heap.size kind f) {v0 v1 : Th} (hl : wr.heap[w.heap.size]? = some (.cells #[.pointer v0, .pointer v1] 165 (0, 0))) :
    MoveR w ((wr.setCell ⟨k, 0, none⟩ (.pointer v0)).setCell ⟨k, 1, none⟩ (.pointer v1)) k kind f := by
  obtain ⟨fpl, ⟨r, g, fq, hk⟩, hnew, hb⟩ := hL
  obtain ⟨u0, u1, hu⟩ := h.heap
  have hkw := h.fp_lt k h.mem
  have hu' : wr.heap[k]? = some (.cells #[.pointer u0, .pointer u1] 165 (0, 0)) := by rw [hb.block k hkw]; exact hu
  have e : kidCells r g = #[.pointer v0, .pointer v1] := by
    have := hk.heap.symm.trans hl
    simpa using this
  have e1 := heap_setCell_same wr k 0 _ 165 (.pointer v0) hu'
  have e2 := heap_setCell_same (wr.setCell ⟨k, 0, none⟩ (.pointer v0)) k 1 _ 165 (.pointer v1) e1
  have hkq : k ∉ fq := fun hin => by
    have := hnew k (by rw [hk.fps]; exact List.mem_cons_of_mem _ hin)
    omega
  refine ⟨k :: fq, ⟨r, g, fq, ⟨by rw [e2, e]; rfl, hk.hold.same (fun j hj => ?_), hkq, rfl, hk.far, hk.fits⟩⟩, fun j hj => ?_, (((Exc.ofBelow hb [k]).set (p := ⟨k, 0, none⟩) (by simp) _).set (p := ⟨k, 1, none⟩) (by simp) _)⟩
  · have hne : j ≠ k := fun e => hkq (e ▸ hj)
    rw [heap_setCell_other _ _ _ _ (by simpa using hne), heap_setCell_other _ _ _ _ (by simpa using hne)]
  · rcases List.mem_cons.1 hj with rfl | hj
    · exact Or.inl rfl
    · exact Or.inr (hnew j (by rw [hk.fps]; exact List.mem_cons_of_mem _ hj))

set_option maxRecDepth 100000 in
set_option maxHeartbeats 1600000 in
theorem move133 {w : World} {k room : Nat} {f : Nat → Option Th} {fp : List Nat} (h : KdQ w k room f fp) (kind : Nat) (hk : okKind kind) (hc : cntF f ≤ kind) :
    Calls Tryz.prog 133 #[.pointer (some ⟨k, 0, none⟩), .int .i64 kind] w fun e w' => e = .returned (.tuple #[]) ∧ MoveR w w' k kind f := by
  have H := Lib.hid h
  have HK := Lib.hid hk
  have HC := Lib.hid hc
  have hnot : ∀ (x : Bool) (w : World), (Op.unary .not (.bool x)).run Tryz.prog w = .ok (.bool (!x)) w := fun _ _ => rfl
  have hfar := Lib.hid h.far
  have hkw := h.fp_lt k h.mem
  clear h hk hc
  go_enter Tryz.func133, Tryz.ntmps133
  go_wp2_with fail
  refine (room131 kind _ HK.out).mono ?_; rintro e w1 ⟨fpl, rfl, hl, hfp, hb⟩
  have HL : Hid (LoopK w w1 w.heap.size kind (cutF f 0)) := by show LoopK _ _ _ _ _; rw [cutF_zero]; exact ⟨fpl, hl, hfp, hb⟩
  clear hl hfp hb
  go_wp2_with fail
  go_loopw [5] (fun t wr => ∃ i : Nat, t = .int .i64 i ∧ i ≤ 256 ∧ Hid (LoopK w wr w.heap.size kind (cutF f i))) (fun t _ => 256 - (intOf t).toNat)
  case atStart => exact ⟨0, rfl, by omega, HL⟩
  case round =>
    obtain ⟨i, rfl, hi, hL⟩ := hrel
    by_cases hlt : i < 256
    · have d0 : decide ((i : Int) < 256) = true := by simp; omega
      have hkd : Hid (KdQ wr k room f fp) := by
        obtain ⟨_, _, _, hb⟩ := hL.out
        exact H.out.step hb
      go_wp2_with fail
      refine (next90 hkd.out (i : Int)).mono ?_; rintro e w2 ⟨r, hr, rfl, z, hw2⟩
      rw [hw2]; clear hw2 w2
      rcases hr with ⟨b, x, h1, h2, h3, h4, rfl⟩ | ⟨h1, rfl⟩
      · have hL2 : Hid (LoopK w (wr.drewN z) w.heap.size kind (cutF f i)) := by
          obtain ⟨fpl, q1, q2, q3⟩ := hL.out
          exact ⟨fpl, q1.same (fun _ _ => rfl), q2, below_drewN q3 z⟩
        have hib : i ≤ b := by omega
        have hcut := Lib.hid (cutF_next f i b x hib h3 (fun c p q => h4 c p (by omega)))
        have hcc := Lib.hid (cntF_cut f i b x hib h1 h3)
        have q1 : IntKind.i64.wrap ((b : Int) + 1) = (b : Int) + 1 := IntWalk.i64_in _ (by omega)
        have q2 : IntKind.i64.wrap (b : Int) = (b : Int) := IntWalk.i64_in _ (by omega)
        clear h2 h3 h4 hL
        simp only [tri]
        go_wp2_with fail
        obtain ⟨fpl, q3⟩ := hL2.out
        refine (put135 q3.1 b h1 x (Or.inr (by have := hcc.out; have := HC.out; omega))).mono ?_; rintro e w3 ⟨rfl, hK⟩
        have hL3 : Hid (LoopK w w3 w.heap.size kind (cutF f (b + 1))) := by
          obtain ⟨⟨fp', k1, k2⟩, k3⟩ := hK
          rw [hcut.out] at k1
          refine ⟨fp', k1, fun j hj => ?_, ?_⟩
          · rcases k2 j hj with h | h
            · exact q3.2.1 j h
            · have := q3.2.2.size; omega
          · exact k3.below q3.2.2 (fun j hj => q3.2.1 j hj) q3.2.2.size
        clear hK q3 hL2 hcut hcc
        go_wp2_with fail
        go_roundw
        case rel => exact ⟨b + 1, by go_num, by omega, hL3⟩
        case measure => simp [intOf]; omega
      · have hcut := Lib.hid (cutF_all f i (fun b hb => by
          by_cases h2 : b < 256
          · exact h1 b h2 (by omega)
          · exact hfar.out b (by omega)))
        have hL2 : Hid (LoopK w (wr.drewN z) w.heap.size kind f) := by
          obtain ⟨fpl, q1, q2, q3⟩ := hL.out
          rw [hcut.out] at q1
          exact ⟨fpl, q1.same (fun _ _ => rfl), q2, below_drewN q3 z⟩
        clear h1 hL hcut
        simp only [tri]
        obtain ⟨v0, v1, hv⟩ : ∃ v0 v1 : Th, (wr.drewN z).heap[w.heap.size]? = some (.cells #[.pointer v0, .pointer v1] 165 (0, 0)) := by
          obtain ⟨fpl, q1, _⟩ := hL2.out
          exact q1.heap
        obtain ⟨u0, u1, hu⟩ : ∃ u0 u1 : Th, (wr.drewN z).heap[k]? = some (.cells #[.pointer u0, .pointer u1] 165 (0, 0)) := hkd.out.heap
        have c0 : (wr.drewN z).cell? ⟨w.heap.size, 0, none⟩ = some (.pointer v0) := by rw [cell_of_row _ _ _ _ _ _ hv]; rfl
        have c1 : (wr.drewN z).cell? ⟨w.heap.size, 1, none⟩ = some (.pointer v1) := by rw [cell_of_row _ _ _ _ _ _ hv]; rfl
        have e0 : (wr.drewN z).cell? ⟨k, 0, none⟩ = some (.pointer u0) := by rw [cell_of_row _ _ _ _ _ _ hu]; rfl
        have e1 : (wr.drewN z).cell? ⟨k, 1, none⟩ = some (.pointer u1) := by rw [cell_of_row _ _ _ _ _ _ hu]; rfl
        have z0 : (wr.drewN z).frozen? ⟨k, 0, none⟩ = false := frozen_of_row _ _ _ _ _ hu
        have z1 : (wr.drewN z).frozen? ⟨k, 1, none⟩ = false := frozen_of_row _ _ _ _ _ hu
        have HE := Lib.hid (move_end H.out hL2.out hv)
        clear hv hu
        go_wp2_with fail
        go_end0
        exact ⟨rfl, HE.out⟩
    · have d0 : decide ((i : Int) < 256) = false := by simp; omega
      obtain rfl : i = 256 := by omega
      have hL2 : Hid (LoopK w wr w.heap.size kind f) := by
        have hcut := cutF_all f 256 (fun b hb => hfar.out b hb)
        show LoopK _ _ _ _ _
        have := hL.out
        rwa [hcut] at this
      have hkd : Hid (KdQ wr k room f fp) := by
        obtain ⟨_, _, _, hb⟩ := hL.out
        exact H.out.step hb
      obtain ⟨v0, v1, hv⟩ : ∃ v0 v1 : Th, wr.heap[w.heap.size]? = some (.cells #[.pointer v0, .pointer v1] 165 (0, 0)) := by
        obtain ⟨fpl, q1, _⟩ := hL2.out
        exact q1.heap
      obtain ⟨u0, u1, hu⟩ : ∃ u0 u1 : Th, wr.heap[k]? = some (.cells #[.pointer u0, .pointer u1] 165 (0, 0)) := hkd.out.heap
      have c0 : wr.cell? ⟨w.heap.size, 0, none⟩ = some (.pointer v0) := by rw [cell_of_row _ _ _ _ _ _ hv]; rfl
      have c1 : wr.cell? ⟨w.heap.size, 1, none⟩ = some (.pointer v1) := by rw [cell_of_row _ _ _ _ _ _ hv]; rfl
      have e0 : wr.cell? ⟨k, 0, none⟩ = some (.pointer u0) := by rw [cell_of_row _ _ _ _ _ _ hu]; rfl
      have e1 : wr.cell? ⟨k, 1, none⟩ = some (.pointer u1) := by rw [cell_of_row _ _ _ _ _ _ hu]; rfl
      have z0 : wr.frozen? ⟨k, 0, none⟩ = false := frozen_of_row _ _ _ _ _ hu
      have z1 : wr.frozen? ⟨k, 1, none⟩ = false := frozen_of_row _ _ _ _ _ hu
      have HE := Lib.hid (move_end H.out hL2.out hv)
      clear hv hu
      go_wp2_with fail
      go_end0
      exact ⟨rfl, HE.out⟩

end Go.Proofs.YtbihlmkjoplkoaaGreatDoor
/-
  Kids: Set, Drop.
-/
namespace Go.Proofs.YtbihlmkjoplkoaaGreatDoor
open Go.RowKit
set_option linter.unusedVariables false

theorem cntF_le (f : Nat → Option Th) : cntF f ≤ 256 := cntH_le _ 256
theorem okKind_of (n : Nat) (h : n ≤ 256) : okKind (kindOf n) := by
  unfold kindOf okKind
  repeat' split
  all_goals omega
theorem kindOf_ge (n : Nat) (h : n ≤ 256) : n ≤ kindOf n := by
  unfold kindOf
  repeat' split
  all_goals omega
theorem kindOf_step (n : Nat) (h : n < kindOf n) (h2 : n < 256) : kindOf (n + 1) = kindOf n := by
  unfold kindOf at h ⊢
  repeat' split at h
  all_goals (repeat' split)
  all_goals omega

theorem Exc.join {S T : List Nat} {a b c : World} (h : Exc S a b) (k : Exc T b c) (hT : ∀ j ∈ T, j ∈ S ∨ a.heap.size ≤ j) : Exc S a c :=
  ⟨k.os.trans h.os, k.tape.trans h.tape, k.output.trans h.output, Nat.le_trans h.size k.size, fun j hj hjn => by
    rw [k.block j (Nat.lt_of_lt_of_le hj h.size) (fun hin => ?_)]
    · exact h.block j hj hjn
    · rcases hT j hin with q | q
      · exact hjn q
      · omega⟩

/-- what is left of kids as the program leaves them -/
structure KidsE (w w' : World) (k : Nat) (f : Nat → Option Th) (fp : List Nat) : Prop where
  ex : ∃ fp', KdE w' k f fp' ∧ ∀ j ∈ fp', j ∈ fp ∨ w.heap.size ≤ j
  exc : Exc fp w w'

theorem Kids'.toE {w w' : World} {k room : Nat} {f : Nat → Option Th} {fp : List Nat} (h : Kids' w w' k room f fp) (e : room = kindOf (cntF f)) : KidsE w w' k f fp := by
  obtain ⟨⟨fp', h1, h2⟩, h3⟩ := h
  subst e
  exact ⟨⟨fp', h1, h2⟩, h3⟩
theorem Kids'.over {w w1 w' : World} {k room : Nat} {f : Nat → Option Th} {fp : List Nat} (h : Kids' w1 w' k room f fp) (k0 : Exc fp w w1) : Kids' w w' k room f fp := by
  obtain ⟨⟨fp', h1, h2⟩, h3⟩ := h
  refine ⟨⟨fp', h1, fun j hj => ?_⟩, k0.trans h3⟩
  rcases h2 j hj with h | h
  · exact Or.inl h
  · exact Or.inr (Nat.le_trans k0.size h)

set_option maxHeartbeats 800000 in
/-- Set where there is room, or the byte is there -/
theorem set105_in {w : World} {k : Nat} {f : Nat → Option Th} {fp : List Nat} (h : KdE w k f fp) (b : Nat) (hb : b < 256) (x : Th) (y : Th) (hf : f b = some y) :
    Calls Tryz.prog 105 #[.pointer (some ⟨k, 0, none⟩), .int .u8 b, .pointer x] w fun e w' => e = .returned (.int .i64 0) ∧ KidsE w w' k (updF f b (some x)) fp := by
  have H : Hid (KdQ w k (kindOf (cntF f)) f fp) := h
  have hnot : ∀ (x : Bool) (w : World), (Op.unary .not (.bool x)).run Tryz.prog w = .ok (.bool (!x)) w := fun _ _ => rfl
  have HG := Lib.hid (get57 h b hb)
  rw [hf] at HG
  have HF := Lib.hid hf
  clear h hf
  go_enter Tryz.func105, Tryz.ntmps105
  go_wp2_with fail
  refine (ok87 H.out).mono ?_; rintro e w2 ⟨rfl, hw2⟩
  rw [hw2]; clear hw2 w2
  go_wp2_with fail
  refine HG.out.mono ?_; rintro e w2 ⟨rfl, z, hw2⟩
  rw [hw2]; clear hw2 w2
  simp only [Option.isSome]
  go_wp2_with fail
  refine (put135 (H.out.same (w' := w.drewN z) (fun _ _ => rfl)) b hb x (Or.inl (by rw [HF.out]; rfl))).mono ?_; rintro e w3 ⟨rfl, hK⟩
  have HKK := Lib.hid hK
  clear hK
  go_wp2_with fail
  go_ret
  refine ⟨rfl, (HKK.out.over ((Exc.refl _ _).drewN z)).toE ?_⟩
  rw [cntF_some f b hb x, HF.out]; rfl

set_option maxHeartbeats 800000 in
theorem set105_room {w : World} {k : Nat} {f : Nat → Option Th} {fp : List Nat} (h : KdE w k f fp) (b : Nat) (hb : b < 256) (x : Th) (hf : f b = none) (hlt : cntF f < kindOf (cntF f)) :
    Calls Tryz.prog 105 #[.pointer (some ⟨k, 0, none⟩), .int .u8 b, .pointer x] w fun e w' => e = .returned (.int .i64 0) ∧ KidsE w w' k (updF f b (some x)) fp := by
  have H : Hid (KdQ w k (kindOf (cntF f)) f fp) := h
  have hnot : ∀ (x : Bool) (w : World), (Op.unary .not (.bool x)).run Tryz.prog w = .ok (.bool (!x)) w := fun _ _ => rfl
  have HG := Lib.hid (get57 h b hb)
  rw [hf] at HG
  have hc := cntF_some f b hb x
  have hle := cntF_le (updF f b (some x))
  rw [hf] at hc
  simp at hc
  have HF := Lib.hid hf
  have HC := Lib.hid hc
  have HS := Lib.hid (kindOf_step (cntF f) hlt (by omega))
  have HLT := Lib.hid hlt
  obtain ⟨n, hn⟩ : ∃ n, n = cntF f := ⟨_, rfl⟩
  obtain ⟨m, hm⟩ : ∃ m, m = kindOf n := ⟨_, rfl⟩
  have HN := Lib.hid hn
  have HM := Lib.hid hm
  have d0 : (((n : Nat) : Int) == ((m : Nat) : Int)) = false := by
    have : n < m := by rw [hm, hn]; exact hlt
    simp; omega
  clear h hf hc hle hlt hn hm
  go_enter Tryz.func105, Tryz.ntmps105
  go_wp2_with fail
  refine (ok87 H.out).mono ?_; rintro e w2 ⟨rfl, hw2⟩
  rw [hw2]; clear hw2 w2
  go_wp2_with fail
  refine HG.out.mono ?_; rintro e w2 ⟨rfl, z, hw2⟩
  rw [hw2]; clear hw2 w2
  simp only [Option.isSome]
  have H2 : Hid (KdQ (w.drewN z) k (kindOf (cntF f)) f fp) := H.out.same (fun _ _ => rfl)
  go_wp2_with fail
  refine (len132 H2.out).mono ?_; rintro e w2 ⟨rfl, hw2⟩
  rw [hw2]; clear hw2 w2
  rw [← HN.out]
  go_wp2_with fail
  refine (kind94 H2.out).mono ?_; rintro e w2 ⟨rfl, hw2⟩
  rw [hw2]; clear hw2 w2
  rw [← HN.out, ← HM.out]
  go_wp2_with fail
  refine (put135 H2.out b hb x (Or.inr HLT.out)).mono ?_; rintro e w3 ⟨rfl, hK⟩
  have HKK := Lib.hid hK
  clear hK
  go_wp2_with fail
  go_ret
  refine ⟨rfl, (HKK.out.over ((Exc.refl _ _).drewN z)).toE ?_⟩
  rw [HC.out]
  exact HS.out.symm

set_option maxHeartbeats 800000 in
theorem set105_full {w : World} {k : Nat} {f : Nat → Option Th} {fp : List Nat} (h : KdE w k f fp) (b : Nat) (hb : b < 256) (x : Th) (hf : f b = none) (hlt : cntF f = kindOf (cntF f)) :
    Calls Tryz.prog 105 #[.pointer (some ⟨k, 0, none⟩), .int .u8 b, .pointer x] w fun e w' => e = .returned (.int .i64 0) ∧ KidsE w w' k (updF f b (some x)) fp := by
  have H : Hid (KdQ w k (kindOf (cntF f)) f fp) := h
  have hnot : ∀ (x : Bool) (w : World), (Op.unary .not (.bool x)).run Tryz.prog w = .ok (.bool (!x)) w := fun _ _ => rfl
  have HG := Lib.hid (get57 h b hb)
  rw [hf] at HG
  have hc := cntF_some f b hb x
  have hle := cntF_le (updF f b (some x))
  rw [hf] at hc
  simp at hc
  have HF := Lib.hid hf
  have HC := Lib.hid hc
  have HLT := Lib.hid hlt
  obtain ⟨n, hn⟩ : ∃ n, n = cntF f := ⟨_, rfl⟩
  obtain ⟨m, hm⟩ : ∃ m, m = kindOf n := ⟨_, rfl⟩
  have HN := Lib.hid hn
  have hnm : n = m := by rw [hm, hn]; exact hlt
  have HM := Lib.hid hnm
  have hn256 : n < 256 := by omega
  have d0 : (((n : Nat) : Int) == ((n : Nat) : Int)) = true := by simp
  have q0 : IntKind.i64.wrap ((n : Int) + 1) = ((n + 1 : Nat) : Int) := by rw [IntWalk.i64_in _ (by omega)]; push_cast; rfl
  have HM2 := Lib.hid hm
  clear h hf hc hle hlt hn hm hnm
  go_enter Tryz.func105, Tryz.ntmps105
  go_wp2_with fail
  refine (ok87 H.out).mono ?_; rintro e w2 ⟨rfl, hw2⟩
  rw [hw2]; clear hw2 w2
  go_wp2_with fail
  refine HG.out.mono ?_; rintro e w2 ⟨rfl, z, hw2⟩
  rw [hw2]; clear hw2 w2
  simp only [Option.isSome]
  have H2 : Hid (KdQ (w.drewN z) k (kindOf (cntF f)) f fp) := H.out.same (fun _ _ => rfl)
  go_wp2_with fail
  refine (len132 H2.out).mono ?_; rintro e w2 ⟨rfl, hw2⟩
  rw [hw2]; clear hw2 w2
  rw [← HN.out]
  go_wp2_with fail
  refine (kind94 H2.out).mono ?_; rintro e w2 ⟨rfl, hw2⟩
  rw [hw2]; clear hw2 w2
  rw [← HN.out, ← HM2.out, ← HM.out]
  go_wp2_with fail
  refine (len132 H2.out).mono ?_; rintro e w2 ⟨rfl, hw2⟩
  rw [hw2]; clear hw2 w2
  rw [← HN.out]
  go_wp2_with fail
  rw [show ((n : Int) + 1) = ((n + 1 : Nat) : Int) by push_cast; rfl]
  refine (kindOf134 (n + 1) (by omega) _).mono ?_; rintro e w2 ⟨rfl, hw2⟩
  rw [hw2]; clear hw2 w2
  go_wp2_with fail
  refine (move133 H2.out (kindOf (n + 1)) (okKind_of _ (by omega)) (by rw [← HN.out]; have := kindOf_ge (n + 1) (by omega); omega)).mono ?_; rintro e w3 ⟨rfl, fp3, m1, m2, m3⟩
  have M1 := Lib.hid m1
  have M2 := Lib.hid m2
  have M3 := Lib.hid m3
  clear m1 m2 m3
  go_wp2_with fail
  refine (put135 M1.out b hb x (Or.inr (by rw [← HN.out]; have := kindOf_ge (n + 1) (by omega); omega))).mono ?_; rintro e w4 ⟨rfl, hK⟩
  have HKK := Lib.hid hK
  clear hK
  go_wp2_with fail
  go_ret
  refine ⟨rfl, ?_⟩
  obtain ⟨⟨fp', h1, h2⟩, h3⟩ := HKK.out
  have hkin : k ∈ fp := H.out.mem
  have x3 : Exc fp (w.drewN z) w3 := M3.out.wide (by simpa using hkin)
  refine ⟨⟨fp', ?_, fun j hj => ?_⟩, (((Exc.refl fp w).drewN z).trans x3).join h3 (fun j hj => by
    rcases M2.out j hj with h | h
    · exact Or.inl (h ▸ hkin)
    · exact Or.inr h)⟩
  · have : kindOf (cntF (updF f b (some x))) = kindOf (n + 1) := by rw [HC.out, HN.out]
    unfold KdE; rw [this]; exact h1
  · rcases h2 j hj with h | h
    · rcases M2.out j h with h | h
      · exact Or.inl (h ▸ hkin)
      · exact Or.inr h
    · exact Or.inr (Nat.le_trans (M3.out.size) h)

theorem set105 {w : World} {k : Nat} {f : Nat → Option Th} {fp : List Nat} (h : KdE w k f fp) (b : Nat) (hb : b < 256) (x : Th) :
    Calls Tryz.prog 105 #[.pointer (some ⟨k, 0, none⟩), .int .u8 b, .pointer x] w fun e w' => e = .returned (.int .i64 0) ∧ KidsE w w' k (updF f b (some x)) fp := by
  cases hf : f b with
  | some y => exact set105_in h b hb x y hf
  | none =>
    by_cases hlt : cntF f < kindOf (cntF f)
    · exact set105_room h b hb x hf hlt
    · have := kindOf_ge (cntF f) (cntF_le f)
      exact set105_full h b hb x hf (by omega)

/-- what Drop of a row, or of a board, leaves -/
theorem drop_row {w : World} {k room : Nat} {f : Nat → Option Th} {fp : List Nat} {g : Nat} {fq : List Nat} (h : KdR w k room f fp true g fq) (b : Nat) (hb : b < 256) :
    Calls Tryz.prog 167 #[.pointer (some ⟨g, 0, none⟩), .int .u8 b] w fun e w' => ∃ n : Int, e = .returned (.int .i64 n) ∧ KdR w' k room (updF f b none) fp true g fq ∧ Exc fp w w' := by
  refine (dropS h.hold.1 b hb).mono ?_
  rintro e w' ⟨n, rfl, _, hs, hx⟩
  have hq : fq = [g] := h.hold.2.1
  have hkg : k ≠ g := by have := h.apart; rw [hq] at this; simpa using this
  refine ⟨n, rfl, ⟨(hx.block k (h.fp_lt k (by rw [h.fps]; simp)) (by simpa using hkg)).trans h.heap, ⟨hs, hq, h.hold.2.2⟩, h.apart, h.fps, updF_far h.far b hb _, hs.cnt_le⟩, hx.wide (by rw [h.fps, hq]; simp)⟩
theorem drop_brd {w : World} {k room : Nat} {f : Nat → Option Th} {fp : List Nat} {g : Nat} {fq : List Nat} (h : KdR w k room f fp false g fq) (b : Nat) (hb : b < 256) :
    Calls Tryz.prog 168 #[.pointer (some ⟨g, 0, none⟩), .int .u8 b] w fun e w' => ∃ (n : Int) (fq' : List Nat), e = .returned (.int .i64 n) ∧ KdR w' k room (updF f b none) (k :: fq') false g fq' ∧ Exc fp w w' ∧ ∀ j ∈ k :: fq', j ∈ fp ∨ w.heap.size ≤ j := by
  obtain ⟨U, hbd⟩ := h.hold.1
  refine (dropBd hbd (Nat.zero_le _) b hb).mono ?_
  rintro e w' (⟨h1, rfl, rfl⟩ | ⟨_, rfl, fq', hs, hx, hfq⟩)
  · refine ⟨6, fq, rfl, ?_, Exc.refl _ _, fun j hj => Or.inl (by rw [h.fps]; exact hj)⟩
    rw [updF_none f b h1, ← h.fps]; exact h
  · have hk : k < w.heap.size := h.fp_lt k (by rw [h.fps]; simp)
    refine ⟨0, fq', rfl, ⟨(hx.block k hk h.apart).trans h.heap, ⟨⟨U, hs⟩, h.hold.2⟩, fun hin => ?_, rfl, updF_far h.far b hb _, hs.cnt_le'⟩, hx.wide (fun j hj => by rw [h.fps]; exact List.mem_cons_of_mem _ hj), fun j hj => ?_⟩
    · rcases hfq k hin with h2 | h2
      · exact h.apart h2
      · omega
    · rw [h.fps]
      rcases List.mem_cons.1 hj with rfl | hj
      · exact Or.inl (by simp)
      · rcases hfq j hj with h | h
        · exact Or.inl (List.mem_cons_of_mem _ h)
        · exact Or.inr h

theorem move_kids {w w1 w2 : World} {k room : Nat} {f : Nat → Option Th} {fp fp1 : List Nat} (h1 : KdQ w1 k room f fp1) (hx : Exc fp w w1) (hf : ∀ j ∈ fp1, j ∈ fp ∨ w.heap.size ≤ j) (hk : k ∈ fp) (hm : MoveR w1 w2 k (kindOf (cntF f)) f) : KidsE w w2 k f fp := by
  obtain ⟨fp2, m1, m2, m3⟩ := hm
  refine ⟨⟨fp2, m1, fun j hj => ?_⟩, hx.join m3 (fun j hj => by simp at hj; subst hj; exact Or.inl hk)⟩
  rcases m2 j hj with rfl | h
  · exact Or.inl hk
  · exact Or.inr (Nat.le_trans hx.size h)

set_option maxHeartbeats 1600000 in
theorem drop143_row {w : World} {k : Nat} {f : Nat → Option Th} {fp : List Nat} {g : Nat} {fq : List Nat} (h : KdR w k (kindOf (cntF f)) f fp true g fq) (b : Nat) (hb : b < 256) :
    Calls Tryz.prog 143 #[.pointer (some ⟨k, 0, none⟩), .int .u8 b] w fun e w' => ∃ n : Int, e = .returned (.int .i64 n) ∧ KidsE w w' k (updF f b none) fp := by
  have hnot : ∀ (x : Bool) (w : World), (Op.unary .not (.bool x)).run Tryz.prog w = .ok (.bool (!x)) w := fun _ _ => rfl
  have c0 := h.row0
  have H := Lib.hid h
  have hcn := cntF_le (updF f b none)
  have hcf := cntF_le f
  clear h
  go_enter Tryz.func143, Tryz.ntmps143
  go_wp2_with fail
  refine (ok87 ⟨_, _, _, H.out⟩).mono ?_; rintro e w2 ⟨rfl, hw2⟩
  rw [hw2]; clear hw2 w2
  go_wp2_with fail
  refine (drop_row H.out b hb).mono ?_; rintro e w2 ⟨n, rfl, hd, hx⟩
  have HD : Hid (KdQ w2 k (kindOf (cntF f)) (updF f b none) fp) := ⟨_, _, _, hd⟩
  have HX := Lib.hid hx
  clear hd hx c0
  obtain ⟨c, hc⟩ : ∃ c, c = cntF (updF f b none) := ⟨_, rfl⟩
  have HC := Lib.hid hc
  rw [← hc] at hcn
  clear hc
  go_wp2_with fail
  refine (len132 HD.out).mono ?_; rintro e w3 ⟨rfl, hw3⟩
  rw [hw3]; clear hw3 w3
  rw [← HC.out]
  go_wp2_with fail
  refine (kindOf134 c hcn _).mono ?_; rintro e w3 ⟨rfl, hw3⟩
  rw [hw3]; clear hw3 w3
  go_wp2_with fail
  refine (kind94 HD.out).mono ?_; rintro e w3 ⟨rfl, hw3⟩
  rw [hw3]; clear hw3 w3
  obtain ⟨r, hr⟩ : ∃ r, r = kindOf (cntF f) := ⟨_, rfl⟩
  obtain ⟨q, hq⟩ : ∃ q, q = kindOf c := ⟨_, rfl⟩
  rw [← hr, ← hq]
  have HR := Lib.hid hr
  have HQ := Lib.hid hq
  clear hr hq
  by_cases hrq : q = r
  · have d0 : (((q : Nat) : Int) != ((r : Nat) : Int)) = false := by simp [hrq]
    have HE := Lib.hid hrq
    clear hrq
    go_wp2_with fail
    go_ret
    refine ⟨n, rfl, ⟨⟨fp, ?_, fun j hj => Or.inl hj⟩, HX.out⟩⟩
    unfold KdE
    rw [← HC.out, ← HQ.out, HE.out, HR.out]; exact HD.out
  · have d0 : (((q : Nat) : Int) != ((r : Nat) : Int)) = true := by simp; omega
    clear hrq
    go_wp2_with fail
    refine (move133 HD.out q (by rw [HQ.out]; exact okKind_of _ hcn) (by rw [← HC.out, HQ.out]; exact kindOf_ge _ hcn)).mono ?_; rintro e w4 ⟨rfl, hm⟩
    have HM := Lib.hid hm
    clear hm
    go_wp2_with fail
    go_ret
    exact ⟨n, rfl, move_kids HD.out HX.out (fun j hj => Or.inl hj) (by rw [H.out.fps]; simp) (by rw [← HC.out, ← HQ.out]; exact HM.out)⟩

set_option maxHeartbeats 1600000 in
theorem drop143_brd {w : World} {k : Nat} {f : Nat → Option Th} {fp : List Nat} {g : Nat} {fq : List Nat} (h : KdR w k (kindOf (cntF f)) f fp false g fq) (b : Nat) (hb : b < 256) :
    Calls Tryz.prog 143 #[.pointer (some ⟨k, 0, none⟩), .int .u8 b] w fun e w' => ∃ n : Int, e = .returned (.int .i64 n) ∧ KidsE w w' k (updF f b none) fp := by
  have hnot : ∀ (x : Bool) (w : World), (Op.unary .not (.bool x)).run Tryz.prog w = .ok (.bool (!x)) w := fun _ _ => rfl
  have c0 := h.brd0
  have c1 := h.brd1
  have H := Lib.hid h
  have hcn := cntF_le (updF f b none)
  have hcf := cntF_le f
  clear h
  go_enter Tryz.func143, Tryz.ntmps143
  go_wp2_with fail
  refine (ok87 ⟨_, _, _, H.out⟩).mono ?_; rintro e w2 ⟨rfl, hw2⟩
  rw [hw2]; clear hw2 w2
  go_wp2_with fail
  refine (drop_brd H.out b hb).mono ?_; rintro e w2 ⟨n, fq', rfl, hd, hx, hfq⟩
  have HF := Lib.hid hfq
  have HD : Hid (KdQ w2 k (kindOf (cntF f)) (updF f b none) (k :: fq')) := ⟨_, _, _, hd⟩
  have HX := Lib.hid hx
  clear hd hx c0 c1 hfq
  obtain ⟨c, hc⟩ : ∃ c, c = cntF (updF f b none) := ⟨_, rfl⟩
  have HC := Lib.hid hc
  rw [← hc] at hcn
  clear hc
  go_wp2_with fail
  refine (len132 HD.out).mono ?_; rintro e w3 ⟨rfl, hw3⟩
  rw [hw3]; clear hw3 w3
  rw [← HC.out]
  go_wp2_with fail
  refine (kindOf134 c hcn _).mono ?_; rintro e w3 ⟨rfl, hw3⟩
  rw [hw3]; clear hw3 w3
  go_wp2_with fail
  refine (kind94 HD.out).mono ?_; rintro e w3 ⟨rfl, hw3⟩
  rw [hw3]; clear hw3 w3
  obtain ⟨r, hr⟩ : ∃ r, r = kindOf (cntF f) := ⟨_, rfl⟩
  obtain ⟨q, hq⟩ : ∃ q, q = kindOf c := ⟨_, rfl⟩
  rw [← hr, ← hq]
  have HR := Lib.hid hr
  have HQ := Lib.hid hq
  clear hr hq
  by_cases hrq : q = r
  · have d0 : (((q : Nat) : Int) != ((r : Nat) : Int)) = false := by simp [hrq]
    have HE := Lib.hid hrq
    clear hrq
    go_wp2_with fail
    go_ret
    refine ⟨n, rfl, ⟨⟨k :: fq', ?_, HF.out⟩, HX.out⟩⟩
    unfold KdE
    rw [← HC.out, ← HQ.out, HE.out, HR.out]; exact HD.out
  · have d0 : (((q : Nat) : Int) != ((r : Nat) : Int)) = true := by simp; omega
    clear hrq
    go_wp2_with fail
    refine (move133 HD.out q (by rw [HQ.out]; exact okKind_of _ hcn) (by rw [← HC.out, HQ.out]; exact kindOf_ge _ hcn)).mono ?_; rintro e w4 ⟨rfl, hm⟩
    have HM := Lib.hid hm
    clear hm
    go_wp2_with fail
    go_ret
    exact ⟨n, rfl, move_kids HD.out HX.out HF.out (by rw [H.out.fps]; simp) (by rw [← HC.out, ← HQ.out]; exact HM.out)⟩

theorem drop143 {w : World} {k : Nat} {f : Nat → Option Th} {fp : List Nat} (h : KdE w k f fp) (b : Nat) (hb : b < 256) :
    Calls Tryz.prog 143 #[.pointer (some ⟨k, 0, none⟩), .int .u8 b] w fun e w' => ∃ n : Int, e = .returned (.int .i64 n) ∧ KidsE w w' k (updF f b none) fp := by
  obtain ⟨r, g, fq, h⟩ := h
  cases r with
  | true => exact drop143_row h b hb
  | false => exact drop143_brd h b hb

/-- new kids: all their blocks are new -/
def FreshK (w w' : World) (f : Nat → Option Th) (e : Ending) : Prop := ∃ k fp, e = .returned (.pointer (some ⟨k, 0, none⟩)) ∧ KdE w' k f fp ∧ (∀ j ∈ fp, w.heap.size ≤ j) ∧ Below w.heap.size w w'

theorem kindOf_zero : kindOf (cntF fun _ => none) = 4 := by rw [cntF_zero]; rfl

theorem new102 (w : World) : Calls Tryz.prog 102 #[] w fun e w' => FreshK w w' (fun _ => none) e := by
  go_enter Tryz.func102, Tryz.ntmps102
  go_wp2_with fail
  refine (room131 4 _ (Or.inl rfl)).mono ?_; rintro e w2 ⟨fp, rfl, h1, h2, h3⟩
  have H1 := Lib.hid h1
  have H2 := Lib.hid h2
  have H3 := Lib.hid h3
  clear h1 h2 h3
  go_wp2_with fail
  go_ret
  refine ⟨w.heap.size, fp, rfl, ?_, H2.out, H3.out⟩
  unfold KdE
  rw [kindOf_zero]; exact H1.out

theorem built165_2 (u v : Th) : Tryz.prog.built 165 [(0, .pointer u), (1, .pointer v)] = some #[.pointer u, .pointer v] := by kernel_rfl

set_option maxHeartbeats 1600000 in
theorem copy142_row {w : World} {k : Nat} {f : Nat → Option Th} {fp : List Nat} {g : Nat} {fq : List Nat} (h : KdR w k (kindOf (cntF f)) f fp true g fq) :
    Calls Tryz.prog 142 #[.pointer (some ⟨k, 0, none⟩)] w fun e w' => FreshK w w' f e := by
  have hnot : ∀ (x : Bool) (w : World), (Op.unary .not (.bool x)).run Tryz.prog w = .ok (.bool (!x)) w := fun _ _ => rfl
  have c0 := h.row0
  have c1 := h.row1
  have hkw := h.fp_lt k (by rw [h.fps]; simp)
  have H := Lib.hid h
  clear h
  have HC : Hid (∀ W', Below w.heap.size w W' → Calls Tryz.prog 165 #[.pointer (some ⟨g, 0, none⟩)] W' fun e w' => e = .returned (.pointer (some ⟨W'.heap.size, 0, none⟩)) ∧ SmE w' W'.heap.size (kindOf (cntF f)) f ∧ Below W'.heap.size W' w') :=
    fun W' hB => copy46 g _ f W' (H.out.hold.1.step hB)
  have K0 : Hid (∀ W' : World, Below w.heap.size w W' → W'.cell? ⟨k, 0, none⟩ = some (.pointer (some ⟨g, 0, none⟩)) ∧ W'.cell? ⟨k, 1, none⟩ = some (.pointer none)) :=
    fun W' hB => ⟨(hB.cell (p := ⟨k, 0, none⟩) hkw).trans c0, (hB.cell (p := ⟨k, 1, none⟩) hkw).trans c1⟩
  go_enter Tryz.func142, Tryz.ntmps142
  go_wp2_with fail
  refine (ok87 ⟨_, _, _, H.out⟩).mono ?_; rintro e w2 ⟨rfl, hw2⟩
  rw [hw2]; clear hw2 w2
  go_wp2_with fail
  go_region_held3 (fun W' : World => W'.cell? ⟨k, 0, none⟩ = some (.pointer (some ⟨g, 0, none⟩)) ∧ W'.cell? ⟨k, 1, none⟩ = some (.pointer none) ∧ Below w.heap.size w W')
    (first
      | exact ⟨c0, c1, (Below.refl _ _).drew⟩
      | exact ⟨(K0.out _ X).1, (K0.out _ X).2, X⟩
      | exact ⟨(K0.out _ (X.alloc X.size _)).1, (K0.out _ (X.alloc X.size _)).2, X.alloc X.size _⟩)
    (first
      | (go_at_call 165
         refine (HC.out _ (‹_ ∧ _ ∧ Below w.heap.size w _›).2.2).mono ?_
         rintro e w1 ⟨rfl, hs1, hb1⟩
         have X := Below.step (‹_ ∧ _ ∧ Below w.heap.size w _›).2.2 hb1)
      | (go_at_call 166
         refine (copy15_nil _).mono ?_
         rintro e w1 ⟨rfl, rfl⟩))
  have HS := Lib.hid hs1
  have HX := Lib.hid X
  have hsz := hb1.size
  have hne : w.heap.size < w1.heap.size := by
    have := HS.out.lt
    exact this
  clear hs1 hb1 X
  go_wp2_with fail
  go_ret
  refine ⟨w1.heap.size, [w1.heap.size, w.heap.size], rfl, ⟨true, w.heap.size, [w.heap.size], ⟨heap_alloc_new _ _, ⟨HS.out.same (Below.heap_alloc _ _ _ hne), rfl, H.out.hold.2.2⟩, by simp; omega, rfl, H.out.far, H.out.fits⟩⟩, fun j hj => ?_, HX.out.alloc HX.out.size _⟩
  simp at hj
  rcases hj with rfl | rfl
  · omega
  · exact Nat.le_refl _

set_option maxHeartbeats 1600000 in
theorem copy142_brd {w : World} {k : Nat} {f : Nat → Option Th} {fp : List Nat} {g : Nat} {fq : List Nat} (h : KdR w k (kindOf (cntF f)) f fp false g fq) :
    Calls Tryz.prog 142 #[.pointer (some ⟨k, 0, none⟩)] w fun e w' => FreshK w w' f e := by
  have hnot : ∀ (x : Bool) (w : World), (Op.unary .not (.bool x)).run Tryz.prog w = .ok (.bool (!x)) w := fun _ _ => rfl
  have c0 := h.brd0
  have c1 := h.brd1
  have hkw := h.fp_lt k (by rw [h.fps]; simp)
  have H := Lib.hid h
  clear h
  have HC : Hid (∀ W', Below w.heap.size w W' → Calls Tryz.prog 166 #[.pointer (some ⟨g, 0, none⟩)] W' fun e w' => e = .returned (.pointer (some ⟨W'.heap.size, 0, none⟩)) ∧ Below W'.heap.size W' w' ∧ ∃ U fp', BdE w' 0 W'.heap.size (kindOf (cntF f)) f U fp' ∧ ∀ k ∈ fp', W'.heap.size ≤ k) :=
    fun W' hB => by
      obtain ⟨U, hbd⟩ := H.out.hold.1
      exact (copyE (hbd.keep (S := []) (Exc.ofBelow hB []) (by simp)) (Nat.zero_le _)).mono fun e w' ⟨h1, h2, fp', h3, h4⟩ => ⟨h1, h2, U, fp', h3, h4⟩
  have HR : Hid (∀ W' : World, Calls Tryz.prog 165 #[.pointer none] W' fun e w' => e = .returned (.pointer none) ∧ w' = W') := fun W' => copy46_no (.pointer none) W' (Or.inl rfl)
  have K0 : Hid (∀ W' : World, Below w.heap.size w W' → W'.cell? ⟨k, 0, none⟩ = some (.pointer none) ∧ W'.cell? ⟨k, 1, none⟩ = some (.pointer (some ⟨g, 0, none⟩))) :=
    fun W' hB => ⟨(hB.cell (p := ⟨k, 0, none⟩) hkw).trans c0, (hB.cell (p := ⟨k, 1, none⟩) hkw).trans c1⟩
  go_enter Tryz.func142, Tryz.ntmps142
  go_wp2_with fail
  refine (ok87 ⟨_, _, _, H.out⟩).mono ?_; rintro e w2 ⟨rfl, hw2⟩
  rw [hw2]; clear hw2 w2
  go_wp2_with fail
  go_region_held3 (fun W' : World => W'.cell? ⟨k, 0, none⟩ = some (.pointer none) ∧ W'.cell? ⟨k, 1, none⟩ = some (.pointer (some ⟨g, 0, none⟩)) ∧ Below w.heap.size w W')
    (first
      | exact ⟨c0, c1, (Below.refl _ _).drew⟩
      | exact ⟨(K0.out _ X).1, (K0.out _ X).2, X⟩
      | exact ⟨(K0.out _ (X.alloc X.size _)).1, (K0.out _ (X.alloc X.size _)).2, X.alloc X.size _⟩)
    (first
      | (go_at_call 166
         refine (HC.out _ (‹_ ∧ _ ∧ Below w.heap.size w _›).2.2).mono ?_
         rintro e w1 ⟨rfl, hb1, U, fq', hs1, hn1⟩
         have X := Below.step (‹_ ∧ _ ∧ Below w.heap.size w _›).2.2 hb1)
      | (go_at_call 165
         refine (HR.out _).mono ?_
         rintro e w1 ⟨rfl, rfl⟩))
  have HS := Lib.hid hs1
  have HN := Lib.hid hn1
  have HX := Lib.hid X
  clear hs1 hb1 X hn1
  go_wp2_with fail
  go_ret
  have hlt := fun j hj => (HS.out.fp_lt j hj).2
  refine ⟨w1.heap.size, w1.heap.size :: fq', rfl, ⟨false, w.heap.size, fq', ⟨heap_alloc_new _ _, Hold.same (w := w1) (r := false) ⟨⟨U, HS.out⟩, H.out.hold.2⟩ (fun j hj => Below.heap_alloc _ _ _ (hlt j hj)), fun hin => by have := hlt _ hin; omega, rfl, H.out.far, H.out.fits⟩⟩, fun j hj => ?_, HX.out.alloc HX.out.size _⟩
  rcases List.mem_cons.1 hj with rfl | hj
  · exact HX.out.size
  · exact HN.out j hj

theorem copy142 {w : World} {k : Nat} {f : Nat → Option Th} {fp : List Nat} (h : KdE w k f fp) :
    Calls Tryz.prog 142 #[.pointer (some ⟨k, 0, none⟩)] w fun e w' => FreshK w w' f e := by
  obtain ⟨r, g, fq, h⟩ := h
  cases r with
  | true => exact copy142_row h
  | false => exact copy142_brd h
theorem copy142_nil (w : World) : Calls Tryz.prog 142 #[.pointer none] w fun e w' => e = .returned (.pointer none) ∧ w' = w := by
  have HK := Lib.hid (ok87_nil w)
  have hnot : ∀ (x : Bool) (w : World), (Op.unary .not (.bool x)).run Tryz.prog w = .ok (.bool (!x)) w := fun _ _ => rfl
  go_enter Tryz.func142, Tryz.ntmps142
  go_wp2_with fail
  refine HK.out.mono ?_; rintro e w' ⟨rfl, rfl⟩
  go_wp2_with fail
  go_ret
  exact ⟨rfl, rfl⟩

end Go.Proofs.YtbihlmkjoplkoaaGreatDoor
