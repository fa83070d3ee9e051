/-
  The board: what is found by Get, Next, Prev.
-/
import Derived.Test.YthohpeinmkdfeaaWide
namespace Go.Proofs.Ythohpeinmkdfeaa
open Go.RowKit
set_option linter.unusedVariables false

/-- what Get tells -/
def valO (o : Option Int) : Int := o.getD 0

theorem getBd {w : World} {base g room : Nat} {A : Nat → Nat} {X : List Int} {F : List Nat} {px : Option Addr} {cx : Nat} {pf : Option Addr} {cf : Nat} (h : Bd w base g room A X F px cx pf cf) (b : Nat) (hb : b < 256) :
    Calls Try.prog 16 #[.pointer (some ⟨g, 0, none⟩), .int .u8 b] w fun e w' => e = .returned (.tuple #[.int .i64 (valO (heldA A X b)), .bool (heldA A X b).isSome]) ∧ ∃ z, w' = w.drewN z := by
  by_cases h0 : A b = 0
  · have : heldA A X b = none := by unfold heldA; rw [if_pos h0]
    rw [this]
    exact (get16_no g room _ b A _ _ w h.blk h.rooms.1 hb h0).mono fun e w' ⟨he, hw⟩ => ⟨he, 0, hw⟩
  · have e1 : heldA A X b = some (X.getD (A b - 1) 0) := by unfold heldA; rw [if_neg h0]
    rw [e1]
    have hle := h.plc.le b hb
    have hm := h.plc.most
    rcases h.ownX.2 with ⟨e, e2⟩ | ⟨bx, cap, cur, e, _⟩
    · omega
    · cases e
      have hc := h.ownX.cellAt (A b - 1) (by omega)
      rw [List.getElem?_map] at hc
      have hx : X[A b - 1]? = some (X.getD (A b - 1) 0) := by
        rw [List.getD_eq_getElem?_getD, List.getElem?_eq_getElem (by omega)]; rfl
      rw [hx] at hc
      exact get16_yes g room _ b (A b - 1) X.length cx bx (X.getD (A b - 1) 0) A _ w h.blk h.rooms.1 hb (by omega) (by omega) hm hc

theorem Bc.drewN {w : World} {g R N : Nat} {A : Nat → Nat} {vx vf : Value} (h : Bc w g R N A vx vf) (z : Nat) : Bc (w.drewN z) g R N A vx vf := h
theorem Bd.drewN {w : World} {base g room : Nat} {A : Nat → Nat} {X : List Int} {F : List Nat} {px : Option Addr} {cx : Nat} {pf : Option Addr} {cf : Nat} (h : Bd w base g room A X F px cx pf cf) (z : Nat) : Bd (w.drewN z) base g room A X F px cx pf cf :=
  ⟨h.blk, h.ownX, h.ownF, h.plc, h.base, h.apX, h.apF, h.apart, h.rooms⟩

/-- a byte, what is held there, whether something is -/
structure Tri where
  b : Nat
  x : Int
  ok : Bool

/-- what Next and Prev tell of what is held -/
def NextR (f : Nat → Option Int) (s : Int) (r : Tri) : Prop :=
  (∃ (b : Nat) (x : Int), b < 256 ∧ s ≤ b ∧ f b = some x ∧ (∀ c : Nat, c < b → s ≤ c → f c = none) ∧ r = ⟨b, x, true⟩) ∨ ((∀ c : Nat, c < 256 → s ≤ c → f c = none) ∧ r = ⟨0, 0, false⟩)
def PrevR (f : Nat → Option Int) (s : Int) (r : Tri) : Prop :=
  (∃ (b : Nat) (x : Int), b < 256 ∧ (b : Int) ≤ s ∧ f b = some x ∧ (∀ c : Nat, b < c → c < 256 → (c : Int) ≤ s → f c = none) ∧ r = ⟨b, x, true⟩) ∨ ((∀ c : Nat, c < 256 → (c : Int) ≤ s → f c = none) ∧ r = ⟨0, 0, false⟩)

theorem NextR.det {f : Nat → Option Int} {s : Int} {r r' : Tri} (h : NextR f s r) (h' : NextR f s r') : r = r' := by
  rcases h with ⟨b, x, h1, h2, h3, h4, rfl⟩ | ⟨h1, rfl⟩
  · rcases h' with ⟨c, y, k1, k2, k3, k4, rfl⟩ | ⟨k1, rfl⟩
    · have : b = c := by
        rcases Nat.lt_trichotomy b c with h | h | h
        · have := k4 b h h2; rw [h3] at this; cases this
        · exact h
        · have := h4 c h k2; rw [k3] at this; cases this
      subst this
      rw [h3] at k3; cases k3; rfl
    · have := k1 b h1 h2; rw [h3] at this; cases this
  · rcases h' with ⟨c, y, k1, k2, k3, k4, rfl⟩ | ⟨k1, rfl⟩
    · have := h1 c k1 k2; rw [k3] at this; cases this
    · rfl
theorem PrevR.det {f : Nat → Option Int} {s : Int} {r r' : Tri} (h : PrevR f s r) (h' : PrevR f s r') : r = r' := by
  rcases h with ⟨b, x, h1, h2, h3, h4, rfl⟩ | ⟨h1, rfl⟩
  · rcases h' with ⟨c, y, k1, k2, k3, k4, rfl⟩ | ⟨k1, rfl⟩
    · have : b = c := by
        rcases Nat.lt_trichotomy b c with h | h | h
        · have := h4 c h k1 k2; rw [k3] at this; cases this
        · exact h
        · have := k4 b h h1 h2; rw [h3] at this; cases this
      subst this
      rw [h3] at k3; cases k3; rfl
    · have := k1 b h1 h2; rw [h3] at this; cases this
  · rcases h' with ⟨c, y, k1, k2, k3, k4, rfl⟩ | ⟨k1, rfl⟩
    · have := h1 c k1 k2; rw [k3] at this; cases this
    · rfl

/-- three results -/
def tri (r : Tri) : Value := .tuple #[.int .u8 r.b, .int .i64 r.x, .bool r.ok]

set_option maxRecDepth 100000 in
set_option maxHeartbeats 800000 in
theorem next32_loop (g : Nat) (from' s : Int) (f : Nat → Option Int) (w : World) (hs : 0 ≤ s) (hmax : max from' 0 = s)
    (HK : Hid (∀ z, Calls Try.prog 52 #[.pointer (some ⟨g, 0, none⟩)] (w.drewN z) fun e w' => e = .returned (.bool true) ∧ w' = w.drewN z))
    (HG : Hid (∀ (b z : Nat), b < 256 → Calls Try.prog 16 #[.pointer (some ⟨g, 0, none⟩), .int .u8 b] (w.drewN z) fun e w' => e = .returned (.tuple #[.int .i64 (valO (f b)), .bool (f b).isSome]) ∧ ∃ y, w' = (w.drewN z).drewN y)) :
    Calls Try.prog 32 #[.pointer (some ⟨g, 0, none⟩), .int .i64 from'] w fun e w' => ∃ r, NextR f s r ∧ e = .returned (tri r) ∧ ∃ z, w' = w.drewN z := by
  go_enter Try.func32, Try.ntmps32
  go_wp2_with fail
  refine (HK.out 0).mono ?_; rintro e w' ⟨rfl, hw'⟩
  rw [show w' = w from hw']; clear hw' w'
  go_wp2_with fail
  all_goals
    go_loopw [7] (fun t wr => ∃ (i : Int) (z : Nat), t = .int .i64 i ∧ s ≤ i ∧ (i ≤ 256 ∨ i = s) ∧ Hid (∀ c : Nat, s ≤ c → (c : Int) < i → f c = none) ∧ wr = w.drewN z) (fun t _ => (256 - intOf t).toNat)
    case atStart => exact ⟨s, 0, vint (by omega), by omega, by omega, (fun c h1 h2 => by omega), rfl⟩
    case round =>
      obtain ⟨i, z, rfl, hi, hi2, hno, rfl⟩ := hrel
      by_cases hlt : i < 256
      · obtain ⟨b, rfl⟩ := Int.eq_ofNat_of_zero_le (show 0 ≤ i by omega)
        have d0 : decide ((b : Int) < 256) = true := by simp; omega
        have q0 : IntKind.u8.wrap (b : Int) = (b : Int) := IntWalk.u8_in _ (by omega)
        have hb : b < 256 := by omega
        have q1 : IntKind.i64.wrap ((b : Int) + 1) = (b : Int) + 1 := IntWalk.i64_in _ (by omega)
        cases hf : f b with
        | none =>
          have HGb := Lib.hid (HG.out b z hb)
          rw [hf] at HGb
          have HF := Lib.hid hf
          clear hf
          go_wp2_with fail
          refine HGb.out.mono ?_; rintro e w' ⟨rfl, y, hw'⟩
          rw [World.drewN_drewN] at hw'
          rw [hw']; clear hw' w'
          simp only [Option.isSome, valO, Option.getD]
          go_wp2_with fail
          go_roundw
          case rel => exact ⟨(b : Int) + 1, z + y, rfl, by omega, by omega, (fun c h1 h2 => by
            by_cases e : c = b
            · subst e; exact HF.out
            · exact hno.out c h1 (by omega)), rfl⟩
          case measure => simp [intOf]; omega
        | some x =>
          have HGb := Lib.hid (HG.out b z hb)
          rw [hf] at HGb
          have HF := Lib.hid hf
          clear hf
          go_wp2_with fail
          refine HGb.out.mono ?_; rintro e w' ⟨rfl, y, hw'⟩
          rw [World.drewN_drewN] at hw'
          rw [hw']; clear hw' w'
          simp only [Option.isSome, valO, Option.getD]
          go_wp2_with fail
          go_ret3
          exact ⟨⟨b, x, true⟩, Or.inl ⟨b, x, hb, hi, HF.out, fun c h1 h2 => hno.out c h2 (by omega), rfl⟩, rfl, _, rfl⟩
      · have d0 : decide (i < 256) = false := by simp; omega
        go_wp2_with fail
        go_ret3
        exact ⟨⟨0, 0, false⟩, Or.inr ⟨fun c h1 h2 => hno.out c h2 (by omega), rfl⟩, rfl, _, rfl⟩

set_option maxRecDepth 100000 in
set_option maxHeartbeats 800000 in
theorem prev33_loop (g : Nat) (from' s : Int) (f : Nat → Option Int) (w : World) (hs : s ≤ 255) (hmax : min from' 255 = s)
    (HK : Hid (∀ z, Calls Try.prog 52 #[.pointer (some ⟨g, 0, none⟩)] (w.drewN z) fun e w' => e = .returned (.bool true) ∧ w' = w.drewN z))
    (HG : Hid (∀ (b z : Nat), b < 256 → Calls Try.prog 16 #[.pointer (some ⟨g, 0, none⟩), .int .u8 b] (w.drewN z) fun e w' => e = .returned (.tuple #[.int .i64 (valO (f b)), .bool (f b).isSome]) ∧ ∃ y, w' = (w.drewN z).drewN y)) :
    Calls Try.prog 33 #[.pointer (some ⟨g, 0, none⟩), .int .i64 from'] w fun e w' => ∃ r, PrevR f s r ∧ e = .returned (tri r) ∧ ∃ z, w' = w.drewN z := by
  go_enter Try.func33, Try.ntmps33
  go_wp2_with fail
  refine (HK.out 0).mono ?_; rintro e w' ⟨rfl, hw'⟩
  rw [show w' = w from hw']; clear hw' w'
  go_wp2_with fail
  all_goals
    go_loopw [7] (fun t wr => ∃ (i : Int) (z : Nat), t = .int .i64 i ∧ i ≤ s ∧ (-1 ≤ i ∨ i = s) ∧ Hid (∀ c : Nat, (c : Int) ≤ s → i < (c : Int) → f c = none) ∧ wr = w.drewN z) (fun t _ => (intOf t + 1).toNat)
    case atStart => exact ⟨s, 0, vint (by omega), by omega, by omega, (fun c h1 h2 => by omega), rfl⟩
    case round =>
      obtain ⟨i, z, rfl, hi, hi2, hno, rfl⟩ := hrel
      by_cases hlt : 0 ≤ i
      · obtain ⟨b, rfl⟩ := Int.eq_ofNat_of_zero_le hlt
        have d0 : decide ((0 : Int) ≤ (b : Int)) = true := by simp
        have q0 : IntKind.u8.wrap (b : Int) = (b : Int) := IntWalk.u8_in _ (by omega)
        have hb : b < 256 := by omega
        have q1 : IntKind.i64.wrap ((b : Int) - 1) = (b : Int) - 1 := IntWalk.i64_in _ (by omega)
        cases hf : f b with
        | none =>
          have HGb := Lib.hid (HG.out b z hb)
          rw [hf] at HGb
          have HF := Lib.hid hf
          clear hf
          go_wp2_with fail
          refine HGb.out.mono ?_; rintro e w' ⟨rfl, y, hw'⟩
          rw [World.drewN_drewN] at hw'
          rw [hw']; clear hw' w'
          simp only [Option.isSome, valO, Option.getD]
          go_wp2_with fail
          go_roundw
          case rel => exact ⟨(b : Int) - 1, z + y, rfl, by omega, by omega, (fun c h1 h2 => by
            by_cases e : c = b
            · subst e; exact HF.out
            · exact hno.out c h1 (by omega)), rfl⟩
          case measure => simp [intOf]
        | some x =>
          have HGb := Lib.hid (HG.out b z hb)
          rw [hf] at HGb
          have HF := Lib.hid hf
          clear hf
          go_wp2_with fail
          refine HGb.out.mono ?_; rintro e w' ⟨rfl, y, hw'⟩
          rw [World.drewN_drewN] at hw'
          rw [hw']; clear hw' w'
          simp only [Option.isSome, valO, Option.getD]
          go_wp2_with fail
          go_ret3
          exact ⟨⟨b, x, true⟩, Or.inl ⟨b, x, hb, hi, HF.out, fun c h1 h2 h3 => hno.out c h3 (by omega), rfl⟩, rfl, _, rfl⟩
      · have d0 : decide (0 ≤ i) = false := by simp; omega
        go_wp2_with fail
        go_ret3
        exact ⟨⟨0, 0, false⟩, Or.inr ⟨fun c h1 h2 => hno.out c h2 (by omega), rfl⟩, rfl, _, rfl⟩

theorem okBd {w : World} {base g room : Nat} {A : Nat → Nat} {X : List Int} {F : List Nat} {px : Option Addr} {cx : Nat} {pf : Option Addr} {cf : Nat} (h : Bd w base g room A X F px cx pf cf) :
    Calls Try.prog 52 #[.pointer (some ⟨g, 0, none⟩)] w fun e w' => e = .returned (.bool true) ∧ w' = w := ok52 g room w h.blk.vRoom.cell h.rooms.1

theorem nextBd {w : World} {base g room : Nat} {A : Nat → Nat} {X : List Int} {F : List Nat} {px : Option Addr} {cx : Nat} {pf : Option Addr} {cf : Nat} (h : Bd w base g room A X F px cx pf cf) (from' : Int) :
    Calls Try.prog 32 #[.pointer (some ⟨g, 0, none⟩), .int .i64 from'] w fun e w' => ∃ r, NextR (heldA A X) (max from' 0) r ∧ e = .returned (tri r) ∧ ∃ z, w' = w.drewN z :=
  next32_loop g from' _ (heldA A X) w (by omega) rfl (fun z => okBd (h.drewN z)) (fun b z hb => getBd (h.drewN z) b hb)

theorem prevBd {w : World} {base g room : Nat} {A : Nat → Nat} {X : List Int} {F : List Nat} {px : Option Addr} {cx : Nat} {pf : Option Addr} {cf : Nat} (h : Bd w base g room A X F px cx pf cf) (from' : Int) :
    Calls Try.prog 33 #[.pointer (some ⟨g, 0, none⟩), .int .i64 from'] w fun e w' => ∃ r, PrevR (heldA A X) (min from' 255) r ∧ e = .returned (tri r) ∧ ∃ z, w' = w.drewN z :=
  prev33_loop g from' _ (heldA A X) w (by omega) rfl (fun z => okBd (h.drewN z)) (fun b z hb => getBd (h.drewN z) b hb)

theorem next32_nobd (v : Value) (from' : Int) (w : World) (h : NoBd w v) : Calls Try.prog 32 #[v, .int .i64 from'] w fun e w' => e = .returned (tri ⟨0, 0, false⟩) ∧ w' = w := by
  have H := Lib.hid (ok52_no v w h)
  clear h
  go_enter Try.func32, Try.ntmps32
  go_wp2_with fail
  refine H.out.mono ?_; rintro e w' ⟨rfl, rfl⟩
  go_wp2_with fail
  go_ret3
  exact ⟨rfl, rfl⟩

theorem prev33_nobd (v : Value) (from' : Int) (w : World) (h : NoBd w v) : Calls Try.prog 33 #[v, .int .i64 from'] w fun e w' => e = .returned (tri ⟨0, 0, false⟩) ∧ w' = w := by
  have H := Lib.hid (ok52_no v w h)
  clear h
  go_enter Try.func33, Try.ntmps33
  go_wp2_with fail
  refine H.out.mono ?_; rintro e w' ⟨rfl, rfl⟩
  go_wp2_with fail
  go_ret3
  exact ⟨rfl, rfl⟩

end Go.Proofs.Ythohpeinmkdfeaa
