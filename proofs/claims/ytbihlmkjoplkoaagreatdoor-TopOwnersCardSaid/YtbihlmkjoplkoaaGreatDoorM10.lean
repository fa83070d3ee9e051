/-
  For the statement TopOwners: The small row: Set.
-/
import Derived.Test.YtbihlmkjoplkoaaGreatDoorM09
import Derived.Deep.RegionHeld3
namespace Go.Proofs.YtbihlmkjoplkoaaGreatDoor
open Go.RowKit
set_option linter.unusedVariables false

theorem Sm.drewN {w : World} {g : Nat} {room : Int} {n : Nat} {B : Nat → Nat} {X : Nat → Th} (h : Sm w g room n B X) (z : Nat) : Sm (w.drewN z) g room n B X := ⟨h.heap⟩

theorem src_b {w : World} {g : Nat} {room : Int} {n : Nat} {B : Nat → Nat} {X : Nat → Th} (h : Sm w g room n B X) (i m : Nat) (hi : i + m ≤ 16) : ∀ (j : Nat) (v : Value), (byteL B i m)[j]? = some v → w.cell? ((⟨g, 2 + i, none⟩ : Addr).add j) = some v := by
  intro j v hv
  have hj : j < m := by
    have := (List.getElem?_eq_some_iff.1 hv).1
    rwa [byteL_len] at this
  rw [byteL_get _ _ _ _ hj] at hv
  cases hv
  rw [Addr.add_mid, show 2 + i + j = 2 + (i + j) by omega]
  exact h.vB (i + j) (by omega)
theorem src_x {w : World} {g : Nat} {room : Int} {n : Nat} {B : Nat → Nat} {X : Nat → Th} (h : Sm w g room n B X) (i m : Nat) (hi : i + m ≤ 16) : ∀ (j : Nat) (v : Value), (thingL X i m)[j]? = some v → w.cell? ((⟨g, 18 + i, none⟩ : Addr).add j) = some v := by
  intro j v hv
  have hj : j < m := by
    have := (List.getElem?_eq_some_iff.1 hv).1
    rwa [thingL_len] at this
  rw [thingL_get _ _ _ _ hj] at hv
  cases hv
  rw [Addr.add_mid, show 18 + i + j = 18 + (i + j) by omega]
  exact h.vX (i + j) (by omega)

theorem Exc.drew {S : List Nat} {a b : World} (h : Exc S a b) : Exc S a b.drew := ⟨h.os, h.tape, h.output, h.size, h.block⟩
theorem Exc.over {S : List Nat} {a b c : World} {z : Nat} (h : Exc S a b) (k : Exc S (b.drewN z).drew c) : Exc S a c := h.trans ⟨k.os, k.tape, k.output, k.size, k.block⟩
theorem Exc.over1 {S : List Nat} {a b c : World} (h : Exc S a b) (k : Exc S b.drew c) : Exc S a c := h.trans ⟨k.os, k.tape, k.output, k.size, k.block⟩

theorem copyT109 : (Tryz.prog.info? 5).map (·.size) = some 1 := by kernel_rfl
theorem copyT80 : (Tryz.prog.info? 48).map (·.size) = some 1 := by kernel_rfl

section
variable {ops : Array Oper} {o : Oper} {a : Act} {w : World} {K : Act → World → Prop} {Q : Exit → Act → World → Prop} {E : Prop}

theorem step_upB (hgd : o.guard = none) (d s : Operand) (ho : o.op = .call { callee := .builtin .copy, args := #[d, s], argTypes := #[41, 41] }) {g n i : Nat} {room : Int} {B : Nat → Nat} {X : Nat → Th} (hS : Sm w g room n B X) (hi : i ≤ n) (hn : n < 16)
    (dp : Option Addr) (dLen dCap sLen sCap : Nat) (hd : a.eval d = .slice dp dLen dCap) (hs : a.eval s = .slice (some ⟨g, 2 + i, none⟩) sLen sCap) (hl : sLen = n - i ∧ n - i ≤ dLen) (hdp : i < n → dp = some ⟨g, 2 + (i + 1), none⟩)
    (h : ∀ w', Sm w' g room n (shU B i n) X → Exc [g] w w' → K (a.put o.dst (goInt ((n - i : Nat)))) w') : if Region.wanted o (yielded ops a.tmps) = true then Oper.wp Tryz.prog o a w K Q else E := by
  refine step_copy_row hgd d s 41 41 ho 5 Tryz.underlying41 copyT109 dp ⟨g, 2 + i, none⟩ dLen dCap sLen sCap hd hs g (2 + (i + 1)) (rowL room n B X) 196 hS.heap (byteL B i (n - i)) ?_ ?_ (src_b hS i (n - i) (by omega)) (by rw [byteL_len, rowL_len]; omega) (byteL_one _ _ _) ?_
  · rw [byteL_len]; show n - i = min _ _; omega
  · intro hp; rw [byteL_len] at hp; exact hdp (by omega)
  · intro w' h1 h2
    rw [laid_bU _ _ _ _ _ hi hn] at h1
    rw [byteL_len]
    exact h w' ⟨h1⟩ h2
theorem step_upX (hgd : o.guard = none) (d s : Operand) (ho : o.op = .call { callee := .builtin .copy, args := #[d, s], argTypes := #[199, 199] }) {g n i : Nat} {room : Int} {B : Nat → Nat} {X : Nat → Th} (hS : Sm w g room n B X) (hi : i ≤ n) (hn : n < 16)
    (dp : Option Addr) (dLen dCap sLen sCap : Nat) (hd : a.eval d = .slice dp dLen dCap) (hs : a.eval s = .slice (some ⟨g, 18 + i, none⟩) sLen sCap) (hl : sLen = n - i ∧ n - i ≤ dLen) (hdp : i < n → dp = some ⟨g, 18 + (i + 1), none⟩)
    (h : ∀ w', Sm w' g room n B (shU X i n) → Exc [g] w w' → K (a.put o.dst (goInt ((n - i : Nat)))) w') : if Region.wanted o (yielded ops a.tmps) = true then Oper.wp Tryz.prog o a w K Q else E := by
  refine step_copy_row hgd d s 199 199 ho 48 Tryz.underlying199 copyT80 dp ⟨g, 18 + i, none⟩ dLen dCap sLen sCap hd hs g (18 + (i + 1)) (rowL room n B X) 196 hS.heap (thingL X i (n - i)) ?_ ?_ (src_x hS i (n - i) (by omega)) (by rw [thingL_len, rowL_len]; omega) (thingL_one _ _ _) ?_
  · rw [thingL_len]; show n - i = min _ _; omega
  · intro hp; rw [thingL_len] at hp; exact hdp (by omega)
  · intro w' h1 h2
    rw [laid_xU _ _ _ _ _ hi hn] at h1
    rw [thingL_len]
    exact h w' ⟨h1⟩ h2
theorem step_downB (hgd : o.guard = none) (d s : Operand) (ho : o.op = .call { callee := .builtin .copy, args := #[d, s], argTypes := #[41, 41] }) {g n i : Nat} {room : Int} {B : Nat → Nat} {X : Nat → Th} (hS : Sm w g room n B X) (hi : i < n) (hn : n ≤ 16)
    (sp : Addr) (dLen dCap sLen sCap : Nat) (hd : a.eval d = .slice (some ⟨g, 2 + i, none⟩) dLen dCap) (hs : a.eval s = .slice (some sp) sLen sCap) (hl : sLen = n - (i + 1) ∧ n - (i + 1) ≤ dLen) (hsp : i + 1 < n → sp = ⟨g, 2 + (i + 1), none⟩)
    (h : ∀ w', Sm w' g room n (shD B i n) X → Exc [g] w w' → K (a.put o.dst (goInt ((n - (i + 1) : Nat)))) w') : if Region.wanted o (yielded ops a.tmps) = true then Oper.wp Tryz.prog o a w K Q else E := by
  refine step_copy_row hgd d s 41 41 ho 5 Tryz.underlying41 copyT109 _ sp dLen dCap sLen sCap hd hs g (2 + i) (rowL room n B X) 196 hS.heap (byteL B (i + 1) (n - (i + 1))) ?_ (fun _ => rfl) ?_ (by rw [byteL_len, rowL_len]; omega) (byteL_one _ _ _) ?_
  · rw [byteL_len]; show n - (i + 1) = min _ _; omega
  · intro j v hv
    have hj := (List.getElem?_eq_some_iff.1 hv).1
    rw [byteL_len] at hj
    obtain rfl := hsp (by omega)
    exact src_b hS (i + 1) (n - (i + 1)) (by omega) j v hv
  · intro w' h1 h2
    rw [laid_bD _ _ _ _ _ hi hn] at h1
    rw [byteL_len]
    exact h w' ⟨h1⟩ h2
theorem step_downX (hgd : o.guard = none) (d s : Operand) (ho : o.op = .call { callee := .builtin .copy, args := #[d, s], argTypes := #[199, 199] }) {g n i : Nat} {room : Int} {B : Nat → Nat} {X : Nat → Th} (hS : Sm w g room n B X) (hi : i < n) (hn : n ≤ 16)
    (sp : Addr) (dLen dCap sLen sCap : Nat) (hd : a.eval d = .slice (some ⟨g, 18 + i, none⟩) dLen dCap) (hs : a.eval s = .slice (some sp) sLen sCap) (hl : sLen = n - (i + 1) ∧ n - (i + 1) ≤ dLen) (hsp : i + 1 < n → sp = ⟨g, 18 + (i + 1), none⟩)
    (h : ∀ w', Sm w' g room n B (shD X i n) → Exc [g] w w' → K (a.put o.dst (goInt ((n - (i + 1) : Nat)))) w') : if Region.wanted o (yielded ops a.tmps) = true then Oper.wp Tryz.prog o a w K Q else E := by
  refine step_copy_row hgd d s 199 199 ho 48 Tryz.underlying199 copyT80 _ sp dLen dCap sLen sCap hd hs g (18 + i) (rowL room n B X) 196 hS.heap (thingL X (i + 1) (n - (i + 1))) ?_ (fun _ => rfl) ?_ (by rw [thingL_len, rowL_len]; omega) (thingL_one _ _ _) ?_
  · rw [thingL_len]; show n - (i + 1) = min _ _; omega
  · intro j v hv
    have hj := (List.getElem?_eq_some_iff.1 hv).1
    rw [thingL_len] at hj
    obtain rfl := hsp (by omega)
    exact src_x hS (i + 1) (n - (i + 1)) (by omega) j v hv
  · intro w' h1 h2
    rw [laid_xD _ _ _ _ _ hi hn] at h1
    rw [thingL_len]
    exact h w' ⟨h1⟩ h2
end

set_option maxHeartbeats 800000 in
theorem set44_old (g n b i : Nat) (room : Nat) (B : Nat → Nat) (X : Nat → Th) (x : Th) (w : World) (h : Sm w g room n B X) (hn : n ≤ 16) (h0 : 0 < room) (hs : Srt n B) (ha : AtP n B b i true) :
    Calls Tryz.prog 158 #[.pointer (some ⟨g, 0, none⟩), .int .u8 b, .pointer x] w fun e w' => e = .returned (.int .i64 0) ∧ Sm w' g room n B (updX X i x) ∧ Exc [g] w w' := by
  have H := Lib.hid (ok66 g room w h.vRoom (by omega))
  have HP := Lib.hid (place67 g n b i true room B X w h hn hs ha)
  have hnot : ∀ (x : Bool) (w : World), (Op.unary .not (.bool x)).run Tryz.prog w = .ok (.bool (!x)) w := fun _ _ => rfl
  obtain ⟨hi, _⟩ := ha.is.1 rfl
  have b0 : (0 : Int) ≤ (i : Int) := by omega
  have b1 : (i : Int) < 16 := by omega
  have hx := h.vX i (by omega)
  have hz := h.free (18 + i)
  have HS := Lib.hid h
  have hi16 : i < 16 := by omega
  clear h ha hs
  go_enter Tryz.func158, Tryz.ntmps158
  go_wp2_with fail
  refine H.out.mono ?_; rintro e w' ⟨rfl, hw'⟩
  rw [hw']; clear hw' w'
  go_wp2_with fail
  refine HP.out.mono ?_; rintro e w' ⟨rfl, z, hw'⟩
  rw [hw']; clear hw' w'
  go_wp2_with fail
  go_ret
  exact ⟨rfl, (HS.out.drewN z).setX i hi16 x, ((Exc.refl _ _).drewN z).set (p := ⟨g, 18 + i, none⟩) (by simp) _⟩

set_option maxHeartbeats 800000 in
theorem set44_full (g n b i : Nat) (B : Nat → Nat) (X : Nat → Th) (x : Th) (w : World) (h : Sm w g n n B X) (hn : n ≤ 16) (h0 : 0 < n) (hs : Srt n B) (ha : AtP n B b i false) :
    Calls Tryz.prog 158 #[.pointer (some ⟨g, 0, none⟩), .int .u8 b, .pointer x] w fun e w' => e = .returned (.int .i64 10) ∧ ∃ z, w' = w.drewN z := by
  have H := Lib.hid (ok66 g n w h.vRoom (by omega))
  have HP := Lib.hid (place67 g n b i false n B X w h hn hs ha)
  have hnot : ∀ (x : Bool) (w : World), (Op.unary .not (.bool x)).run Tryz.prog w = .ok (.bool (!x)) w := fun _ _ => rfl
  have c0 := h.vRoom
  have c1 := h.vN
  clear h ha hs
  go_enter Tryz.func158, Tryz.ntmps158
  go_wp2_with fail
  refine H.out.mono ?_; rintro e w' ⟨rfl, hw'⟩
  rw [hw']; clear hw' w'
  go_wp2_with fail
  refine HP.out.mono ?_; rintro e w' ⟨rfl, z, hw'⟩
  rw [hw']; clear hw' w'
  go_wp2_with fail
  go_quiet (fail)
  go_wp2_with fail
  go_ret
  exact ⟨rfl, _, World.drewN_drewN _ _ _⟩

set_option maxRecDepth 100000 in
set_option maxHeartbeats 1600000 in
theorem set44_ins (g n b i room : Nat) (B : Nat → Nat) (X : Nat → Th) (x : Th) (w : World) (h : Sm w g room n B X) (hn : n < room) (h16 : room ≤ 16) (hs : Srt n B) (ha : AtP n B b i false) (h15 : ¬ i = 15) :
    Calls Tryz.prog 158 #[.pointer (some ⟨g, 0, none⟩), .int .u8 b, .pointer x] w fun e w' => e = .returned (.int .i64 0) ∧ Sm w' g room (n + 1) (updB (shU B i n) i b) (updX (shU X i n) i x) ∧ Exc [g] w w' := by
  have H := Lib.hid (ok66 g room w h.vRoom (by omega))
  have HP := Lib.hid (place67 g n b i false room B X w h (by omega) hs ha)
  have hnot : ∀ (x : Bool) (w : World), (Op.unary .not (.bool x)).run Tryz.prog w = .ok (.bool (!x)) w := fun _ _ => rfl
  have c0 := h.vRoom
  have c1 := h.vN
  have hin := ha.le
  have hn16 : n < 16 := by omega
  have hi16 : i < 16 := by omega
  have hi16' : ¬ (16 : Nat) = i := by omega
  have d0 : ((n : Int) == (room : Int)) = false := by simp; omega
  have b0 : (0 : Int) ≤ (i : Int) := by omega
  have b1 : (i : Int) ≤ (n : Int) := by omega
  have b2 : (n : Int) ≤ 16 := by omega
  have b3 : (0 : Int) ≤ (i : Int) + 1 := by omega
  have b4 : (i : Int) + 1 ≤ 16 := by omega
  have b5 : (i : Int) < 16 := by omega
  have q0 : IntKind.i64.wrap ((i : Int) + 1) = (i : Int) + 1 := IntWalk.i64_in _ (by omega)
  have q1 : IntKind.i64.wrap ((n : Int) + 1) = (n : Int) + 1 := IntWalk.i64_in _ (by omega)
  have HS := Lib.hid h
  clear h ha hs
  have HL : Hid (n - i ≤ 15 - i) := by show n - i ≤ 15 - i; omega
  go_enter Tryz.func158, Tryz.ntmps158
  go_wp2_with fail
  refine H.out.mono ?_; rintro e w' ⟨rfl, hw'⟩
  rw [hw']; clear hw' w'
  go_wp2_with fail
  refine HP.out.mono ?_; rintro e w1 ⟨rfl, z, hw1⟩
  have HS1 := Lib.hid (HS.out.drewN z)
  rw [← hw1] at HS1
  have HX1 : Hid (Exc [g] w w1) := by show Exc _ _ _; rw [hw1]; exact (Exc.refl _ _).drewN z
  clear hw1 c0 c1 H HP
  have c0 := HS1.out.vRoom
  have c1 := HS1.out.vN
  go_wp2_with fail
  go_quiet (fail)
  go_wp2_with fail
  go_region_held3 (fun W => W.cell? ⟨g, 1, none⟩ = some (.int .i64 n))
    (first
      | go_keep
      | exact c9)
    ((refine step_upB (by rfl) (.tmp 41) (.tmp 50) (by rfl) (Sm.mk HS1.out.heap) hin hn16 (some ⟨g, 2 + (i + 1), none⟩) (15 - i) (15 - i) (n - i) (16 - i) (by rfl) (by rfl) ⟨rfl, HL.out⟩ (fun _ => rfl) ?_; intro w2 S2 hx2; have c9 := S2.vN))
  have HS2 := Lib.hid S2
  have HX2 : Hid (Exc [g] w w2) := Exc.over HX1.out hx2
  clear hx2 S2 c0 c1 c9
  have c1 := HS2.out.vN
  go_wp2_with fail
  go_region_held3 (fun W => W.cell? ⟨g, 1, none⟩ = some (.int .i64 n))
    (first
      | go_keep
      | exact c9)
    ((refine step_upX (by rfl) (.tmp 57) (.tmp 66) (by rfl) (Sm.mk HS2.out.heap) hin hn16 (some ⟨g, 18 + (i + 1), none⟩) (15 - i) (15 - i) (n - i) (16 - i) (by rfl) (by rfl) ⟨rfl, HL.out⟩ (fun _ => rfl) ?_; intro w3 S3 hx3; have c9 := S3.vN))
  have HS3 := Lib.hid S3
  have HX3 : Hid (Exc [g] w w3) := Exc.over1 HX2.out hx3
  clear hx3 S3 c1 c9
  have c1 := HS3.out.vN
  have e1 := HS3.out.vB i hi16
  have e2 := HS3.out.vX i hi16
  have z1 := HS3.out.free 1
  have z2 := HS3.out.free (2 + i)
  have z3 := HS3.out.free (18 + i)
  go_wp2_with fail
  go_region_held3 (fun _ => True) (trivial) (fail)
  all_goals
    go_wp2_with fail
    go_ret
    first
    | exact ⟨rfl, ⟨(((HS3.out.setB i hi16 b).setX i hi16 x).setN (n + 1)).heap⟩, (((HX3.out.set (p := ⟨g, 2 + i, none⟩) (by simp) _).set (p := ⟨g, 18 + i, none⟩) (by simp) _).set (p := ⟨g, 1, none⟩) (by simp) _).drew⟩
    | exact ⟨rfl, ⟨(((HS3.out.setX i hi16 x).setB i hi16 b).setN (n + 1)).heap⟩, (((HX3.out.set (p := ⟨g, 18 + i, none⟩) (by simp) _).set (p := ⟨g, 2 + i, none⟩) (by simp) _).set (p := ⟨g, 1, none⟩) (by simp) _).drew⟩

set_option maxRecDepth 100000 in
set_option maxHeartbeats 1600000 in
theorem set44_ins15 (g b : Nat) (B : Nat → Nat) (X : Nat → Th) (x : Th) (w : World) (h : Sm w g 16 15 B X) (hn : 15 < 16) (h16 : 16 ≤ 16) (hs : Srt 15 B) (ha : AtP 15 B b 15 false)  :
    Calls Tryz.prog 158 #[.pointer (some ⟨g, 0, none⟩), .int .u8 b, .pointer x] w fun e w' => e = .returned (.int .i64 0) ∧ Sm w' g 16 (15 + 1) (updB (shU B 15 15) 15 b) (updX (shU X 15 15) 15 x) ∧ Exc [g] w w' := by
  have H := Lib.hid (ok66 g 16 w h.vRoom (by omega))
  have HP := Lib.hid (place67 g 15 b 15 false 16 B X w h (by omega) hs ha)
  have hnot : ∀ (x : Bool) (w : World), (Op.unary .not (.bool x)).run Tryz.prog w = .ok (.bool (!x)) w := fun _ _ => rfl
  have c0 : w.cell? ⟨g, 0, none⟩ = some (.int .i64 16) := h.vRoom
  have c1 : w.cell? ⟨g, 1, none⟩ = some (.int .i64 15) := h.vN
  have hin := ha.le
  have hn16 : 15 < 16 := by omega
  have hi16 : 15 < 16 := by omega
  have hi16' : ¬ (16 : Nat) = 15 := by omega
  have d0 : ((15 : Int) == (16 : Int)) = false := by decide
  have b0 : (0 : Int) ≤ (15 : Int) := by omega
  have b1 : (15 : Int) ≤ (15 : Int) := by omega
  have b2 : (15 : Int) ≤ 16 := by omega
  have b3 : (0 : Int) ≤ (15 : Int) + 1 := by omega
  have b4 : (15 : Int) + 1 ≤ 16 := by omega
  have b5 : (15 : Int) < 16 := by omega
  have q0 : IntKind.i64.wrap 16 = 16 := rfl
  have HS := Lib.hid h
  clear h ha hs
  have HL : Hid (15 - 15 ≤ 0) := by show 15 - 15 ≤ 0; omega
  go_enter Tryz.func158, Tryz.ntmps158
  go_wp2_with fail
  refine H.out.mono ?_; rintro e w' ⟨rfl, hw'⟩
  rw [hw']; clear hw' w'
  go_wp2_with fail
  refine HP.out.mono ?_; rintro e w1 ⟨rfl, z, hw1⟩
  have HS1 := Lib.hid (HS.out.drewN z)
  rw [← hw1] at HS1
  have HX1 : Hid (Exc [g] w w1) := by show Exc _ _ _; rw [hw1]; exact (Exc.refl _ _).drewN z
  clear hw1 c0 c1 H HP
  have c0 : w1.cell? ⟨g, 0, none⟩ = some (.int .i64 16) := HS1.out.vRoom
  have c1 : w1.cell? ⟨g, 1, none⟩ = some (.int .i64 15) := HS1.out.vN
  go_wp2_with fail
  go_quiet (fail)
  go_wp2_with fail
  go_region_held3 (fun W => W.cell? ⟨g, 1, none⟩ = some (.int .i64 15))
    (first
      | go_keep
      | exact c9)
    ((refine step_upB (by rfl) (.tmp 41) (.tmp 50) (by rfl) (Sm.mk HS1.out.heap) hin hn16 (some ⟨g, 2, none⟩) 0 0 0 1 (by rfl) (by rfl) ⟨rfl, HL.out⟩ (fun h => by omega) ?_; intro w2 S2 hx2; have c9 : w2.cell? ⟨g, 1, none⟩ = some (.int .i64 15) := S2.vN))
  have HS2 := Lib.hid S2
  have HX2 : Hid (Exc [g] w w2) := Exc.over HX1.out hx2
  clear hx2 S2 c0 c1 c9
  have c1 : w2.cell? ⟨g, 1, none⟩ = some (.int .i64 15) := HS2.out.vN
  go_wp2_with fail
  go_region_held3 (fun W => W.cell? ⟨g, 1, none⟩ = some (.int .i64 15))
    (first
      | go_keep
      | exact c9)
    ((refine step_upX (by rfl) (.tmp 57) (.tmp 66) (by rfl) (Sm.mk HS2.out.heap) hin hn16 (some ⟨g, 18, none⟩) 0 0 0 1 (by rfl) (by rfl) ⟨rfl, HL.out⟩ (fun h => by omega) ?_; intro w3 S3 hx3; have c9 : w3.cell? ⟨g, 1, none⟩ = some (.int .i64 15) := S3.vN))
  have HS3 := Lib.hid S3
  have HX3 : Hid (Exc [g] w w3) := Exc.over1 HX2.out hx3
  clear hx3 S3 c1 c9
  have c1 : w3.cell? ⟨g, 1, none⟩ = some (.int .i64 15) := HS3.out.vN
  have e1 := HS3.out.vB 15 hi16
  have e2 := HS3.out.vX 15 hi16
  have z1 := HS3.out.free 1
  have z2 := HS3.out.free 17
  have z3 := HS3.out.free (18 + 15)
  go_wp2_with fail
  go_region_held3 (fun _ => True) (trivial) (fail)
  all_goals
    go_wp2_with fail
    go_ret
    first
    | exact ⟨rfl, ⟨(((HS3.out.setB 15 hi16 b).setX 15 hi16 x).setN (15 + 1)).heap⟩, (((HX3.out.set (p := ⟨g, 2 + 15, none⟩) (by simp) _).set (p := ⟨g, 18 + 15, none⟩) (by simp) _).set (p := ⟨g, 1, none⟩) (by simp) _).drew⟩
    | exact ⟨rfl, ⟨(((HS3.out.setX 15 hi16 x).setB 15 hi16 b).setN (15 + 1)).heap⟩, (((HX3.out.set (p := ⟨g, 18 + 15, none⟩) (by simp) _).set (p := ⟨g, 2 + 15, none⟩) (by simp) _).set (p := ⟨g, 1, none⟩) (by simp) _).drew⟩

end Go.Proofs.YtbihlmkjoplkoaaGreatDoor
