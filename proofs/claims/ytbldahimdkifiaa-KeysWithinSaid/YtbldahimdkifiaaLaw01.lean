/-
  The walks of the statements KeysOrder and KeysNext.
-/
import Derived.Test.YtbldahimdkifiaaAliveA
namespace Go.Proofs.Ytbldahimdkifiaa
open Go.RowKit
set_option linter.unusedVariables false

/-- what is known of a slice of bytes that came in: of a short one its bytes -/
def RawB (w : World) (p : Option Addr) (n c : Nat) : Prop := n ≤ maxLen ∧ ∃ xs : List Int, n ≤ 140737488351232 → Bs w p n c xs

theorem byte_of_wf {x : Int} (h : (Lit.int .u8 x).wf = true) : 0 ≤ x ∧ x < 256 := by
  have := h
  simp [Lit.wf, IntKind.min, IntKind.max, IntKind.signed, IntKind.bits] at this
  omega

theorem RawB.nil (w : World) : RawB w none 0 0 := ⟨by unfold maxLen; omega, [], fun _ => ⟨rfl, Nat.le_refl _, by omega, by simp, Lib.BytesIn.nil _ _ _⟩⟩

theorem RawB.of_cells {w : World} {x : Addr} {l c : Nat} {zs : List Int} (hl : l ≤ c) (hm : c ≤ maxLen) (hz : zs.length = c)
    (hcell : ∀ i, i < zs.length → w.cell? (x.add i) = some (.int .u8 (zs.getD i 0))) (hwz : ∀ n ∈ zs, (Lit.int .u8 n).wf = true) : RawB w (some x) l c :=
  ⟨by omega, zs.take l, fun hb => ⟨by rw [List.length_take]; omega, hl, hb, fun y hy => byte_of_wf (hwz y (List.mem_of_mem_take hy)),
    Lib.BytesIn.of_cells (fun i hi => by rw [hcell i (by omega)]; simp [List.getD_eq_getElem?_getD, hi])⟩⟩

theorem lit_hd (w : World) (hs : List Hd) : ∀ i h, hs[i]? = some h → (w.alloc (.cells (hs.map Hd.val).toArray 22)).cell? ⟨w.heap.size, i, none⟩ = some h.val := by
  intro i h hh
  rw [cell_of_row _ _ i _ 22 (0, 0) (heap_alloc_new w _)]
  simp [hh]

theorem farB_false {hs : List Hd} (h : farB hs = false) : ∀ x ∈ hs, x.2.1 ≤ 300 := by
  intro x hx
  unfold farB at h
  rw [List.any_eq_false] at h
  have := h x hx
  simp at this
  omega

set_option maxRecDepth 100000 in
set_option maxHeartbeats 800000 in
theorem order_far (p q : Option Addr) (n c m d : Nat) (w : World) (hn : n ≤ 9223372036854775807) (hm : m ≤ 9223372036854775807) (hf : farB [(p, n, c), (q, m, d)] = true) :
    Calls Try.prog 3 #[.slice p n c, .slice q m d] w fun e w' => e = .returned (.bool true) ∧ Below w.heap.size w w' := by
  have hl := lit_hd w [(p, n, c), (q, m, d)]
  have HF := Lib.hid (far13 w.heap.size 2 2 [(p, n, c), (q, m, d)] (w.alloc (.cells #[.slice p n c, .slice q m d] 22)) rfl (by omega) hl (by intro h hh; rcases List.mem_cons.1 hh with rfl | hh; exact hn; rcases List.mem_cons.1 hh with rfl | hh; exact hm; cases hh))
  rw [hf] at HF
  clear hl hf
  go_enter Try.func3, Try.ntmps3
  go_wp2_with fail
  refine HF.out.mono ?_
  rintro e w' ⟨rfl, hw⟩
  have HL : Hid (Below w.heap.size w w') := by rw [hw]; exact (Below.refl _ _).alloc (Nat.le_refl _) _
  clear hw
  go_wp2_with fail
  refine (alive14 _).mono ?_; rintro e w2 ⟨rfl, hbel⟩
  have HL2 := Lib.hid (Below.step HL.out hbel)
  clear hbel
  go_wp2_with fail
  go_ret
  exact ⟨rfl, HL2.out⟩

set_option maxRecDepth 100000 in
set_option maxHeartbeats 800000 in
theorem order_near (p q : Option Addr) (n c m d : Nat) (xs ys : List Int) (w : World) (h1 : Bs w p n c xs) (h2 : Bs w q m d ys) (hf : farB [(p, n, c), (q, m, d)] = false) :
    Calls Try.prog 3 #[.slice p n c, .slice q m d] w fun e w' => e = .returned (.bool true) ∧ Below w.heap.size w w' := by
  have hl := lit_hd w [(p, n, c), (q, m, d)]
  have hn := h1.big
  have hm := h2.big
  have HF := Lib.hid (far13 w.heap.size 2 2 [(p, n, c), (q, m, d)] (w.alloc (.cells #[.slice p n c, .slice q m d] 22)) rfl (by omega) hl (by intro h hh; rcases List.mem_cons.1 hh with rfl | hh; (show n ≤ _; omega); rcases List.mem_cons.1 hh with rfl | hh; (show m ≤ _; omega); cases hh))
  rw [hf] at HF
  have H1 := Lib.hid h1
  have H2 := Lib.hid h2
  clear hl hf h1 h2
  go_enter Try.func3, Try.ntmps3
  go_wp2_with fail
  refine HF.out.mono ?_
  rintro e w1 ⟨rfl, hw⟩
  have hbel : Below w.heap.size w w1 := by rw [hw]; exact (Below.refl _ _).alloc (Nat.le_refl _) _
  have HL := Lib.hid hbel
  have H1' := H1.out.below hbel
  have H2' := H2.out.below hbel
  have C15 := Lib.hid (fun k => cmp15 _ _ _ _ _ _ _ _ (w1.drewN k) (H1'.drewN k) (H2'.drewN k))
  have C16 := Lib.hid (fun k => cmp16 _ _ _ _ _ _ _ _ (w1.drewN k) (H1'.drewN k) (H2'.drewN k))
  have C17 := Lib.hid (fun k => same17 _ _ _ _ _ _ _ _ (w1.drewN k) (H1'.drewN k) (H2'.drewN k))
  have C18 := Lib.hid (fun k => same18 _ _ _ _ _ _ _ _ (w1.drewN k) (H1'.drewN k) (H2'.drewN k))
  have C19 := Lib.hid (fun k => common19 _ _ _ _ _ _ _ _ (w1.drewN k) (H1'.drewN k) (H2'.drewN k))
  have C20 := Lib.hid (fun k => common20 _ _ _ _ _ _ _ _ (w1.drewN k) (H1'.drewN k) (H2'.drewN k))
  have C21 := Lib.hid (fun k => begins21 _ _ _ _ _ _ _ _ (w1.drewN k) (H1'.drewN k) (H2'.drewN k))
  have C22 := Lib.hid (fun k => begins22 _ _ _ _ _ _ _ _ (w1.drewN k) (H1'.drewN k) (H2'.drewN k))
  clear hw hbel H1' H2' H1 H2
  generalize cmpL xs ys = r at *
  generalize com xs ys = t at *
  generalize (r == 0) = s at *
  generalize decide (t = m) = u at *
  have q1 : (r == r) = true := by simp
  have q2 : (s == s) = true := by simp
  have q3 : ((t : Int) == t) = true := by simp
  have q4 : (u == u) = true := by simp
  go_wp2_with fail
  refine (C15.out 0).mono ?_; rintro e w' ⟨rfl, hw⟩
  obtain rfl : w' = w1 := hw
  go_wp2_with fail
  refine (C16.out 0).mono ?_; rintro e w2 ⟨rfl, z, hw⟩
  obtain rfl : w2 = w'.drewN (0 + z) := by rw [hw, World.drewN_drewN]
  clear hw
  go_wp2_with fail
  refine (C17.out _).mono ?_; rintro e w2 ⟨rfl, rfl⟩
  go_wp2_with fail
  refine (C18.out _).mono ?_; rintro e w2 ⟨rfl, z2, rfl⟩
  go_wp2_with fail
  refine (C19.out _).mono ?_; rintro e w2 ⟨rfl, z3, rfl⟩
  go_wp2_with fail
  refine (C20.out _).mono ?_; rintro e w2 ⟨rfl, z4, rfl⟩
  go_wp2_with fail
  refine (C21.out _).mono ?_; rintro e w2 ⟨rfl, rfl⟩
  go_wp2_with fail
  refine (C22.out _).mono ?_; rintro e w2 ⟨rfl, z5, rfl⟩
  clear C15 C16 C17 C18 C19 C20 C21 C22
  go_wp2_with fail
  refine (alive14 _).mono ?_; rintro e w3 ⟨rfl, hbel⟩
  have HL2 := Lib.hid (Below.step HL.out ((below_drewN (Below.refl _ w') _).trans hbel))
  clear hbel
  go_wp2_with fail
  go_ret
  exact ⟨rfl, HL2.out⟩

theorem walkKeysOrder (p : Option Addr) (n c : Nat) (q : Option Addr) (m d : Nat) (w : World) (w0 : RawB w p n c) (w1 : RawB w q m d) :
    Calls Try.prog 3 #[.slice p n c, .slice q m d] w fun e w' => e = .returned (.bool true) ∧ Below w.heap.size w w' := by
  obtain ⟨hn, xs, hx⟩ := w0
  obtain ⟨hm, ys, hy⟩ := w1
  unfold maxLen at hn hm
  cases hf : farB [(p, n, c), (q, m, d)] with
  | true => exact order_far p q n c m d w hn hm hf
  | false =>
    have h1 := farB_false hf (p, n, c) (by simp)
    have h2 := farB_false hf (q, m, d) (by simp)
    exact order_near p q n c m d xs ys w (hx (by have : n ≤ 300 := h1; omega)) (hy (by have : m ≤ 300 := h2; omega)) hf

end Go.Proofs.Ytbldahimdkifiaa
