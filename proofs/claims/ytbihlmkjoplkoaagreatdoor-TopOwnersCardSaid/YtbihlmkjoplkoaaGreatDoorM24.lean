/-
  For the statement TopOwners: find: the walk's steps; find: into; find: Get, Has; put: Put.
-/
import Derived.Test.YtbihlmkjoplkoaaGreatDoorM23
import Derived.Deep.LoopGhost
/-
  find: the walk's steps.
-/
namespace Go.Proofs.YtbihlmkjoplkoaaGreatDoor
open Go.RowKit
set_option linter.unusedVariables false

/-- the way to a key -/
inductive Path : T → List Int → Prop
  | here (id : Nat) (own : Int) (part : List Int) (val : Int) (has leaf : Bool) (kid : Nat → T) : Path (.node id own part val has leaf kid) part
  | down (id : Nat) (own : Int) (part : List Int) (val : Int) (has leaf : Bool) (kid : Nat → T) (b : Nat) (k : List Int) : Path (kid b) k → Path (.node id own part val has leaf kid) (part ++ (b : Int) :: k)

/-- a walk in block g -/
structure Wk (w : World) (g : Nat) (t : Option Nat) (kp : Option Addr) (n c : Nat) (at' st : Int) : Prop where
  heap : w.heap[g]? = some (.cells #[.pointer (pt t), .slice kp n c, .int .i64 at', .int .i64 st] 157 (0, 0))

section
variable {w : World} {g : Nat} {t : Option Nat} {kp : Option Addr} {n c : Nat} {at' st : Int}
theorem Wk.c0 (h : Wk w g t kp n c at' st) : w.cell? ⟨g, 0, none⟩ = some (.pointer (pt t)) := by rw [cell_of_row _ _ _ _ _ _ h.heap]; rfl
theorem Wk.c1 (h : Wk w g t kp n c at' st) : w.cell? ⟨g, 1, none⟩ = some (.slice kp n c) := by rw [cell_of_row _ _ _ _ _ _ h.heap]; rfl
theorem Wk.c2 (h : Wk w g t kp n c at' st) : w.cell? ⟨g, 2, none⟩ = some (.int .i64 at') := by rw [cell_of_row _ _ _ _ _ _ h.heap]; rfl
theorem Wk.c3 (h : Wk w g t kp n c at' st) : w.cell? ⟨g, 3, none⟩ = some (.int .i64 st) := by rw [cell_of_row _ _ _ _ _ _ h.heap]; rfl
theorem Wk.free (h : Wk w g t kp n c at' st) (j : Nat) : w.frozen? ⟨g, j, none⟩ = false := frozen_of_row _ _ _ _ _ h.heap
theorem Wk.step {w' : World} (h : Wk w g t kp n c at' st) (k : Below w.heap.size w w') : Wk w' g t kp n c at' st := ⟨(k.block g (heap_lt h.heap)).trans h.heap⟩
theorem Wk.set0 (h : Wk w g t kp n c at' st) (t' : Option Nat) : Wk (w.setCell ⟨g, 0, none⟩ (.pointer (pt t'))) g t' kp n c at' st := ⟨heap_setCell_same w g 0 _ 157 _ h.heap⟩
theorem Wk.set2 (h : Wk w g t kp n c at' st) (a : Int) : Wk (w.setCell ⟨g, 2, none⟩ (.int .i64 a)) g t kp n c a st := ⟨heap_setCell_same w g 2 _ 157 _ h.heap⟩
theorem Wk.set3 (h : Wk w g t kp n c at' st) (a : Int) : Wk (w.setCell ⟨g, 3, none⟩ (.int .i64 a)) g t kp n c at' a := ⟨heap_setCell_same w g 3 _ 157 _ h.heap⟩
theorem Wk.drewN (h : Wk w g t kp n c at' st) (z : Nat) : Wk (w.drewN z) g t kp n c at' st := ⟨h.heap⟩
end

/-- the walk's end -/
theorem ends79 {w : World} {g : Nat} {t : Option Nat} {kp : Option Addr} {n c : Nat} {a : Nat} {st : Int} (h : Wk w g t kp n c a st) :
    Calls Tryz.prog 79 #[.pointer (some ⟨g, 0, none⟩)] w fun e w' => e = .returned (.bool (decide (a = n))) ∧ ∃ z, w' = w.drewN z := by
  have c1 := h.c1
  have c2 := h.c2
  have hd := decide_cast a n
  generalize decide (a = n) = r at *
  clear h
  go_enter Tryz.func79, Tryz.ntmps79
  go_wp2_with fail
  go_quiet (fail)
  go_wp2_with fail
  go_ret
  exact ⟨rfl, _, rfl⟩

set_option maxHeartbeats 1600000 in
set_option maxRecDepth 100000 in
theorem down80 {B : Nat} {w : World} {S : Store} {g : Nat} {id : Nat} {own : Int} {part : List Int} {val : Int} {has leaf : Bool} {kid : Nat → T} (hs : Sto B w S) (hr : Rep S (.node id own part val has leaf kid)) {kp : Option Addr} {n c : Nat} {a : Nat} {st : Int} {pre k : List Int} {b : Nat}
    (hk : Kb B w kp n c (pre ++ (b : Int) :: k)) (hpa : pre.length = a) (h : Wk w g (some id) kp n c a st) (hg : ¬ IsSt w g) :
    Calls Tryz.prog 80 #[.pointer (some ⟨g, 0, none⟩)] w fun e w' => e = .returned (.tuple #[]) ∧ Wk w' g (kid b).ptr kp n c (a + 1 : Nat) st ∧ Exc [g] w w' := by
  have hb : b < 256 := by have := hk.bs.byte (b : Int) (by simp); omega
  have hkn := hk.bs.len
  have han : a < n := by rw [← hkn, ← hpa]; simp
  have hbig := hk.bs.big
  obtain ⟨kb, ko, rfl⟩ := hk.some_of (by omega)
  have hc := hk.mid
  rw [hpa] at hc
  have c0 := h.c0
  have c1 := h.c1
  have c2 := h.c2
  have z0 := h.free 0
  have z2 := h.free 2
  have HW := Lib.hid h
  have q1 : IntKind.i64.wrap ((a : Int) + 1) = (a : Int) + 1 := IntWalk.i64_in _ (by omega)
  have t0 : (0 : Int) ≤ (a : Int) := by omega
  have t1 : (a : Int) < (n : Int) := by omega
  have HK : Hid (∀ z, Calls Tryz.prog 38 #[.pointer (some ⟨id, 0, none⟩), .int .u8 b] (w.drewN z) fun e w' => e = .returned (.pointer (pt (kid b).ptr)) ∧ ∃ y, w' = (w.drewN z).drewN y) := fun z => kid38 (hs.drewN z) hr.1 b hb
  simp only [pt] at c0
  clear h hs hr hk hg
  go_enter Tryz.func80, Tryz.ntmps80
  go_wp2_with fail
  refine wp_region_quiet_tail (C := fun w' => ∃ n, w' = World.drewN _ n) 16 (by kernel_rfl) (by kernel_rfl) (by kernel_rfl) ⟨1, rfl⟩ ?_
  simp only [List.take_succ_cons, List.take_zero, List.drop_succ_cons, List.drop_zero]
  repeat (quiet_step ((go_at_call 38; exact Calls.quiet_of (HK.out _))))
  refine wpQuiet_nil ?_
  intro _ hw'
  obtain ⟨nq, hw''⟩ := hw'
  subst hw''
  have z0 := z0
  go_wp2_with fail
  go_end0
  refine ⟨rfl, ?_, ((((Exc.refl _ _).drewN nq).set (p := ⟨g, 0, none⟩) (by simp) _).set (p := ⟨g, 2, none⟩) (by simp) _)⟩
  have := ((HW.out.drewN nq).set0 (kid b).ptr).set2 ((a : Int) + 1)
  push_cast
  exact this

end Go.Proofs.YtbihlmkjoplkoaaGreatDoor
/-
  find: into.
-/
namespace Go.Proofs.YtbihlmkjoplkoaaGreatDoor
open Go.RowKit
set_option linter.unusedVariables false

theorem prefix_of : ∀ {xs ys : List Int}, (∀ x ∈ xs, 0 ≤ x ∧ x < 256) → (∀ y ∈ ys, 0 ≤ y ∧ y < 256) → Lib.hasPrefix (Lib.bytesOf xs) (Lib.bytesOf ys) = true → ∃ r, xs = ys ++ r
  | xs, [], _, _, _ => ⟨xs, rfl⟩
  | [], y :: ys, _, _, h => by simp [Lib.hasPrefix, Lib.bytesOf] at h
  | x :: xs, y :: ys, hx, hy, h => by
    simp only [Lib.hasPrefix, Lib.bytesOf, List.map_cons, List.isPrefixOf, Bool.and_eq_true, beq_iff_eq] at h
    have e := (byte_inj (hy y (by simp)) (hx x (by simp))).1 h.1
    obtain ⟨r, hr⟩ := prefix_of (fun a ha => hx a (by simp [ha])) (fun a ha => hy a (by simp [ha])) h.2
    exact ⟨r, by rw [hr, e]; rfl⟩

/-- the walk at tree t, rest of the key -/
structure WkE (B : Nat) (w : World) (S : Store) (g : Nat) (t : T) (kp : Option Addr) (n c : Nat) (pre rest : List Int) (st : Int) : Prop where
  sto : Sto B w S
  rep : Rep S t
  kb : Kb B w kp n c (pre ++ rest)
  wk : Wk w g t.ptr kp n c pre.length st
  low : B ≤ g

section
variable {B : Nat} {w : World} {S : Store} {g : Nat} {t : T} {kp : Option Addr} {n c : Nat} {pre rest : List Int} {st : Int}

theorem Wk.notSt {t : Option Nat} {a : Int} (h : Wk w g t kp n c a st) : ¬ IsSt w g := not_isSt h.heap (by simp [stT])
theorem Kb.walk {xs : List Int} {q : Option Addr} {m d : Nat} (hk : Kb B w q m d xs) {t : Option Nat} {a : Int} (h : Wk w g t kp n c a st) (hg : B ≤ g) {w' : World} (k : Exc [g] w w') : Kb B w' q m d xs := by
  have key : 0 < m → ∀ r, q = some r → w'.heap[r.block]? = w.heap[r.block]? := fun h0 r hr => by
    obtain ⟨h1, h2⟩ := hk.arr h0 r hr
    refine k.block _ h1 ?_
    simp only [List.mem_singleton]
    intro e
    rcases h2 with h2 | ⟨cs, z, h2⟩
    · omega
    · rw [e, h.heap] at h2; cases h2
  refine ⟨hk.bs.heapSame key, fun h0 r hr => ?_⟩
  obtain ⟨h1, h2⟩ := hk.arr h0 r hr
  refine ⟨Nat.lt_of_lt_of_le h1 k.size, ?_⟩
  rw [key h0 r hr]; exact h2
theorem WkE.exc (h : WkE B w S g t kp n c pre rest st) {w' : World} {t' : T} {pre' rest' : List Int} {st' : Int} (k : Exc [g] w w') (hw : Wk w' g t'.ptr kp n c pre'.length st') (hr : Rep S t') (hp : pre' ++ rest' = pre ++ rest) : WkE B w' S g t' kp n c pre' rest' st' := by
  obtain ⟨FQ, hs⟩ := h.sto
  refine ⟨⟨FQ, hs.keep (fun j hj => k.block j hj.lt ?_) (fun _ _ _ _ hk => hk.walk h.wk h.low k)⟩, hr, ?_, hw, h.low⟩
  · simp only [List.mem_singleton]
    intro e; subst e; exact h.wk.notSt hj
  · rw [hp]; exact h.kb.walk h.wk h.low k
end

/-- what into tells -/
def IntoW (B : Nat) (w w' : World) (S : Store) (g : Nat) (t : T) (kp : Option Addr) (n c : Nat) (pre rest : List Int) (e : Ending) : Prop :=
  Exc [g] w w' ∧ ((e = .returned (.bool false)) ∨
    ∃ id own part val has leaf kid r st', e = .returned (.bool true) ∧ t = .node id own part val has leaf kid ∧ rest = part ++ r ∧ WkE B w' S g t kp n c (pre ++ part) r st')

set_option maxHeartbeats 3200000 in
set_option maxRecDepth 100000 in
theorem into78 {B : Nat} {w : World} {S : Store} {g : Nat} {t : T} {kp : Option Addr} {n c : Nat} {pre rest : List Int} {st : Int} (h : WkE B w S g t kp n c pre rest st) :
    Calls Tryz.prog 78 #[.pointer (some ⟨g, 0, none⟩)] w fun e w' => IntoW B w w' S g t kp n c pre rest e := by
  cases t with
  | nil =>
    have c0 := h.wk.c0
    have c3 := h.wk.c3
    simp only [T.ptr, pt] at c0
    have HX : Hid (∀ z, Exc [g] w (w.drewN z)) := fun z => (Exc.refl _ _).drewN z
    clear h
    go_enter Tryz.func78, Tryz.ntmps78
    go_wp2_with fail
    go_ret
    exact ⟨Exc.refl _ _, Or.inl rfl⟩
  | node id own part val has leaf kid =>
    have HH := Lib.hid h
    have c0 := h.wk.c0
    have c1 := h.wk.c1
    have c2 := h.wk.c2
    have c3 := h.wk.c3
    have z2 := h.wk.free 2
    have z3 := h.wk.free 3
    have hn := h.kb.bs.len
    have hbig := h.kb.bs.big
    have he := run_eql_pointer_nil (P := Tryz.prog) w 48 (some ⟨id, 0, none⟩) (by kernel_rfl)
    simp only [T.ptr, pt] at c0
    clear h
    go_enter Tryz.func78, Tryz.ntmps78
    go_wp2_with fail
    obtain ⟨w1, hw1⟩ : ∃ w1, w1 = w.setCell ⟨g, 3, none⟩ (.int .i64 (wrap64 (st + 1))) := ⟨_, rfl⟩
    rw [← hw1]
    have X1 : Hid (Exc [g] w w1) := by show Exc _ _ _; rw [hw1]; exact (Exc.refl _ _).set (p := ⟨g, 3, none⟩) (by simp) _
    have H1 : Hid (WkE B w1 S g (T.node id own part val has leaf kid) kp n c pre rest (wrap64 (st + 1))) := by
      show WkE _ _ _ _ _ _ _ _ _ _ _
      refine HH.out.exc X1.out ?_ HH.out.rep rfl
      rw [hw1]; exact HH.out.wk.set3 _
    clear hw1 c0 c1 c2 c3 z2 z3 HH he
    refine (part58 H1.out.sto H1.out.rep.1).mono ?_; rintro e w2 ⟨pp, pc, rfl, hpk, hb⟩
    have X2 := Lib.hid (X1.out.trans (Exc.ofBelow hb [g]))
    have H2 := Lib.hid (H1.out.exc (Exc.ofBelow hb [g]) (H1.out.wk.step hb) H1.out.rep rfl)
    have HP := Lib.hid hpk
    clear X1 H1 hpk hb
    have c1 := H2.out.wk.c1
    have c2 := H2.out.wk.c2
    have z2 := H2.out.wk.free 2
    obtain ⟨q1, d1, hsl, hkr⟩ := slice_from H2.out.kb (pre.length : Int) pre.length rfl (by rw [← hn]; simp)
    have hkr : Kb B w2 q1 (n - pre.length) d1 rest := by simpa using hkr
    have hrl : rest.length = n - pre.length := hkr.bs.len
    have HF : Hid (∀ z, Calls Tryz.prog 110 #[.slice q1 (n - pre.length) d1, .slice pp part.length pc] (w2.drewN z) fun e w' => e = .returned (.bool (Lib.hasPrefix (Lib.bytesOf rest) (Lib.bytesOf part))) ∧ w' = w2.drewN z) := fun z =>
      Tryz.bytes_HasPrefix_all q1 pp (n - pre.length) d1 part.length pc rest part (w2.drewN z) hrl rfl hkr.bs.cap (hkr.step (below_drewN (Below.refl _ _) z)).bs.cells (HP.out.step (below_drewN (Below.refl _ _) z)).bs.cells
    have hx := hkr.bs.byte
    have hy := HP.out.bs.byte
    have hpb := HP.out.bs.big
    have HPx := Lib.hid (prefix_of hx hy)
    have HB := Lib.hid hpb
    clear hkr hx hy hpb
    go_wp2_with fail
    go_quiet ((go_at_call 110; exact Calls.quiet_of_same (HF.out _)))
    generalize Lib.hasPrefix (Lib.bytesOf rest) (Lib.bytesOf part) = r at *
    cases r with
    | false =>
      go_wp2_with fail
      go_ret
      exact ⟨X2.out.drewN _, Or.inl rfl⟩
    | true =>
      go_wp2_with fail
      go_ret
      obtain ⟨r, hr⟩ := HPx.out trivial
      have hl : wrap64 ((pre.length : Int) + part.length) = ((pre ++ part).length : Nat) := by
        have hle : pre.length ≤ n := by { rw [← hn]; simp }
        have hB2 := HB.out
        rw [IntWalk.wrap64_in _ (by omega)]
        simp
      have xx : Exc [g] w2 ((w2.drewN nq).setCell ⟨g, 2, none⟩ (.int .i64 (wrap64 ((pre.length : Int) + part.length)))) := ((Exc.refl _ _).drewN nq).set (p := ⟨g, 2, none⟩) (by simp) _
      have hw : Wk ((w2.drewN nq).setCell ⟨g, 2, none⟩ (.int .i64 (wrap64 ((pre.length : Int) + part.length)))) g (T.node id own part val has leaf kid).ptr kp n c (pre ++ part).length (wrap64 (st + 1)) := by
        have := (H2.out.wk.drewN nq).set2 (wrap64 ((pre.length : Int) + part.length))
        rw [hl] at this ⊢
        exact this
      exact ⟨X2.out.trans xx, Or.inr ⟨id, own, part, val, has, leaf, kid, r, wrap64 (st + 1), rfl, rfl, hr, H2.out.exc xx hw H2.out.rep (by rw [hr]; simp)⟩⟩

end Go.Proofs.YtbihlmkjoplkoaaGreatDoor
/-
  find: Get, Has.
-/
namespace Go.Proofs.YtbihlmkjoplkoaaGreatDoor
open Go.RowKit
set_option linter.unusedVariables false

/-- what a search tells -/
def Found (w w' : World) (t : T) (k : List Int) (v : Int) (b : Bool) : Prop := Below w.heap.size w w' ∧ 0 ≤ v ∧ v < 18446744073709551616 ∧ (b = true → Path t k)

/-- where the search stands -/
structure At53 (B : Nat) (w wr : World) (S : Store) (T0 t : T) (p : Option Addr) (n c : Nat) (K pre rest : List Int) (st : Int) : Prop where
  wk : WkE B wr S w.heap.size t p n c pre rest st
  path : ∀ r, Path t r → Path T0 (pre ++ r)
  eq : pre ++ rest = K
  bel : Below w.heap.size w wr

section
variable {B : Nat} {w : World} {S : Store} {t : T} {p : Option Addr} {n c : Nat} {K : List Int}

set_option maxHeartbeats 1600000 in
set_option maxRecDepth 100000 in
theorem Get53 (hs : Sto B w S) (hr : Rep S t) (hk : Kb B w p n c K) (hB : B ≤ w.heap.size) :
    Calls Tryz.prog 53 #[.pointer (pt t.ptr), .slice p n c] w fun e w' => ∃ v b, e = .returned (.tuple #[.int .u64 v, .bool b]) ∧ Found w w' t K v b := by
  have hb0 : Below w.heap.size w (w.alloc (.cells #[.pointer (pt t.ptr), .slice p n c, .int .i64 0, .int .i64 0] 157)) := (Below.refl _ _).alloc (Nat.le_refl _) _
  have H0 : Hid (At53 B w (w.alloc (.cells #[.pointer (pt t.ptr), .slice p n c, .int .i64 0, .int .i64 0] 157)) S t t p n c K [] K 0) :=
    ⟨⟨hs.step hb0, hr, hk.step hb0, ⟨heap_alloc_new _ _⟩, hB⟩, fun r h => h, rfl, hb0⟩
  clear hs hr hk hb0 hB
  generalize hpt : pt t.ptr = pp at *
  clear hpt
  go_enter Tryz.func53, Tryz.ntmps53
  go_wp2_with fail
  go_loopg [] K.length (fun k wr => ∃ t' pre rest st, k = rest.length ∧ Hid (At53 B w wr S t t' p n c K pre rest st))
  case atStart => exact ⟨t, [], K, 0, rfl, H0⟩
  case round =>
    obtain ⟨t', pre, rest, st, hgk, HA⟩ := hrel
    have HG := Lib.hid hgk
    clear hgk H0
    go_wp2_with fail
    refine (into78 HA.out.wk).mono ?_; rintro e w1 ⟨hx, h1⟩
    have HX := Lib.hid hx
    clear hx
    rcases h1 with rfl | ⟨id, own, part, val, has, leaf, kid, r, st', rfl, rfl, hr, hw⟩
    · go_wp2_with fail
      go_ret2
      exact ⟨0, false, rfl, HX.out.below HA.out.bel (by simp) HA.out.bel.size, by omega, by omega, by simp⟩
    · have HR := Lib.hid hr
      have HW := Lib.hid hw
      have hB1 : Hid (Below w.heap.size w w1) := HX.out.below HA.out.bel (by simp) HA.out.bel.size
      clear hr hw HX
      go_wp2_with fail
      refine (ends79 HW.out.wk).mono ?_; rintro e w2 ⟨rfl, z, rfl⟩
      have hlen : (pre ++ part).length + r.length = n := by rw [← HW.out.kb.bs.len]; simp [Nat.add_assoc]
      by_cases he : (pre ++ part).length = n
      · rw [decide_eq_true he]
        have c0 := HW.out.wk.c0
        simp only [T.ptr, pt] at c0
        have hr0 : r = [] := List.eq_nil_of_length_eq_zero (by omega)
        have HR0 := Lib.hid hr0
        have HV := Lib.hid (val63 ((HW.out.sto.drewN z)) HW.out.rep.1)
        have hvv : 0 ≤ valOf ⟨own, part, val, has, leaf, fun b => (kid b).ptr⟩ ∧ valOf ⟨own, part, val, has, leaf, fun b => (kid b).ptr⟩ < 18446744073709551616 := by
          obtain ⟨FQ, hs⟩ := HW.out.sto
          obtain ⟨p', n', c', kb, hn⟩ := hs.node _ _ HW.out.rep.1
          have := hn.val
          simp only [valOf]
          simp only at this
          split <;> omega
        have HVV := Lib.hid hvv
        clear hlen he hr0 hvv
        go_wp2_with fail
        refine HV.out.mono ?_; rintro e w2 ⟨rfl, rfl⟩
        go_wp2_with fail
        go_ret2
        refine ⟨_, _, rfl, below_drewN hB1.out z, HVV.out.1, HVV.out.2, fun _ => ?_⟩
        have h1 := HA.out.path part (Path.here _ _ _ _ _ _ _)
        have h2 := HA.out.eq
        rw [HR.out, HR0.out, List.append_nil] at h2
        rw [← h2]; exact h1
      · rw [decide_eq_false he]
        cases r with
        | nil => exact absurd (by simpa using hlen) he
        | cons b0 r =>
          have hb0 := HW.out.kb.bs.byte b0 (by simp)
          obtain ⟨b, rfl⟩ : ∃ b : Nat, b0 = (b : Int) := ⟨b0.toNat, by omega⟩
          have HD := Lib.hid (down80 (HW.out.sto.drewN z) HW.out.rep (HW.out.kb.step (below_drewN (Below.refl _ _) z)) rfl (HW.out.wk.drewN z) (HW.out.wk.drewN z).notSt)
          clear hlen he hb0
          go_wp2_with fail
          refine HD.out.mono ?_; rintro e w2 ⟨rfl, h1, h2⟩
          go_wp2_with fail
          go_roundg r.length
          case measure => rw [HG.out, HR.out]; simp; omega
          case rel =>
            refine ⟨kid b, pre ++ part ++ [(b : Int)], r, st', rfl, ?_⟩
            show At53 _ _ _ _ _ _ _ _ _ _ _ _ _
            refine ⟨(HW.out.exc (((Exc.refl _ _).drewN z).trans h2) (by simpa [Int.add_assoc, Nat.add_assoc] using h1) (HW.out.rep.2 b) (by simp)), fun r' hp => ?_, ?_, ?_⟩
            · have := HA.out.path (part ++ (b : Int) :: r') (Path.down _ _ _ _ _ _ _ _ _ hp)
              simpa using this
            · rw [← HA.out.eq, HR.out]; simp
            · exact h2.below (below_drewN hB1.out z) (by simp) hB1.out.size

set_option maxHeartbeats 800000 in
theorem Has34 (hs : Sto B w S) (hr : Rep S t) (hk : Kb B w p n c K) (hB : B ≤ w.heap.size) :
    Calls Tryz.prog 34 #[.pointer (pt t.ptr), .slice p n c] w fun e w' => ∃ b, e = .returned (.bool b) ∧ Below w.heap.size w w' ∧ (b = true → Path t K) := by
  have HG := Lib.hid (Get53 hs hr hk hB)
  clear hs hr hk hB
  generalize pt t.ptr = pp at *
  go_enter Tryz.func34, Tryz.ntmps34
  go_wp2_with fail
  refine HG.out.mono ?_; rintro e w1 ⟨v, b, rfl, hf⟩
  have HF := Lib.hid hf
  clear hf
  go_wp2_with fail
  go_ret
  exact ⟨_, rfl, HF.out.1, HF.out.2.2.2⟩
end
end Go.Proofs.YtbihlmkjoplkoaaGreatDoor
/-
  put: Put.
-/
namespace Go.Proofs.YtbihlmkjoplkoaaGreatDoor
open Go.RowKit
set_option linter.unusedVariables false

section
variable {B wb : Nat} {o : Int} {w : World} {S : Store} {t : T} {p : Option Addr} {n c : Nat} {k : List Int}

/-- what Put leaves -/
def Put5S (B wb : Nat) (o : Int) (w w' : World) (S : Store) (q v : Int) (k : List Int) (t : T) (t' : T) (S' : Store) : Prop :=
  Env B wb o w' S' ∧ Oth B wb w w' ∧ Rep S' t' ∧ Ext q S S' t ∧ ((t' = t ∧ Path t k) ∨ PutR q v (newIn S) k t t')

set_option maxHeartbeats 1600000 in
theorem Put35 (h : Env B wb o w S) (q v : Int) (h0 : q ≠ 0) (hv : 0 ≤ v ∧ v < 18446744073709551616) (hr : Rep S t) (hs : t.Sep) (hk : Kb B w p n c k) (hn : n ≤ 65535) :
    Calls Tryz.prog 35 #[.pointer (pt t.ptr), .slice p n c, .int .u64 v, .int .u64 q, .pointer (some ⟨wb, 0, none⟩)] w fun e w' => ∃ t' S', e = .returned (.tuple #[.pointer (pt t'.ptr), .int .i64 0]) ∧ Put5S B wb o w w' S q v k t t' S' := by
  have hM := may40 p n c w (by omega)
  rw [show mayE n = 0 from if_neg (by omega)] at hM
  have HM := Lib.hid hM
  have HG := Lib.hid (Get53 h.sto hr hk h.size)
  have HH := Lib.hid (show Env B wb o w S ∧ Rep S t ∧ t.Sep ∧ Kb B w p n c k from ⟨h, hr, hs, hk⟩)
  have HI : Hid (∀ w1, Env B wb o w1 S → Kb B w1 p n c k → Calls Tryz.prog 55 #[.agg #[.int .u64 v, .int .u64 q, .pointer (some ⟨wb, 0, none⟩)], .pointer (pt t.ptr), .slice p n c] w1 fun e w' => PutS B wb o w1 w' S q v k t e) :=
    fun w1 e1 k1 => into55 q v h0 hv n w1 S t p c k e1 hr hs k1
  clear h hr hs hk hM hn hv
  generalize hpp : pt t.ptr = pp at *
  have HP := Lib.hid hpp
  clear hpp
  go_enter Tryz.func35, Tryz.ntmps35
  go_wp2_with fail
  refine HM.out.mono ?_; rintro e w1 ⟨rfl, hw1⟩
  rw [hw1]; clear hw1 w1
  go_wp2_with fail
  refine HG.out.mono ?_; rintro e w1 ⟨u, b, rfl, hf⟩
  have HB := Lib.hid hf.1
  have HPATH := Lib.hid hf.2.2.2
  clear hf
  have HE := Lib.hid (HH.out.1.below HB.out)
  have HK := Lib.hid (HH.out.2.2.2.step HB.out)
  cases b with
  | true =>
    by_cases hu : u = v
    · have hd : (u == v) = true := by simpa using hu
      clear hu
      go_wp2_with fail
      go_ret2
      exact ⟨t, S, by rw [HP.out]; rfl, HE.out, HH.out.1.oth HB.out, HH.out.2.1, ⟨fun a d hd _ => hd, fun a ha => ha⟩, Or.inl ⟨rfl, HPATH.out trivial⟩⟩
    · have hd : (u == v) = false := by simpa using hu
      clear hu
      go_wp2_with fail
      refine (HI.out _ HE.out HK.out).mono ?_; rintro e w2 ⟨t', S', rfl, g1, g2, g3, g4, g5⟩
      have F : Hid (Put5S B wb o w w2 S q v k t t' S') := ⟨g1, (HH.out.1.oth HB.out).trans g2, g3, g4, Or.inr g5⟩
      clear g1 g2 g3 g4 g5
      go_wp2_with fail
      go_ret2
      exact ⟨t', S', rfl, F.out⟩
  | false =>
    go_wp2_with fail
    refine (HI.out _ HE.out HK.out).mono ?_; rintro e w2 ⟨t', S', rfl, g1, g2, g3, g4, g5⟩
    have F : Hid (Put5S B wb o w w2 S q v k t t' S') := ⟨g1, (HH.out.1.oth HB.out).trans g2, g3, g4, Or.inr g5⟩
    clear g1 g2 g3 g4 g5
    go_wp2_with fail
    go_ret2
    exact ⟨t', S', rfl, F.out⟩
end
end Go.Proofs.YtbihlmkjoplkoaaGreatDoor
