/-
  What is told once: contracts of sync.Once's parts (one goroutine), and of the seat's own function that is handed on.
-/
import Derived.Test.YthohpeinmkdfeaaMeter
import Derived.RegionCalls
import Derived.RegionTactic
namespace Go.Proofs.Ythohpeinmkdfeaa
open Go.RowKit
set_option linter.unusedVariables false

/-- all memory but some blocks is as it was -/
structure Exc (S : List Nat) (w w' : World) : Prop where
  os : w'.os = w.os
  tape : w'.tape = w.tape
  output : w'.output = w.output
  size : w.heap.size ≤ w'.heap.size
  block : ∀ k, k < w.heap.size → k ∉ S → w'.heap[k]? = w.heap[k]?

theorem Exc.refl (S : List Nat) (w : World) : Exc S w w := ⟨rfl, rfl, rfl, Nat.le_refl _, fun _ _ _ => rfl⟩
theorem Exc.trans {S : List Nat} {a b c : World} (h : Exc S a b) (k : Exc S b c) : Exc S a c :=
  ⟨k.os.trans h.os, k.tape.trans h.tape, k.output.trans h.output, Nat.le_trans h.size k.size, fun i hi hs => (k.block i (Nat.lt_of_lt_of_le hi h.size) hs).trans (h.block i hi hs)⟩
theorem Exc.wide {S T : List Nat} {a b : World} (h : Exc S a b) (hs : ∀ x ∈ S, x ∈ T) : Exc T a b := ⟨h.os, h.tape, h.output, h.size, fun i hi ht => h.block i hi (fun x => ht (hs i x))⟩
theorem Exc.drewN {S : List Nat} {a b : World} (h : Exc S a b) (z : Nat) : Exc S a (b.drewN z) := ⟨h.os, h.tape, h.output, h.size, h.block⟩
theorem Exc.alloc {S : List Nat} {a b : World} (h : Exc S a b) (o : Obj) : Exc S a (b.alloc o) :=
  ⟨h.os, h.tape, h.output, by rw [World.size_alloc]; have := h.size; omega, fun i hi ht => by rw [Below.heap_alloc _ _ _ (Nat.lt_of_lt_of_le hi h.size)]; exact h.block i hi ht⟩
theorem Exc.set {S : List Nat} {a b : World} (h : Exc S a b) {p : Addr} (hp : p.block ∈ S) (u : Value) : Exc S a (b.setCell p u) := by
  have e := (Below.refl 0 b).setCell (p := p) (Nat.zero_le _) u
  exact ⟨e.os.trans h.os, e.tape.trans h.tape, e.output.trans h.output, Nat.le_trans h.size e.size, fun i hi ht => by
    rw [Below.heap_setCell _ _ _ _ (fun x => ht (by rw [x]; exact hp))]; exact h.block i hi ht⟩
theorem Exc.below {S : List Nat} {a w w' : World} {B : Nat} (h : Exc S w w') (k : Below B a w) (hS : ∀ x ∈ S, B ≤ x) (hB : B ≤ w.heap.size) : Below B a w' :=
  ⟨h.os.trans k.os, h.tape.trans k.tape, h.output.trans k.output, Nat.le_trans k.size h.size, fun i hi => (h.block i (Nat.lt_of_lt_of_le hi hB) (fun x => by have := hS i x; omega)).trans (k.block i hi)⟩
theorem Exc.cell {S : List Nat} {w w' : World} (h : Exc S w w') {p : Addr} {v : Value} (hc : w.cell? p = some v) (hp : p.block ∉ S) : w'.cell? p = some v := by
  rw [World.cell?_of_block (w := w) (h.block p.block (block_lt_of_cell hc) hp)]; exact hc
theorem Exc.frozen {S : List Nat} {w w' : World} (h : Exc S w w') {p : Addr} {v : Value} (hc : w.cell? p = some v) (hz : w.frozen? p = false) (hp : p.block ∉ S) : w'.frozen? p = false := by
  rw [World.frozen?_of_block (w := w) (h.block p.block (block_lt_of_cell hc) hp)]; exact hz
theorem Exc.var {S : List Nat} {w w' : World} {b j : Nat} {v : Value} (h : Exc S w w') (k : Var w b j v) (hb : b ∉ S) : Var w' b j v := ⟨h.cell k.cell hb, h.frozen k.cell k.free hb⟩
theorem Exc.ofBelow {w w' : World} (h : Below w.heap.size w w') (S : List Nat) : Exc S w w' := ⟨h.os, h.tape, h.output, h.size, fun i hi _ => h.block i hi⟩

theorem set_keep {w : World} {p a : Addr} {v u : Value} (h : w.cell? p = some v) (hp : ¬ p.block = a.block) : (w.setCell a u).cell? p = some v := by
  rw [World.cell?_setCell_other _ _ _ _ (fun e => hp (by rw [e]))]; exact h
theorem set_off {w : World} {b i j : Nat} {v u : Value} (h : w.cell? ⟨b, i, none⟩ = some v) (hp : ¬ i = j) : (w.setCell ⟨b, j, none⟩ u).cell? ⟨b, i, none⟩ = some v := by
  rw [World.cell?_setCell_other _ _ _ _ (fun e => hp (by cases e; rfl))]; exact h
theorem set_same {w : World} {a : Addr} {v u : Value} (h : w.cell? a = some v) : (w.setCell a u).cell? a = some u := World.cell?_setCell_same _ _ _ h

theorem disable (w : World) : (callFunc 87 #[]).run Try.prog w = .ok (.value (.tuple #[])) w := run_call_mark0 Try.func87 (by kernel_rfl) (by kernel_rfl) (by kernel_rfl) .disable (by kernel_rfl) w
theorem enable (w : World) : (callFunc 89 #[]).run Try.prog w = .ok (.value (.tuple #[])) w := run_call_mark0 Try.func89 (by kernel_rfl) (by kernel_rfl) (by kernel_rfl) .enable (by kernel_rfl) w
theorem acquire (a : Addr) (w : World) : (callFunc 90 #[.pointer (some a)]).run Try.prog w = .ok (.value (.tuple #[])) w := run_call_marked Try.func90 (by kernel_rfl) (by kernel_rfl) (by kernel_rfl) .acquire (by kernel_rfl) a w
theorem releaseMerge (a : Addr) (w : World) : (callFunc 92 #[.pointer (some a)]).run Try.prog w = .ok (.value (.tuple #[])) w := run_call_marked Try.func92 (by kernel_rfl) (by kernel_rfl) (by kernel_rfl) .releaseMerge (by kernel_rfl) a w

theorem store_deferred (a : Addr) (x : Value) (u : FrameMode) (w : World) (hc : w.cell? a = some x) (hz : w.frozen? a = false) :
    CallsD Try.prog 79 #[.pointer (some a), .bool true] u w fun e u' w' => u' = u ∧ (e = .returned (.tuple #[]) ∧ w' = w.drew.setCell a (.int .u32 1)) := by
  have hc' : w.drew.cell? a = some x := by go_simp
  have hz' : w.drew.frozen? a = false := by go_simp
  have hst := run_call_store (P := Try.prog) Try.func84 (by kernel_rfl) (by kernel_rfl) (by kernel_rfl) (by kernel_rfl) (k := .u32) (y := 1) hc' hz'
  go_enter_d Try.func79, Try.ntmps79
  go_wp2
  go_region_calls
  all_goals (go_end0; exact ⟨rfl, rfl⟩)

set_option maxRecDepth 100000 in
set_option maxHeartbeats 1600000 in
theorem unlock_deferred (a : Addr) (u : FrameMode) (w : World) (hc : w.cell? a = some (.int .i32 1)) (hz : w.frozen? a = false) :
    CallsD Try.prog 78 #[.pointer (some a)] u w fun e u' w' => u' = u ∧ (e = .returned (.tuple #[]) ∧ w' = w.setCell a (.int .i32 0)) := by
  have hd := disable
  have he := enable
  have hr := releaseMerge
  have hadd := run_call_add (P := Try.prog) Try.func93 (by kernel_rfl) (by kernel_rfl) (by kernel_rfl) .i32 (by kernel_rfl) (y := -1) (s := 0) hc hz (by simp [go_sem]; rfl)
  have hcv := run_convert_to_unsafe (P := Try.prog) (src := 145) (dst := 149) Try.underlying145 Try.underlying149 (by kernel_rfl) hc
  go_enter_d Try.func78, Try.ntmps78
  go_wp2
  go_end0
  exact ⟨rfl, rfl⟩

set_option maxRecDepth 100000 in
set_option maxHeartbeats 1600000 in
theorem lock_free (a : Addr) (w : World) (hc : w.cell? a = some (.int .i32 0)) (hz : w.frozen? a = false) :
    Calls Try.prog 77 #[.pointer (some a)] w fun e w' => e = .returned (.tuple #[]) ∧ w' = w.setCell a (.int .i32 1) := by
  have hd := disable
  have he := enable
  have ha := acquire
  have hcas := run_call_cas_hit (P := Try.prog) Try.func88 (by kernel_rfl) (by kernel_rfl) (by kernel_rfl) .i32 (by kernel_rfl) (y := 1) hc hz
  have hc' : (w.setCell a (.int .i32 1)).cell? a = some (.int .i32 1) := World.cell?_setCell_same w a _ hc
  have hcv := run_convert_to_unsafe (P := Try.prog) (src := 145) (dst := 149) Try.underlying145 Try.underlying149 (by kernel_rfl) hc'
  go_enter Try.func77, Try.ntmps77
  go_wp2
  go_end0
  exact ⟨rfl, rfl⟩

/-- what the closure that Get hands on leaves: it is asked, and what it told is kept -/
structure Told (b off : Nat) (S : List Nat) (F : World → Prop) (v : Int) (w w' : World) : Prop where
  exc : Exc (b :: S) w w'
  done : ∀ x, w.cell? ⟨b, off, none⟩ = some x → w'.cell? ⟨b, off, none⟩ = some x
  lock : ∀ x, w.cell? ⟨b, off + 1, none⟩ = some x → w'.cell? ⟨b, off + 1, none⟩ = some x
  n : w'.cell? ⟨b, off + 3, none⟩ = some (.int .i64 v)
  told : w'.cell? ⟨b, off + 4, none⟩ = some (.bool true)
  same : ∀ j, w.frozen? ⟨b, j, none⟩ = false → w'.frozen? ⟨b, j, none⟩ = false
  asked : F w'

set_option maxRecDepth 100000 in
set_option maxHeartbeats 1600000 in
theorem body60 (b off bm bx : Nat) (S : List Nat) (F : World → Prop) (v : Int) (x0 x1 x3 x4 : Value) (w : World) (hbS : b ∉ S) (hxS : bx ∉ S) (hmS : bm ∉ S) (hxb : ¬ bx = b) (hmb : ¬ bm = b)
    (hF : ∀ W W', F W → Exc [b] W W' → F W')
    (hm : w.cell? ⟨bm, 0, none⟩ = some (.func (.func 58) #[] #[])) (hx : w.cell? ⟨bx, 0, none⟩ = some (.pointer (some ⟨b, off, none⟩)))
    (h0 : w.cell? ⟨b, off, none⟩ = some x0) (h1 : w.cell? ⟨b, off + 1, none⟩ = some x1) (h3 : w.cell? ⟨b, off + 3, none⟩ = some x3) (h4 : w.cell? ⟨b, off + 4, none⟩ = some x4) (f3 : w.frozen? ⟨b, off + 3, none⟩ = false) (f4 : w.frozen? ⟨b, off + 4, none⟩ = false)
    (HM : Hid (∀ z, Calls Try.prog 58 #[] (w.drewN z) fun e w' => e = .returned (.int .i64 v) ∧ Exc S (w.drewN z) w' ∧ F w')) :
    Calls Try.prog 60 #[.pointer (some ⟨bm, 0, none⟩), .pointer (some ⟨bx, 0, none⟩)] w fun e w' => e = .returned (.tuple #[]) ∧ Told b off S F v w w' := by
  have H3 := Lib.hid h3
  have H0 := Lib.hid h0
  have H1 := Lib.hid h1
  have H4 := Lib.hid h4
  have F3 := Lib.hid f3
  have F4 := Lib.hid f4
  have BS := Lib.hid hbS
  clear h0 h1 h3 h4 f3 f4 hbS
  go_enter Try.func60, Try.ntmps60
  go_wp2_with fail
  go_region_held3 (fun w' => w'.cell? ⟨bx, 0, none⟩ = some (.pointer (some ⟨b, off, none⟩)) ∧ w'.cell? ⟨bm, 0, none⟩ = some (.func (.func 58) #[] #[])) (first | go_keep | exact ⟨he.cell hx hxS, he.cell hm hmS⟩ | exact ⟨set_keep (he.cell hx hxS) hxb, set_keep (he.cell hm hmS) hmb⟩ | exact ⟨set_keep (set_keep (he.cell hx hxS) hxb) hxb, set_keep (set_keep (he.cell hm hmS) hmb) hmb⟩)
    ((go_at_call 58; refine (HM.out _).mono ?_; rintro e w' ⟨rfl, he, hf⟩; have c3 : w'.cell? ⟨b, off + 3, none⟩ = some x3 := he.cell H3.out BS.out; have c4 : w'.cell? ⟨b, off + 4, none⟩ = some x4 := he.cell H4.out BS.out; have z3 : w'.frozen? ⟨b, off + 3, none⟩ = false := he.frozen H3.out F3.out BS.out; have z4 : w'.frozen? ⟨b, off + 4, none⟩ = false := he.frozen H4.out F4.out BS.out))
  go_end0
  have hfz : ∀ j, w.frozen? ⟨b, j, none⟩ = false → w'.frozen? ⟨b, j, none⟩ = false := fun j hj => by
    rw [World.frozen?_of_block (w := w.drewN 1) (he.block b (block_lt_of_cell (w := w.drewN 1) H3.out) BS.out)]; exact hj
  refine ⟨rfl, ?_⟩
  have e1 : Exc [b] w' (w'.setCell ⟨b, off + 3, none⟩ (.int .i64 v)) := (Exc.refl _ _).set (p := ⟨b, off + 3, none⟩) (by simp) _
  have e2 : Exc [b] w' ((w'.setCell ⟨b, off + 3, none⟩ (.int .i64 v)).setCell ⟨b, off + 4, none⟩ (.bool true)) := e1.set (p := ⟨b, off + 4, none⟩) (by simp) _
  refine ⟨?_, ?_, ?_, ?_, ?_, ?_, hF _ _ hf e2⟩
  · exact ((Exc.refl S w).drewN 1 |>.trans he |>.wide (fun x hx => List.mem_cons_of_mem _ hx)).trans (e2.wide (by simp))
  · exact fun x hx => set_off (set_off (he.cell hx BS.out) (by omega)) (by omega)
  · exact fun x hx => set_off (set_off (he.cell hx BS.out) (by omega)) (by omega)
  · exact set_off (set_same c3) (by omega)
  · exact set_same (set_off c4 (by omega))
  · intro j hj
    have := hfz j hj
    simpa using this

set_option maxRecDepth 100000 in
set_option maxHeartbeats 1600000 in
theorem body60b (b off bm bx ba bn : Nat) (S : List Nat) (F : World → Prop) (v : Int) (x0 x1 x3 x4 : Value) (w : World) (hbS : b ∉ S) (hxS : bx ∉ S) (hmS : bm ∉ S) (hxb : ¬ bx = b) (hmb : ¬ bm = b)
    (hF : ∀ W W', F W → Exc [b] W W' → F W')
    (hm : w.cell? ⟨bm, 0, none⟩ = some (.func (.func 23) #[] #[.pointer (some ⟨ba, 0, none⟩), .pointer (some ⟨bn, 0, none⟩)])) (hx : w.cell? ⟨bx, 0, none⟩ = some (.pointer (some ⟨b, off, none⟩)))
    (h0 : w.cell? ⟨b, off, none⟩ = some x0) (h1 : w.cell? ⟨b, off + 1, none⟩ = some x1) (h3 : w.cell? ⟨b, off + 3, none⟩ = some x3) (h4 : w.cell? ⟨b, off + 4, none⟩ = some x4) (f3 : w.frozen? ⟨b, off + 3, none⟩ = false) (f4 : w.frozen? ⟨b, off + 4, none⟩ = false)
    (HM : Hid (∀ z, Calls Try.prog 23 #[.pointer (some ⟨ba, 0, none⟩), .pointer (some ⟨bn, 0, none⟩)] (w.drewN z) fun e w' => e = .returned (.int .i64 v) ∧ Exc S (w.drewN z) w' ∧ F w')) :
    Calls Try.prog 60 #[.pointer (some ⟨bm, 0, none⟩), .pointer (some ⟨bx, 0, none⟩)] w fun e w' => e = .returned (.tuple #[]) ∧ Told b off S F v w w' := by
  have H3 := Lib.hid h3
  have H0 := Lib.hid h0
  have H1 := Lib.hid h1
  have H4 := Lib.hid h4
  have F3 := Lib.hid f3
  have F4 := Lib.hid f4
  have BS := Lib.hid hbS
  clear h0 h1 h3 h4 f3 f4 hbS
  go_enter Try.func60, Try.ntmps60
  go_wp2_with fail
  go_region_held3 (fun w' => w'.cell? ⟨bx, 0, none⟩ = some (.pointer (some ⟨b, off, none⟩)) ∧ w'.cell? ⟨bm, 0, none⟩ = some (.func (.func 23) #[] #[.pointer (some ⟨ba, 0, none⟩), .pointer (some ⟨bn, 0, none⟩)])) (first | go_keep | exact ⟨he.cell hx hxS, he.cell hm hmS⟩ | exact ⟨set_keep (he.cell hx hxS) hxb, set_keep (he.cell hm hmS) hmb⟩ | exact ⟨set_keep (set_keep (he.cell hx hxS) hxb) hxb, set_keep (set_keep (he.cell hm hmS) hmb) hmb⟩)
    ((go_at_call 23; refine (HM.out _).mono ?_; rintro e w' ⟨rfl, he, hf⟩; have c3 : w'.cell? ⟨b, off + 3, none⟩ = some x3 := he.cell H3.out BS.out; have c4 : w'.cell? ⟨b, off + 4, none⟩ = some x4 := he.cell H4.out BS.out; have z3 : w'.frozen? ⟨b, off + 3, none⟩ = false := he.frozen H3.out F3.out BS.out; have z4 : w'.frozen? ⟨b, off + 4, none⟩ = false := he.frozen H4.out F4.out BS.out))
  go_end0
  have hfz : ∀ j, w.frozen? ⟨b, j, none⟩ = false → w'.frozen? ⟨b, j, none⟩ = false := fun j hj => by
    rw [World.frozen?_of_block (w := w.drewN 1) (he.block b (block_lt_of_cell (w := w.drewN 1) H3.out) BS.out)]; exact hj
  refine ⟨rfl, ?_⟩
  have e1 : Exc [b] w' (w'.setCell ⟨b, off + 3, none⟩ (.int .i64 v)) := (Exc.refl _ _).set (p := ⟨b, off + 3, none⟩) (by simp) _
  have e2 : Exc [b] w' ((w'.setCell ⟨b, off + 3, none⟩ (.int .i64 v)).setCell ⟨b, off + 4, none⟩ (.bool true)) := e1.set (p := ⟨b, off + 4, none⟩) (by simp) _
  refine ⟨?_, ?_, ?_, ?_, ?_, ?_, hF _ _ hf e2⟩
  · exact ((Exc.refl S w).drewN 1 |>.trans he |>.wide (fun x hx => List.mem_cons_of_mem _ hx)).trans (e2.wide (by simp))
  · exact fun x hx => set_off (set_off (he.cell hx BS.out) (by omega)) (by omega)
  · exact fun x hx => set_off (set_off (he.cell hx BS.out) (by omega)) (by omega)
  · exact set_off (set_same c3) (by omega)
  · exact set_same (set_off c4 (by omega))
  · intro j hj
    have := hfz j hj
    simpa using this

theorem bload71 (a : Addr) (x : Int) (r : Bool) (w : World) (hr : (x != 0) = r) (hc : w.cell? a = some (.int .u32 x)) : Calls Try.prog 71 #[.pointer (some a)] w fun e w' => e = .returned (.bool r) ∧ w' = w := by
  have hl := run_call_load (P := Try.prog) Try.func76 (by kernel_rfl) (by kernel_rfl) (by kernel_rfl) .u32 (by kernel_rfl) hc
  go_enter Try.func71, Try.ntmps71
  go_wp2
  go_ret
  exact ⟨rfl, rfl⟩

/-- what the Once is behind the first Get -/
structure DoneB (b off : Nat) (S : List Nat) (F : World → Prop) (v : Int) (w w' : World) : Prop where
  exc : Exc (b :: S) w w'
  done : w'.cell? ⟨b, off, none⟩ = some (.int .u32 1)
  n : w'.cell? ⟨b, off + 3, none⟩ = some (.int .i64 v)
  told : w'.cell? ⟨b, off + 4, none⟩ = some (.bool true)
  asked : F w'

set_option maxRecDepth 100000 in
set_option maxHeartbeats 1600000 in
theorem slow72 (b off bm bx : Nat) (S : List Nat) (F : World → Prop) (v : Int) (w : World)
    (hF : ∀ W W', F W → Exc [b] W W' → F W')
    (h0 : w.cell? ⟨b, off, none⟩ = some (.int .u32 0)) (h1 : w.cell? ⟨b, off + 1, none⟩ = some (.int .i32 0))
    (f0 : w.frozen? ⟨b, off, none⟩ = false) (f1 : w.frozen? ⟨b, off + 1, none⟩ = false)
    (HB : Hid (∀ w1, w1 = w.setCell ⟨b, off + 1, none⟩ (.int .i32 1) → Calls Try.prog 60 #[.pointer (some ⟨bm, 0, none⟩), .pointer (some ⟨bx, 0, none⟩)] w1 fun e w' => e = .returned (.tuple #[]) ∧ Told b off S F v w1 w')) :
    Calls Try.prog 72 #[.pointer (some ⟨b, off, none⟩), .func (.func 60) #[] #[.pointer (some ⟨bm, 0, none⟩), .pointer (some ⟨bx, 0, none⟩)]] w fun e w' => e = .returned (.tuple #[]) ∧ DoneB b off S F v w w' := by
  have hnot : ∀ (x : Bool) (w : World), (Op.unary .not (.bool x)).run Try.prog w = .ok (.bool (!x)) w := fun _ _ => rfl
  have HL := Lib.hid (lock_free ⟨b, off + 1, none⟩ w h1 f1)
  have k0 := Lib.hid (bload71 ⟨b, off, none⟩ 0 false (w.setCell ⟨b, off + 1, none⟩ (.int .i32 1)) rfl (set_off h0 (by omega)))
  have H0 := Lib.hid h0
  have H1 := Lib.hid h1
  have F0 := Lib.hid f0
  have F1 := Lib.hid f1
  clear h0 h1 f0 f1
  go_enter_defers Try.func72, Try.ntmps72
  go_wp2_with fail
  refine HL.out.mono ?_; rintro e w1 ⟨rfl, hw1⟩
  subst hw1
  go_wp2_with fail
  refine k0.out.mono ?_; rintro e w1 ⟨rfl, hw1⟩
  subst hw1
  go_wp2_with fail
  refine (HB.out _ rfl).mono ?_
  rintro e w2 ⟨rfl, ht⟩
  have t0 : w2.cell? ⟨b, off, none⟩ = some (.int .u32 0) := ht.done _ (set_off H0.out (by omega))
  have t1 : w2.cell? ⟨b, off + 1, none⟩ = some (.int .i32 1) := ht.lock _ (set_same H1.out)
  have g0 : w2.frozen? ⟨b, off, none⟩ = false := ht.same _ (by simpa using F0.out)
  have g1 : w2.frozen? ⟨b, off + 1, none⟩ = false := ht.same _ (by simpa using F1.out)
  have HT := Lib.hid ht
  clear ht
  go_wp2_with fail
  refine leaves_cons (f := 79) (args := #[.pointer (some ⟨b, off, none⟩), .bool true]) (by simp) (by simp [go_sem]) ?_
  refine (store_deferred ⟨b, off, none⟩ (.int .u32 0) .returning _ t0 g0).mono ?_
  rintro e u' w'' ⟨rfl, rfl, rfl⟩
  refine leaves_cons (f := 78) (args := #[.pointer (some ⟨b, off + 1, none⟩)]) (by simp [settle]) (by simp [go_sem]) ?_
  refine (unlock_deferred ⟨b, off + 1, none⟩ _ _ (set_off (w := w2.drew) t1 (by omega)) (by simpa using g1)).mono ?_
  rintro e u' w'' ⟨rfl, rfl, rfl⟩
  simp [Leaves, settle, results, Try.results72]
  have e2 : Exc [b] w2 ((w2.drew.setCell ⟨b, off, none⟩ (.int .u32 1)).setCell ⟨b, off + 1, none⟩ (.int .i32 0)) :=
    (((Exc.refl [b] w2).drewN 1).set (p := ⟨b, off, none⟩) (by simp) _).set (p := ⟨b, off + 1, none⟩) (by simp) _
  refine ⟨?_, ?_, ?_, ?_, hF _ _ HT.out.asked e2⟩
  · exact (((Exc.refl [b] w).set (p := ⟨b, off + 1, none⟩) (by simp) _).wide (by simp)).trans (HT.out.exc.trans (e2.wide (by simp)))
  · exact set_off (set_same (w := w2.drew) t0) (by omega)
  · exact set_off (set_off (w := w2.drew) HT.out.n (by omega)) (by omega)
  · exact set_off (set_off (w := w2.drew) HT.out.told (by omega)) (by omega)

theorem do59 (b off bm bx : Nat) (S : List Nat) (F : World → Prop) (v : Int) (w : World)
    (h0 : w.cell? ⟨b, off, none⟩ = some (.int .u32 0))
    (HS : Hid (Calls Try.prog 72 #[.pointer (some ⟨b, off, none⟩), .func (.func 60) #[] #[.pointer (some ⟨bm, 0, none⟩), .pointer (some ⟨bx, 0, none⟩)]] w fun e w' => e = .returned (.tuple #[]) ∧ DoneB b off S F v w w')) :
    Calls Try.prog 59 #[.pointer (some ⟨b, off, none⟩), .func (.func 60) #[] #[.pointer (some ⟨bm, 0, none⟩), .pointer (some ⟨bx, 0, none⟩)]] w fun e w' => e = .returned (.tuple #[]) ∧ DoneB b off S F v w w' := by
  have hnot : ∀ (x : Bool) (w : World), (Op.unary .not (.bool x)).run Try.prog w = .ok (.bool (!x)) w := fun _ _ => rfl
  have k0 := Lib.hid (bload71 ⟨b, off, none⟩ 0 false w rfl h0)
  clear h0
  go_enter Try.func59, Try.ntmps59
  go_wp2_with fail
  refine k0.out.mono ?_; rintro e w1 ⟨rfl, hw1⟩
  subst hw1
  go_wp2_with fail
  refine HS.out.mono ?_; rintro e w1 ⟨rfl, ht⟩
  have HT := Lib.hid ht
  clear ht
  go_wp2_with fail
  go_end0
  exact ⟨rfl, HT.out⟩

theorem do59_done (a : Addr) (fv : Value) (w : World) (h0 : w.cell? a = some (.int .u32 1)) :
    Calls Try.prog 59 #[.pointer (some a), fv] w fun e w' => e = .returned (.tuple #[]) ∧ w' = w := by
  have hnot : ∀ (x : Bool) (w : World), (Op.unary .not (.bool x)).run Try.prog w = .ok (.bool (!x)) w := fun _ _ => rfl
  have k0 := Lib.hid (bload71 a 1 true w rfl h0)
  clear h0
  go_enter Try.func59, Try.ntmps59
  go_wp2_with fail
  refine k0.out.mono ?_; rintro e w1 ⟨rfl, hw1⟩
  subst hw1
  go_wp2_with fail
  go_end0
  exact ⟨rfl, rfl⟩

theorem told25 (b off : Nat) (t : Bool) (w : World) (h : w.cell? ⟨b, off + 4, none⟩ = some (.bool t)) : Calls Try.prog 25 #[.pointer (some ⟨b, off, none⟩)] w fun e w' => e = .returned (.bool t) ∧ w' = w := by
  go_enter Try.func25, Try.ntmps25
  go_wp2
  go_ret
  exact ⟨rfl, rfl⟩

theorem told25_nil (w : World) : Calls Try.prog 25 #[.pointer none] w fun e w' => e = .returned (.bool false) ∧ w' = w := by
  go_enter Try.func25, Try.ntmps25
  go_wp2
  go_ret
  exact ⟨rfl, rfl⟩

theorem get22_nil (fv : Value) (w : World) (hf : (Value.oneCell' fv) = true) : Calls Try.prog 22 #[.pointer none, fv] w fun e w' => e = .returned (.int .i64 0) ∧ Below w.heap.size w w' := by
  have HB := Lib.hid (fun o o' => ((Below.refl w.heap.size w).alloc (Nat.le_refl _) o).alloc (by rw [World.size_alloc]; omega) o')
  go_enter Try.func22, Try.ntmps22
  go_wp2
  go_ret
  exact ⟨rfl, HB.out _ _⟩

set_option maxHeartbeats 800000 in
theorem get22 (b off : Nat) (S : List Nat) (F : World → Prop) (v : Int) (x3 x4 : Value) (w : World) (hbS : b ∉ S) (hS : ∀ x ∈ S, x < w.heap.size)
    (hF : ∀ W W', F W → Exc [b] W W' → F W')
    (h0 : w.cell? ⟨b, off, none⟩ = some (.int .u32 0)) (h1 : w.cell? ⟨b, off + 1, none⟩ = some (.int .i32 0)) (h3 : w.cell? ⟨b, off + 3, none⟩ = some x3) (h4 : w.cell? ⟨b, off + 4, none⟩ = some x4)
    (f0 : w.frozen? ⟨b, off, none⟩ = false) (f1 : w.frozen? ⟨b, off + 1, none⟩ = false) (f3 : w.frozen? ⟨b, off + 3, none⟩ = false) (f4 : w.frozen? ⟨b, off + 4, none⟩ = false)
    (HM : Hid (∀ W, Exc [b] w W → Calls Try.prog 58 #[] W fun e w' => e = .returned (.int .i64 v) ∧ Exc S W w' ∧ F w')) :
    Calls Try.prog 22 #[.pointer (some ⟨b, off, none⟩), .func (.func 58) #[] #[]] w fun e w' => e = .returned (.int .i64 v) ∧ DoneB b off S F v w w' := by
  have hbl : b < w.heap.size := block_lt_of_cell h0
  have HD : Hid (∀ w1, w1 = (w.alloc (.cells #[.pointer (some ⟨b, off, none⟩)] 63)).alloc (.cells #[.func (.func 58) #[] #[]] 35) →
      Calls Try.prog 59 #[.pointer (some ⟨b, off, none⟩), .func (.func 60) #[] #[.pointer (some ⟨w.heap.size + 1, 0, none⟩), .pointer (some ⟨w.heap.size, 0, none⟩)]] w1 fun e w' => e = .returned (.tuple #[]) ∧ DoneB b off S F v w1 w') := by
    intro w1 hw1
    have hE : Exc [b] w w1 := by rw [hw1]; exact ((Exc.refl [b] w).alloc _).alloc _
    have hx : w1.cell? ⟨w.heap.size, 0, none⟩ = some (.pointer (some ⟨b, off, none⟩)) := by
      rw [hw1, World.cell?_alloc_lt _ _ _ (by simp), cell_of_row _ _ 0 _ 63 (0, 0) (heap_alloc_new w _)]; rfl
    have hm : w1.cell? ⟨w.heap.size + 1, 0, none⟩ = some (.func (.func 58) #[] #[]) := by
      have e : w.heap.size + 1 = (w.alloc (.cells #[.pointer (some ⟨b, off, none⟩)] 63)).heap.size := by rw [World.size_alloc]
      rw [hw1, e, cell_of_row _ _ 0 _ 35 (0, 0) (heap_alloc_new _ _)]; rfl
    have hB : Below w.heap.size w w1 := by rw [hw1]; exact ((Below.refl w.heap.size w).alloc (Nat.le_refl _) _).alloc (by rw [World.size_alloc]; omega) _
    have c0 := (hB.cell (p := ⟨b, off, none⟩) hbl).trans h0
    have c1 := (hB.cell (p := ⟨b, off + 1, none⟩) hbl).trans h1
    have c3 := (hB.cell (p := ⟨b, off + 3, none⟩) hbl).trans h3
    have c4 := (hB.cell (p := ⟨b, off + 4, none⟩) hbl).trans h4
    have z0 := (hB.frozen (p := ⟨b, off, none⟩) hbl).trans f0
    have z1 := (hB.frozen (p := ⟨b, off + 1, none⟩) hbl).trans f1
    have z3 := (hB.frozen (p := ⟨b, off + 3, none⟩) hbl).trans f3
    have z4 := (hB.frozen (p := ⟨b, off + 4, none⟩) hbl).trans f4
    refine do59 b off _ _ S F v w1 c0 (slow72 b off _ _ S F v w1 hF c0 c1 z0 z1 ?_)
    intro w2 hw2
    have nx : ¬ w.heap.size = b := by omega
    have nm : ¬ w.heap.size + 1 = b := by omega
    have e2 : Exc [b] w1 w2 := by rw [hw2]; exact (Exc.refl [b] w1).set (p := ⟨b, off + 1, none⟩) (by simp) _
    refine body60 b off (w.heap.size + 1) w.heap.size S F v (.int .u32 0) (.int .i32 1) x3 x4 w2 hbS (fun h => by have := hS _ h; omega) (fun h => by have := hS _ h; omega) nx nm hF
      (by rw [hw2]; exact set_keep hm nm) (by rw [hw2]; exact set_keep hx nx) (by rw [hw2]; exact set_off c0 (by omega)) (by rw [hw2]; exact set_same c1) (by rw [hw2]; exact set_off c3 (by omega)) (by rw [hw2]; exact set_off c4 (by omega))
      (by rw [hw2]; simpa using z3) (by rw [hw2]; simpa using z4) ?_
    intro z
    exact HM.out _ ((hE.trans e2).drewN z)
  have HE : Hid (∀ w1 w', w1 = (w.alloc (.cells #[.pointer (some ⟨b, off, none⟩)] 63)).alloc (.cells #[.func (.func 58) #[] #[]] 35) → DoneB b off S F v w1 w' →
      DoneB b off S F v w w' ∧ w'.cell? ⟨w.heap.size, 0, none⟩ = some (.pointer (some ⟨b, off, none⟩))) := by
    intro w1 w' hw1 hd
    have hE : Exc (b :: S) w w1 := by rw [hw1]; exact ((Exc.refl _ w).alloc _).alloc _
    have hx : w1.cell? ⟨w.heap.size, 0, none⟩ = some (.pointer (some ⟨b, off, none⟩)) := by
      rw [hw1, World.cell?_alloc_lt _ _ _ (by simp), cell_of_row _ _ 0 _ 63 (0, 0) (heap_alloc_new w _)]; rfl
    refine ⟨⟨hE.trans hd.exc, hd.done, hd.n, hd.told, hd.asked⟩, hd.exc.cell hx ?_⟩
    intro h
    rcases List.mem_cons.1 h with h | h
    · have h' : w.heap.size = b := h
      omega
    · have h' : w.heap.size < w.heap.size := hS _ h
      omega
  clear hbS hS hF h0 h1 h3 h4 f0 f1 f3 f4 HM hbl
  have hmf : ∀ (fn : Fn) (first cap : Array Value) (w : World), (Instr.makeFunc fn first cap).run Try.prog w = .ok (.func fn first cap) w := fun _ _ _ _ => rfl
  go_enter Try.func22, Try.ntmps22
  go_wp2_with fail
  refine (HD.out _ rfl).mono ?_
  rintro e w2 ⟨rfl, hd⟩
  obtain ⟨hd', hx⟩ := HE.out _ _ rfl hd
  have HD' := Lib.hid hd'
  have hn := hd'.n
  clear hd hd'
  go_wp2_with fail
  go_ret
  exact ⟨rfl, HD'.out⟩

set_option maxHeartbeats 800000 in
theorem get22b (b off ba bn : Nat) (S : List Nat) (F : World → Prop) (v : Int) (x3 x4 : Value) (w : World) (hbS : b ∉ S) (hS : ∀ x ∈ S, x < w.heap.size)
    (hF : ∀ W W', F W → Exc [b] W W' → F W')
    (h0 : w.cell? ⟨b, off, none⟩ = some (.int .u32 0)) (h1 : w.cell? ⟨b, off + 1, none⟩ = some (.int .i32 0)) (h3 : w.cell? ⟨b, off + 3, none⟩ = some x3) (h4 : w.cell? ⟨b, off + 4, none⟩ = some x4)
    (f0 : w.frozen? ⟨b, off, none⟩ = false) (f1 : w.frozen? ⟨b, off + 1, none⟩ = false) (f3 : w.frozen? ⟨b, off + 3, none⟩ = false) (f4 : w.frozen? ⟨b, off + 4, none⟩ = false)
    (HM : Hid (∀ W, Exc [b] w W → Calls Try.prog 23 #[.pointer (some ⟨ba, 0, none⟩), .pointer (some ⟨bn, 0, none⟩)] W fun e w' => e = .returned (.int .i64 v) ∧ Exc S W w' ∧ F w')) :
    Calls Try.prog 22 #[.pointer (some ⟨b, off, none⟩), .func (.func 23) #[] #[.pointer (some ⟨ba, 0, none⟩), .pointer (some ⟨bn, 0, none⟩)]] w fun e w' => e = .returned (.int .i64 v) ∧ DoneB b off S F v w w' := by
  have hbl : b < w.heap.size := block_lt_of_cell h0
  have HD : Hid (∀ w1, w1 = (w.alloc (.cells #[.pointer (some ⟨b, off, none⟩)] 63)).alloc (.cells #[.func (.func 23) #[] #[.pointer (some ⟨ba, 0, none⟩), .pointer (some ⟨bn, 0, none⟩)]] 35) →
      Calls Try.prog 59 #[.pointer (some ⟨b, off, none⟩), .func (.func 60) #[] #[.pointer (some ⟨w.heap.size + 1, 0, none⟩), .pointer (some ⟨w.heap.size, 0, none⟩)]] w1 fun e w' => e = .returned (.tuple #[]) ∧ DoneB b off S F v w1 w') := by
    intro w1 hw1
    have hE : Exc [b] w w1 := by rw [hw1]; exact ((Exc.refl [b] w).alloc _).alloc _
    have hx : w1.cell? ⟨w.heap.size, 0, none⟩ = some (.pointer (some ⟨b, off, none⟩)) := by
      rw [hw1, World.cell?_alloc_lt _ _ _ (by simp), cell_of_row _ _ 0 _ 63 (0, 0) (heap_alloc_new w _)]; rfl
    have hm : w1.cell? ⟨w.heap.size + 1, 0, none⟩ = some (.func (.func 23) #[] #[.pointer (some ⟨ba, 0, none⟩), .pointer (some ⟨bn, 0, none⟩)]) := by
      have e : w.heap.size + 1 = (w.alloc (.cells #[.pointer (some ⟨b, off, none⟩)] 63)).heap.size := by rw [World.size_alloc]
      rw [hw1, e, cell_of_row _ _ 0 _ 35 (0, 0) (heap_alloc_new _ _)]; rfl
    have hB : Below w.heap.size w w1 := by rw [hw1]; exact ((Below.refl w.heap.size w).alloc (Nat.le_refl _) _).alloc (by rw [World.size_alloc]; omega) _
    have c0 := (hB.cell (p := ⟨b, off, none⟩) hbl).trans h0
    have c1 := (hB.cell (p := ⟨b, off + 1, none⟩) hbl).trans h1
    have c3 := (hB.cell (p := ⟨b, off + 3, none⟩) hbl).trans h3
    have c4 := (hB.cell (p := ⟨b, off + 4, none⟩) hbl).trans h4
    have z0 := (hB.frozen (p := ⟨b, off, none⟩) hbl).trans f0
    have z1 := (hB.frozen (p := ⟨b, off + 1, none⟩) hbl).trans f1
    have z3 := (hB.frozen (p := ⟨b, off + 3, none⟩) hbl).trans f3
    have z4 := (hB.frozen (p := ⟨b, off + 4, none⟩) hbl).trans f4
    refine do59 b off _ _ S F v w1 c0 (slow72 b off _ _ S F v w1 hF c0 c1 z0 z1 ?_)
    intro w2 hw2
    have nx : ¬ w.heap.size = b := by omega
    have nm : ¬ w.heap.size + 1 = b := by omega
    have e2 : Exc [b] w1 w2 := by rw [hw2]; exact (Exc.refl [b] w1).set (p := ⟨b, off + 1, none⟩) (by simp) _
    refine body60b b off (w.heap.size + 1) w.heap.size ba bn S F v (.int .u32 0) (.int .i32 1) x3 x4 w2 hbS (fun h => by have := hS _ h; omega) (fun h => by have := hS _ h; omega) nx nm hF
      (by rw [hw2]; exact set_keep hm nm) (by rw [hw2]; exact set_keep hx nx) (by rw [hw2]; exact set_off c0 (by omega)) (by rw [hw2]; exact set_same c1) (by rw [hw2]; exact set_off c3 (by omega)) (by rw [hw2]; exact set_off c4 (by omega))
      (by rw [hw2]; simpa using z3) (by rw [hw2]; simpa using z4) ?_
    intro z
    exact HM.out _ ((hE.trans e2).drewN z)
  have HE : Hid (∀ w1 w', w1 = (w.alloc (.cells #[.pointer (some ⟨b, off, none⟩)] 63)).alloc (.cells #[.func (.func 23) #[] #[.pointer (some ⟨ba, 0, none⟩), .pointer (some ⟨bn, 0, none⟩)]] 35) → DoneB b off S F v w1 w' →
      DoneB b off S F v w w' ∧ w'.cell? ⟨w.heap.size, 0, none⟩ = some (.pointer (some ⟨b, off, none⟩))) := by
    intro w1 w' hw1 hd
    have hE : Exc (b :: S) w w1 := by rw [hw1]; exact ((Exc.refl _ w).alloc _).alloc _
    have hx : w1.cell? ⟨w.heap.size, 0, none⟩ = some (.pointer (some ⟨b, off, none⟩)) := by
      rw [hw1, World.cell?_alloc_lt _ _ _ (by simp), cell_of_row _ _ 0 _ 63 (0, 0) (heap_alloc_new w _)]; rfl
    refine ⟨⟨hE.trans hd.exc, hd.done, hd.n, hd.told, hd.asked⟩, hd.exc.cell hx ?_⟩
    intro h
    rcases List.mem_cons.1 h with h | h
    · have h' : w.heap.size = b := h
      omega
    · have h' : w.heap.size < w.heap.size := hS _ h
      omega
  clear hbS hS hF h0 h1 h3 h4 f0 f1 f3 f4 HM hbl
  have hmf : ∀ (fn : Fn) (first cap : Array Value) (w : World), (Instr.makeFunc fn first cap).run Try.prog w = .ok (.func fn first cap) w := fun _ _ _ _ => rfl
  go_enter Try.func22, Try.ntmps22
  go_wp2_with fail
  refine (HD.out _ rfl).mono ?_
  rintro e w2 ⟨rfl, hd⟩
  obtain ⟨hd', hx⟩ := HE.out _ _ rfl hd
  have HD' := Lib.hid hd'
  have hn := hd'.n
  clear hd hd'
  go_wp2_with fail
  go_ret
  exact ⟨rfl, HD'.out⟩

set_option maxHeartbeats 800000 in
theorem get22_done (b off K : Nat) (caps : Array Value) (v : Int) (w : World) (h0 : w.cell? ⟨b, off, none⟩ = some (.int .u32 1)) (h3 : w.cell? ⟨b, off + 3, none⟩ = some (.int .i64 v)) :
    Calls Try.prog 22 #[.pointer (some ⟨b, off, none⟩), .func (.func K) #[] caps] w fun e w' => e = .returned (.int .i64 v) ∧ Below w.heap.size w w' := by
  have hbl : b < w.heap.size := block_lt_of_cell h0
  have HB := Lib.hid (fun o o' => ((Below.refl w.heap.size w).alloc (Nat.le_refl _) o).alloc (by rw [World.size_alloc]; omega) o')
  have HD : Hid (∀ fv, Calls Try.prog 59 #[.pointer (some ⟨b, off, none⟩), fv] ((w.alloc (.cells #[.pointer (some ⟨b, off, none⟩)] 63)).alloc (.cells #[.func (.func K) #[] caps] 35)) fun e w' => e = .returned (.tuple #[]) ∧ w' = ((w.alloc (.cells #[.pointer (some ⟨b, off, none⟩)] 63)).alloc (.cells #[.func (.func K) #[] caps] 35))) :=
    fun fv => do59_done _ fv _ ((HB.out _ _).cell (p := ⟨b, off, none⟩) hbl |>.trans h0)
  have c3 := fun o o' => ((HB.out o o').cell (p := ⟨b, off + 3, none⟩) hbl).trans h3
  have C3 := Lib.hid (c3 (.cells #[.pointer (some ⟨b, off, none⟩)] 63) (.cells #[.func (.func K) #[] caps] 35))
  clear h0 h3 hbl c3
  have hmf : ∀ (fn : Fn) (first cap : Array Value) (w : World), (Instr.makeFunc fn first cap).run Try.prog w = .ok (.func fn first cap) w := fun _ _ _ _ => rfl
  go_enter Try.func22, Try.ntmps22
  go_wp2_with fail
  refine (HD.out _).mono ?_
  rintro e w2 ⟨rfl, rfl⟩
  have c3 := C3.out
  go_wp2_with fail
  go_ret
  exact ⟨rfl, HB.out _ _⟩

end Go.Proofs.Ythohpeinmkdfeaa
