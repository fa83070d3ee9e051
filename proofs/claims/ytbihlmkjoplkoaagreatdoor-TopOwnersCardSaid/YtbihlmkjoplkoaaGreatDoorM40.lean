/-
  For the statement TopOwners: What is told once: contracts of sync.Once's parts (one goroutine); a version's Len, asked for the first time; A version's Len, asked for the first time.
-/
import Derived.Test.YtbihlmkjoplkoaaGreatDoorM39
import Derived.RegionCalls
import Derived.RegionTactic
/-
  What is told once: contracts of sync.Once's parts (one goroutine); a version's Len, asked for the first time.
-/
namespace Go.Proofs.YtbihlmkjoplkoaaGreatDoor
open Go.RowKit
set_option linter.unusedVariables false

theorem disable (w : World) : (callFunc 177 #[]).run Tryz.prog w = .ok (.value (.tuple #[])) w := run_call_mark0 Tryz.func177 (by kernel_rfl) (by kernel_rfl) (by kernel_rfl) .disable (by kernel_rfl) w
theorem enable (w : World) : (callFunc 179 #[]).run Tryz.prog w = .ok (.value (.tuple #[])) w := run_call_mark0 Tryz.func179 (by kernel_rfl) (by kernel_rfl) (by kernel_rfl) .enable (by kernel_rfl) w
theorem acquire (a : Addr) (w : World) : (callFunc 180 #[.pointer (some a)]).run Tryz.prog w = .ok (.value (.tuple #[])) w := run_call_marked Tryz.func180 (by kernel_rfl) (by kernel_rfl) (by kernel_rfl) .acquire (by kernel_rfl) a w
theorem releaseMerge (a : Addr) (w : World) : (callFunc 182 #[.pointer (some a)]).run Tryz.prog w = .ok (.value (.tuple #[])) w := run_call_marked Tryz.func182 (by kernel_rfl) (by kernel_rfl) (by kernel_rfl) .releaseMerge (by kernel_rfl) a w

theorem store_deferred (a : Addr) (x : Value) (u : FrameMode) (w : World) (hc : w.cell? a = some x) (hz : w.frozen? a = false) :
    CallsD Tryz.prog 139 #[.pointer (some a), .bool true] u w fun e u' w' => u' = u ∧ (e = .returned (.tuple #[]) ∧ w' = w.drew.setCell a (.int .u32 1)) := by
  have hc' : w.drew.cell? a = some x := by go_simp
  have hz' : w.drew.frozen? a = false := by go_simp
  have hst := run_call_store (P := Tryz.prog) Tryz.func162 (by kernel_rfl) (by kernel_rfl) (by kernel_rfl) (by kernel_rfl) (k := .u32) (y := 1) hc' hz'
  go_enter_d Tryz.func139, Tryz.ntmps139
  go_wp2
  go_region_calls
  all_goals (go_end0; exact ⟨rfl, rfl⟩)

set_option maxRecDepth 100000 in
set_option maxHeartbeats 1600000 in
theorem unlock_deferred (a : Addr) (u : FrameMode) (w : World) (hc : w.cell? a = some (.int .i32 1)) (hz : w.frozen? a = false) :
    CallsD Tryz.prog 138 #[.pointer (some a)] u w fun e u' w' => u' = u ∧ (e = .returned (.tuple #[]) ∧ w' = w.setCell a (.int .i32 0)) := by
  have hd := disable
  have he := enable
  have hr := releaseMerge
  have hadd := run_call_add (P := Tryz.prog) Tryz.func183 (by kernel_rfl) (by kernel_rfl) (by kernel_rfl) .i32 (by kernel_rfl) (y := -1) (s := 0) hc hz (by simp [go_sem]; rfl)
  have hcv := run_convert_to_unsafe (P := Tryz.prog) (src := 244) (dst := 216) Tryz.underlying244 Tryz.underlying216 (by kernel_rfl) hc
  go_enter_d Tryz.func138, Tryz.ntmps138
  go_wp2
  go_end0
  exact ⟨rfl, rfl⟩

set_option maxRecDepth 100000 in
set_option maxHeartbeats 1600000 in
theorem lock_free (a : Addr) (w : World) (hc : w.cell? a = some (.int .i32 0)) (hz : w.frozen? a = false) :
    Calls Tryz.prog 137 #[.pointer (some a)] w fun e w' => e = .returned (.tuple #[]) ∧ w' = w.setCell a (.int .i32 1) := by
  have hd := disable
  have he := enable
  have ha := acquire
  have hcas := run_call_cas_hit (P := Tryz.prog) Tryz.func178 (by kernel_rfl) (by kernel_rfl) (by kernel_rfl) .i32 (by kernel_rfl) (y := 1) hc hz
  have hc' : (w.setCell a (.int .i32 1)).cell? a = some (.int .i32 1) := World.cell?_setCell_same w a _ hc
  have hcv := run_convert_to_unsafe (P := Tryz.prog) (src := 244) (dst := 216) Tryz.underlying244 Tryz.underlying216 (by kernel_rfl) hc'
  go_enter Tryz.func137, Tryz.ntmps137
  go_wp2
  go_end0
  exact ⟨rfl, rfl⟩

theorem bload107 (a : Addr) (x : Int) (r : Bool) (w : World) (hr : (x != 0) = r) (hc : w.cell? a = some (.int .u32 x)) : Calls Tryz.prog 107 #[.pointer (some a)] w fun e w' => e = .returned (.bool r) ∧ w' = w := by
  have hl := run_call_load (P := Tryz.prog) Tryz.func136 (by kernel_rfl) (by kernel_rfl) (by kernel_rfl) .u32 (by kernel_rfl) hc
  go_enter Tryz.func107, Tryz.ntmps107
  go_wp2
  go_ret
  exact ⟨rfl, rfl⟩

/-- a version's cells -/
def VC (w : World) (v : Nat) (b : Nat) (r : Option Addr) (d s m n : Int) (t : Bool) : Prop :=
  w.heap[v]? = some (.cells #[.pointer (some ⟨b, 0, none⟩), .pointer r, .int .u32 d, .int .i32 s, .int .u32 m, .int .i64 n, .bool t] 106 (0, 0))
section
variable {w w' : World} {v b : Nat} {r : Option Addr} {d s m n : Int} {t : Bool}
theorem VC.ver (h : VC w v b r d s m n t) : Ver w v b r := ⟨_, _, _, _, _, h⟩
theorem VC.c1 (h : VC w v b r d s m n t) : w.cell? ⟨v, 1, none⟩ = some (.pointer r) := cell_row h 1
theorem VC.c2 (h : VC w v b r d s m n t) : w.cell? ⟨v, 2, none⟩ = some (.int .u32 d) := cell_row h 2
theorem VC.c3 (h : VC w v b r d s m n t) : w.cell? ⟨v, 3, none⟩ = some (.int .i32 s) := cell_row h 3
theorem VC.c5 (h : VC w v b r d s m n t) : w.cell? ⟨v, 5, none⟩ = some (.int .i64 n) := cell_row h 5
theorem VC.c6 (h : VC w v b r d s m n t) : w.cell? ⟨v, 6, none⟩ = some (.bool t) := cell_row h 6
theorem VC.free (h : VC w v b r d s m n t) (j : Nat) : w.frozen? ⟨v, j, none⟩ = false := frozen_of_row _ _ _ _ _ h
theorem VC.set2 (h : VC w v b r d s m n t) (x : Int) : VC (w.setCell ⟨v, 2, none⟩ (.int .u32 x)) v b r x s m n t := heap_setCell_same w v 2 _ 106 _ h
theorem VC.set3 (h : VC w v b r d s m n t) (x : Int) : VC (w.setCell ⟨v, 3, none⟩ (.int .i32 x)) v b r d x m n t := heap_setCell_same w v 3 _ 106 _ h
theorem VC.set5 (h : VC w v b r d s m n t) (x : Int) : VC (w.setCell ⟨v, 5, none⟩ (.int .i64 x)) v b r d s m x t := heap_setCell_same w v 5 _ 106 _ h
theorem VC.set6 (h : VC w v b r d s m n t) (x : Bool) : VC (w.setCell ⟨v, 6, none⟩ (.bool x)) v b r d s m n x := heap_setCell_same w v 6 _ 106 _ h
theorem VC.lt (h : VC w v b r d s m n t) : v < w.heap.size := heap_lt h
theorem VC.gw (h : VC w v b r d s m n t) (k : Gw w w') : VC w' v b r d s m n t := k.heap h
end

/-- what the closure that Len hands on tells: an int; memory has grown -/
def CntC (w : World) (c : Nat) : Prop := Calls Tryz.prog 51 #[.pointer (some ⟨c, 0, none⟩)] w fun e w' => (∃ N : Int, e = .returned (.int .i64 N)) ∧ Gw w w'

section
variable {w : World} {v b : Nat} {r : Option Addr} {d s m n : Int} {t : Bool}

set_option maxRecDepth 100000 in
set_option maxHeartbeats 1600000 in
theorem body75 (bm bx bc : Nat) (h : VC w v b r d s m n t) (hxb : ¬ bx = v) (hmb : ¬ bm = v)
    (hm : w.cell? ⟨bm, 0, none⟩ = some (.func (.func 51) #[] #[.pointer (some ⟨bc, 0, none⟩)])) (hx : w.cell? ⟨bx, 0, none⟩ = some (.pointer (some ⟨v, 2, none⟩)))
    (HM : Hid (CntC w.drew bc)) :
    Calls Tryz.prog 75 #[.pointer (some ⟨bm, 0, none⟩), .pointer (some ⟨bx, 0, none⟩)] w fun e w' => e = .returned (.tuple #[]) ∧ (∃ N, VC w' v b r d s m N true) ∧ Exc [v] w w' := by
  have H := Lib.hid h
  clear h
  go_enter Tryz.func75, Tryz.ntmps75
  go_wp2_with fail
  go_region_held3 (fun w' => w'.cell? ⟨bx, 0, none⟩ = some (.pointer (some ⟨v, 2, none⟩)) ∧ w'.cell? ⟨bm, 0, none⟩ = some (.func (.func 51) #[] #[.pointer (some ⟨bc, 0, none⟩)])) (first | (go_keep; done) | exact ⟨he.cell hx, he.cell hm⟩ | exact ⟨set_keep (he.cell hx) hxb, set_keep (he.cell hm) hmb⟩ | exact ⟨set_keep (set_keep (he.cell hx) hxb) hxb, set_keep (set_keep (he.cell hm) hmb) hmb⟩)
    ((go_at_call 51; refine HM.out.mono ?_; rintro e w' ⟨⟨N, rfl⟩, he0⟩; have he : Gw w w' := Gw.trans ((Gw.refl w).drewN 1) he0; have k := H.out.gw he; have c3 := k.c5; have c4 := k.c6; have z3 := k.free 5; have z4 := k.free 6))
  go_end0
  refine ⟨rfl, ⟨N, (k.set5 N).set6 true⟩, ?_⟩
  exact (Exc.ofBelow he [v]).trans (((Exc.refl _ _).set (p := ⟨v, 5, none⟩) (by simp) _).set (p := ⟨v, 6, none⟩) (by simp) _)


set_option maxRecDepth 100000 in
set_option maxHeartbeats 1600000 in
theorem slow108 (bm bx : Nat) (h : VC w v b r 0 0 m n t)
    (HB : Hid (∀ w1, w1 = w.setCell ⟨v, 3, none⟩ (.int .i32 1) → Calls Tryz.prog 75 #[.pointer (some ⟨bm, 0, none⟩), .pointer (some ⟨bx, 0, none⟩)] w1 fun e w' => e = .returned (.tuple #[]) ∧ (∃ N, VC w' v b r 0 1 m N true) ∧ Exc [v] w1 w')) :
    Calls Tryz.prog 108 #[.pointer (some ⟨v, 2, none⟩), .func (.func 75) #[] #[.pointer (some ⟨bm, 0, none⟩), .pointer (some ⟨bx, 0, none⟩)]] w fun e w' => e = .returned (.tuple #[]) ∧ (∃ N, VC w' v b r 1 0 m N true) ∧ Exc [v] w w' := by
  have hnot : ∀ (x : Bool) (w : World), (Op.unary .not (.bool x)).run Tryz.prog w = .ok (.bool (!x)) w := fun _ _ => rfl
  have HL := Lib.hid (lock_free ⟨v, 3, none⟩ w h.c3 (h.free 3))
  have k0 := Lib.hid (bload107 ⟨v, 2, none⟩ 0 false (w.setCell ⟨v, 3, none⟩ (.int .i32 1)) rfl (h.set3 1).c2)
  have H := Lib.hid h
  clear h
  go_enter_defers Tryz.func108, Tryz.ntmps108
  go_wp2_with fail
  refine HL.out.mono ?_; rintro e w1 ⟨rfl, hw1⟩
  subst hw1
  go_wp2_with fail
  refine k0.out.mono ?_; rintro e w1 ⟨rfl, hw1⟩
  subst hw1
  go_wp2_with fail
  refine (HB.out _ rfl).mono ?_
  rintro e w2 ⟨rfl, ⟨N, ht⟩, hx⟩
  have HT := Lib.hid ht
  have HX := Lib.hid hx
  clear ht hx
  go_wp2_with fail
  refine leaves_cons (f := 139) (args := #[.pointer (some ⟨v, 2, none⟩), .bool true]) (by simp) (by simp [go_sem]) ?_
  refine (store_deferred ⟨v, 2, none⟩ (.int .u32 0) .returning _ HT.out.c2 (HT.out.free 2)).mono ?_
  rintro e u' w'' ⟨rfl, rfl, rfl⟩
  have T2 : VC (w2.drew.setCell ⟨v, 2, none⟩ (.int .u32 1)) v b r 1 1 m N true := VC.set2 (w := w2.drew) HT.out 1
  refine leaves_cons (f := 138) (args := #[.pointer (some ⟨v, 3, none⟩)]) (by simp [settle]) (by simp [go_sem]) ?_
  refine (unlock_deferred ⟨v, 3, none⟩ _ _ T2.c3 (T2.free 3)).mono ?_
  rintro e u' w'' ⟨rfl, rfl, rfl⟩
  simp [Leaves, settle, results, Tryz.results108]
  refine ⟨⟨N, T2.set3 0⟩, ?_⟩
  have e2 : Exc [v] w2 ((w2.drew.setCell ⟨v, 2, none⟩ (.int .u32 1)).setCell ⟨v, 3, none⟩ (.int .i32 0)) :=
    (((Exc.refl [v] w2).drewN 1).set (p := ⟨v, 2, none⟩) (by simp) _).set (p := ⟨v, 3, none⟩) (by simp) _
  exact (((Exc.refl [v] w).set (p := ⟨v, 3, none⟩) (by simp) _).trans HX.out).trans e2

theorem do74 (bm bx : Nat) (h : VC w v b r 0 0 m n t)
    (HS : Hid (Calls Tryz.prog 108 #[.pointer (some ⟨v, 2, none⟩), .func (.func 75) #[] #[.pointer (some ⟨bm, 0, none⟩), .pointer (some ⟨bx, 0, none⟩)]] w fun e w' => e = .returned (.tuple #[]) ∧ (∃ N, VC w' v b r 1 0 m N true) ∧ Exc [v] w w')) :
    Calls Tryz.prog 74 #[.pointer (some ⟨v, 2, none⟩), .func (.func 75) #[] #[.pointer (some ⟨bm, 0, none⟩), .pointer (some ⟨bx, 0, none⟩)]] w fun e w' => e = .returned (.tuple #[]) ∧ (∃ N, VC w' v b r 1 0 m N true) ∧ Exc [v] w w' := by
  have hnot : ∀ (x : Bool) (w : World), (Op.unary .not (.bool x)).run Tryz.prog w = .ok (.bool (!x)) w := fun _ _ => rfl
  have k0 := Lib.hid (bload107 ⟨v, 2, none⟩ 0 false w rfl h.c2)
  clear h
  go_enter Tryz.func74, Tryz.ntmps74
  go_wp2_with fail
  refine k0.out.mono ?_; rintro e w1 ⟨rfl, hw1⟩
  subst hw1
  go_wp2_with fail
  refine HS.out.mono ?_; rintro e w1 ⟨rfl, ht⟩
  have HT := Lib.hid ht
  clear ht
  go_wp2_with fail
  go_end0
  exact ⟨rfl, HT.out⟩

set_option maxRecDepth 100000 in
set_option maxHeartbeats 1600000 in
theorem get50 (c : Nat) (h : VC w v b r 0 0 m n t) (HM : Hid (∀ W, Exc [v] w W → VC W v b r 0 1 m n t → CntC W c)) :
    Calls Tryz.prog 50 #[.pointer (some ⟨v, 2, none⟩), .func (.func 51) #[] #[.pointer (some ⟨c, 0, none⟩)]] w fun e w' => (∃ N : Int, e = .returned (.int .i64 N)) ∧ (∃ N, VC w' v b r 1 0 m N true) ∧ Exc [v] w w' := by
  have hv := h.lt
  have HD : Hid (∀ w1, w1 = (w.alloc (.cells #[.pointer (some ⟨v, 2, none⟩)] 151)).alloc (.cells #[.func (.func 51) #[] #[.pointer (some ⟨c, 0, none⟩)]] 84) →
      Calls Tryz.prog 74 #[.pointer (some ⟨v, 2, none⟩), .func (.func 75) #[] #[.pointer (some ⟨w.heap.size + 1, 0, none⟩), .pointer (some ⟨w.heap.size, 0, none⟩)]] w1 fun e w' => e = .returned (.tuple #[]) ∧ (∃ N, VC w' v b r 1 0 m N true) ∧ Exc [v] w1 w') := by
    intro w1 hw1
    have hg : Gw w w1 := by rw [hw1]; exact ((Gw.refl w).alloc _).alloc _
    have h1 := h.gw hg
    have hx : w1.cell? ⟨w.heap.size, 0, none⟩ = some (.pointer (some ⟨v, 2, none⟩)) := by
      rw [hw1, World.cell?_alloc_lt _ _ _ (by simp), cell_of_row _ _ 0 _ 151 (0, 0) (heap_alloc_new w _)]; rfl
    have hm : w1.cell? ⟨w.heap.size + 1, 0, none⟩ = some (.func (.func 51) #[] #[.pointer (some ⟨c, 0, none⟩)]) := by
      have e : w.heap.size + 1 = (w.alloc (.cells #[.pointer (some ⟨v, 2, none⟩)] 151)).heap.size := by rw [World.size_alloc]
      rw [hw1, e, cell_of_row _ _ 0 _ 84 (0, 0) (heap_alloc_new _ _)]; rfl
    refine do74 _ _ h1 (slow108 _ _ h1 ?_)
    intro w2 hw2
    have e2 : Exc [v] w1 w2 := by rw [hw2]; exact (Exc.refl [v] w1).set (p := ⟨v, 3, none⟩) (by simp) _
    have h2 : VC w2 v b r 0 1 m n t := by rw [hw2]; exact h1.set3 1
    refine body75 _ _ c h2 (by omega) (by omega) (by rw [hw2]; exact set_keep hm (by show ¬ w.heap.size + 1 = v; omega)) (by rw [hw2]; exact set_keep hx (by show ¬ w.heap.size = v; omega)) ?_
    exact HM.out w2.drew (((Exc.ofBelow hg [v]).trans e2).drewN 1) h2
  have HE : Hid (∀ w1 w', w1 = (w.alloc (.cells #[.pointer (some ⟨v, 2, none⟩)] 151)).alloc (.cells #[.func (.func 51) #[] #[.pointer (some ⟨c, 0, none⟩)]] 84) → Exc [v] w1 w' → Exc [v] w w' ∧ w'.cell? ⟨w.heap.size, 0, none⟩ = some (.pointer (some ⟨v, 2, none⟩))) := by
    intro w1 w' hw1 hd
    have hg : Gw w w1 := by rw [hw1]; exact ((Gw.refl w).alloc _).alloc _
    have hx : w1.cell? ⟨w.heap.size, 0, none⟩ = some (.pointer (some ⟨v, 2, none⟩)) := by
      rw [hw1, World.cell?_alloc_lt _ _ _ (by simp), cell_of_row _ _ 0 _ 151 (0, 0) (heap_alloc_new w _)]; rfl
    exact ⟨(Exc.ofBelow hg [v]).trans hd, hd.cell hx (by show w.heap.size ∉ [v]; simp; omega)⟩
  clear h hv HM
  have hmf : ∀ (fn : Fn) (first cap : Array Value) (w : World), (Instr.makeFunc fn first cap).run Tryz.prog w = .ok (.func fn first cap) w := fun _ _ _ _ => rfl
  go_enter Tryz.func50, Tryz.ntmps50
  go_wp2_with fail
  refine (HD.out _ rfl).mono ?_
  rintro e w2 ⟨rfl, ⟨N, hd⟩, hex⟩
  obtain ⟨hd', hx⟩ := HE.out _ _ rfl hex
  have HD' := Lib.hid (And.intro hd hd')
  have hn := hd.c5
  clear hd hd' hex
  go_wp2_with fail
  go_ret
  exact ⟨⟨_, rfl⟩, ⟨N, HD'.out.1⟩, HD'.out.2⟩

end
end Go.Proofs.YtbihlmkjoplkoaaGreatDoor
/-
  A version's Len, asked for the first time.
-/
namespace Go.Proofs.YtbihlmkjoplkoaaGreatDoor
open Go.RowKit
set_option linter.unusedVariables false

section
variable {B : Nat} {w : World} {S : Store} {v b : Nat} {d s m n : Int} {k : Bool} {t : T}

theorem closure51 {c : Nat} {w : World} (hc : w.cell? ⟨c, 0, none⟩ = some (.pointer (some ⟨v, 0, none⟩))) (h : w.cell? ⟨v, 1, none⟩ = some (.pointer (pt t.ptr))) (hs : Sto B w S) (hB : B ≤ w.heap.size) (hr : Rep S t) {hd : List Int} (ha : t.All Short hd) (hn : 65560 * t.cnt (fun _ => true) ≤ 140737488351000) :
    CntC w c := by
  have HC := Lib.hid (Count52 hs hB hr ha hn)
  clear hs hB hr ha hn
  unfold CntC
  generalize pt t.ptr = kp at *
  go_enter Tryz.func51, Tryz.ntmps51
  go_wp2_with fail
  refine HC.out.mono ?_; rintro e w1 ⟨⟨N, rfl⟩, hb⟩
  have HB := Lib.hid hb
  clear hb
  go_wp2_with fail
  go_ret
  exact ⟨⟨N, rfl⟩, HB.out⟩

set_option maxRecDepth 100000 in
set_option maxHeartbeats 1600000 in
theorem Len31 (h : VC w v b (pt t.ptr) 0 0 m n k) (hv : B ≤ v) (hs : Sto B w S) (hB : B ≤ w.heap.size) (hr : Rep S t) {hd : List Int} (ha : t.All Short hd) (hn : 65560 * t.cnt (fun _ => true) ≤ 140737488351000) :
    Calls Tryz.prog 31 #[.pointer (some ⟨v, 0, none⟩)] w fun e w' => (∃ N : Int, e = .returned (.int .i64 N)) ∧ (∃ N, VC w' v b (pt t.ptr) 1 0 m N true) ∧ Exc [v] w w' := by
  have hlt := h.lt
  have hg : Gw w (w.alloc (.cells #[.pointer (some ⟨v, 0, none⟩)] 28)) := (Gw.refl _).alloc _
  have h1 := h.gw hg
  have hc : (w.alloc (.cells #[.pointer (some ⟨v, 0, none⟩)] 28)).cell? ⟨w.heap.size, 0, none⟩ = some (.pointer (some ⟨v, 0, none⟩)) := by rw [cell_row (heap_alloc_new w (.cells #[.pointer (some ⟨v, 0, none⟩)] 28))]; rfl
  have HO := Lib.hid (ok44 h1.ver)
  have HM := Lib.hid (get50 (w := w.alloc (.cells #[.pointer (some ⟨v, 0, none⟩)] 28)) w.heap.size h1 (fun W hx hV => by
    refine closure51 (hx.cell hc (by show w.heap.size ∉ [v]; simp; omega)) hV.c1 ?_ (Nat.le_trans hB (Nat.le_trans hg.size hx.size)) hr ha hn
    exact (hs.step hg).excOne h1 (by simp [stT]) (by decide) hv hx))
  have HG := Lib.hid (Exc.ofBelow hg [v])
  clear h h1 hv hs hB hr ha hn hlt hg
  have hmf : ∀ (fn : Fn) (first cap : Array Value) (w : World), (Instr.makeFunc fn first cap).run Tryz.prog w = .ok (.func fn first cap) w := fun _ _ _ _ => rfl
  generalize pt t.ptr = kp at *
  go_enter Tryz.func31, Tryz.ntmps31
  go_wp2_with fail
  refine HO.out.mono ?_; rintro e w1 ⟨rfl, hw1⟩
  rw [hw1]; clear hw1 w1
  go_wp2_with fail
  refine HM.out.mono ?_; rintro e w1 ⟨⟨N, rfl⟩, hd, hex⟩
  have HD := Lib.hid hd
  have HX := Lib.hid hex
  clear hd hex
  go_wp2_with fail
  go_ret
  exact ⟨⟨N, rfl⟩, HD.out, HG.out.trans HX.out⟩
end
end Go.Proofs.YtbihlmkjoplkoaaGreatDoor
