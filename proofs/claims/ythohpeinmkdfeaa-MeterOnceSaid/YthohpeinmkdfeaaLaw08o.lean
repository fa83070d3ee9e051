/-
  The walk of the statement MeterOnce.
-/
import Derived.Test.YthohpeinmkdfeaaAsk
namespace Go.Proofs.Ythohpeinmkdfeaa
open Go.RowKit
set_option linter.unusedVariables false

structure OnF (w wr : World) : Prop where
  x0 : Var wr w.heap.size 0 (.int .u32 0)
  x1 : Var wr w.heap.size 1 (.int .i32 0)
  x3 : Var wr w.heap.size 3 (.int .i64 0)
  x4 : Var wr w.heap.size 4 (.bool false)
  r0 : Var wr (w.heap.size + 1) 0 (.int .i64 0)
  r1 : Var wr (w.heap.size + 1) 1 (.bool false)
  a : Var wr (w.heap.size + 1 + 1) 0 (.int .i64 0)
  below : Below w.heap.size w wr

structure OnT (w wr : World) (v : Int) : Prop where
  c0 : wr.cell? ⟨w.heap.size, 0, none⟩ = some (.int .u32 1)
  c3 : wr.cell? ⟨w.heap.size, 3, none⟩ = some (.int .i64 v)
  c4 : wr.cell? ⟨w.heap.size, 4, none⟩ = some (.bool true)
  r0 : Var wr (w.heap.size + 1) 0 (.int .i64 v)
  r1 : Var wr (w.heap.size + 1) 1 (.bool true)
  a : wr.cell? ⟨w.heap.size + 1 + 1, 0, none⟩ = some (.int .i64 1)
  below : Below w.heap.size w wr

theorem OnF.step {w wr w' : World} (h : OnF w wr) (k : Below wr.heap.size wr w') : OnF w w' :=
  ⟨h.x0.step k, h.x1.step k, h.x3.step k, h.x4.step k, h.r0.step k, h.r1.step k, h.a.step k, Below.step h.below k⟩
theorem OnT.step {w wr w' : World} {v : Int} (h : OnT w wr v) (k : Below wr.heap.size wr w') : OnT w w' v :=
  ⟨(k.cell (p := ⟨w.heap.size, 0, none⟩) (block_lt_of_cell h.c0)).trans h.c0, (k.cell (p := ⟨w.heap.size, 3, none⟩) (block_lt_of_cell h.c3)).trans h.c3, (k.cell (p := ⟨w.heap.size, 4, none⟩) (block_lt_of_cell h.c4)).trans h.c4,
   h.r0.step k, h.r1.step k, (k.cell (p := ⟨w.heap.size + 1 + 1, 0, none⟩) (block_lt_of_cell h.a)).trans h.a, Below.step h.below k⟩
theorem OnF.start (w : World) : OnF w (((w.alloc (.cells #[.int .u32 0, .int .i32 0, .int .u32 0, .int .i64 0, .bool false] 62)).alloc (.cells #[.int .i64 0, .bool false] 65)).alloc (.cells #[.int .i64 0] 3)) := by
  have s1 : (w.alloc (.cells #[.int .u32 0, .int .i32 0, .int .u32 0, .int .i64 0, .bool false] 62)).heap.size = w.heap.size + 1 := World.size_alloc _ _
  have s2 : ((w.alloc (.cells #[.int .u32 0, .int .i32 0, .int .u32 0, .int .i64 0, .bool false] 62)).alloc (.cells #[.int .i64 0, .bool false] 65)).heap.size = w.heap.size + 1 + 1 := by rw [World.size_alloc, s1]
  exact ⟨((Var.new rfl rfl).alloc _).alloc _, ((Var.new rfl rfl).alloc _).alloc _, ((Var.new rfl rfl).alloc _).alloc _, ((Var.new rfl rfl).alloc _).alloc _,
    (Var.new s1.symm rfl).alloc _, (Var.new s1.symm rfl).alloc _, Var.new s2.symm rfl, (((Below.refl _ _).alloc (Nat.le_refl _) _).alloc (by omega) _).alloc (by omega) _⟩

/-- behind the first Get -/
structure OnT0 (w wr : World) (v : Int) : Prop where
  c0 : wr.cell? ⟨w.heap.size, 0, none⟩ = some (.int .u32 1)
  c3 : wr.cell? ⟨w.heap.size, 3, none⟩ = some (.int .i64 v)
  c4 : wr.cell? ⟨w.heap.size, 4, none⟩ = some (.bool true)
  r0 : Var wr (w.heap.size + 1) 0 (.int .i64 0)
  r1 : Var wr (w.heap.size + 1) 1 (.bool false)
  a : wr.cell? ⟨w.heap.size + 1 + 1, 0, none⟩ = some (.int .i64 1)
  below : Below w.heap.size w wr
theorem OnT0.step {w wr w' : World} {v : Int} (h : OnT0 w wr v) (k : Below wr.heap.size wr w') : OnT0 w w' v :=
  ⟨(k.cell (p := ⟨w.heap.size, 0, none⟩) (block_lt_of_cell h.c0)).trans h.c0, (k.cell (p := ⟨w.heap.size, 3, none⟩) (block_lt_of_cell h.c3)).trans h.c3, (k.cell (p := ⟨w.heap.size, 4, none⟩) (block_lt_of_cell h.c4)).trans h.c4,
   h.r0.step k, h.r1.step k, (k.cell (p := ⟨w.heap.size + 1 + 1, 0, none⟩) (block_lt_of_cell h.a)).trans h.a, Below.step h.below k⟩

theorem OnT0.put {w wr W : World} {v : Int} {o : Obj} (h : OnT0 w wr v) (hW : W = ((wr.setCell ⟨w.heap.size + 1, 0, none⟩ (.int .i64 v)).setCell ⟨w.heap.size + 1, 1, none⟩ (.bool true)).alloc o) : OnT w W v := by
  have hb := h.below.size
  have e : ∀ {b j : Nat} {u : Value}, ¬ b = w.heap.size + 1 → wr.cell? ⟨b, j, none⟩ = some u → W.cell? ⟨b, j, none⟩ = some u := by
    intro b j u hne hc
    rw [hW, World.cell?_alloc_past _ _ _ (by have := block_lt_of_cell hc; simpa using this)]
    exact set_keep (set_keep hc hne) hne
  refine ⟨e (by omega) h.c0, e (by omega) h.c3, e (by omega) h.c4, ?_, ?_, e (by omega) h.a, ?_⟩
  · rw [hW]; exact ((h.r0.set).off (by omega)).alloc _
  · rw [hW]; exact ((h.r1.off (by omega)).set).alloc _
  · rw [hW]
    refine ((h.below.setCell (p := ⟨w.heap.size + 1, 0, none⟩) (Nat.le_succ _) _).setCell (p := ⟨w.heap.size + 1, 1, none⟩) (Nat.le_succ _) _).alloc ?_ _
    simpa using hb
theorem OnT.put {w wr W : World} {v : Int} {o : Obj} (h : OnT w wr v) (hW : W = ((wr.setCell ⟨w.heap.size + 1, 0, none⟩ (.int .i64 v)).setCell ⟨w.heap.size + 1, 1, none⟩ (.bool true)).alloc o) : OnT w W v := by
  have hb := h.below.size
  have e : ∀ {b j : Nat} {u : Value}, ¬ b = w.heap.size + 1 → wr.cell? ⟨b, j, none⟩ = some u → W.cell? ⟨b, j, none⟩ = some u := by
    intro b j u hne hc
    rw [hW, World.cell?_alloc_past _ _ _ (by have := block_lt_of_cell hc; simpa using this)]
    exact set_keep (set_keep hc hne) hne
  refine ⟨e (by omega) h.c0, e (by omega) h.c3, e (by omega) h.c4, ?_, ?_, e (by omega) h.a, ?_⟩
  · rw [hW]; exact ((h.r0.set).off (by omega)).alloc _
  · rw [hW]; exact ((h.r1.off (by omega)).set).alloc _
  · rw [hW]
    refine ((h.below.setCell (p := ⟨w.heap.size + 1, 0, none⟩) (Nat.le_succ _) _).setCell (p := ⟨w.heap.size + 1, 1, none⟩) (Nat.le_succ _) _).alloc ?_ _
    simpa using hb

/-- the first Get, whatever was there -/
theorem OnF.get {w wr w1 : World} {z : Int} (h : OnF w wr) (bn : Nat) (hw1 : Below wr.heap.size wr w1) (hn : w1.cell? ⟨bn, 0, none⟩ = some (.int .i32 z)) (hbn : wr.heap.size ≤ bn) (hz : IntKind.i64.wrap z = z) :
    Calls Try.prog 22 #[.pointer (some ⟨w.heap.size, 0, none⟩), .func (.func 23) #[] #[.pointer (some ⟨w.heap.size + 1 + 1, 0, none⟩), .pointer (some ⟨bn, 0, none⟩)]] w1 fun e w' => e = .returned (.int .i64 z) ∧
      OnT0 w w' z ∧ w'.cell? ⟨bn, 0, none⟩ = some (.int .i32 z) := by
  have g := h.step hw1
  have hlt : w.heap.size + 1 + 1 < w1.heap.size := g.a.lt
  have hltr : w.heap.size + 1 + 1 < wr.heap.size := h.a.lt
  refine (get22b w.heap.size 0 (w.heap.size + 1 + 1) bn [w.heap.size + 1 + 1] (fun W => W.cell? ⟨w.heap.size + 1 + 1, 0, none⟩ = some (.int .i64 1)) z _ _ w1 (by simp; omega) (by simp; exact hlt) ?_ g.x0.cell g.x1.cell g.x3.cell g.x4.cell g.x0.free g.x1.free g.x3.free g.x4.free ?_).mono ?_
  · intro W W' hF hE
    exact hE.cell hF (by simp; omega)
  · intro W hE
    refine (ask23 (w.heap.size + 1 + 1) bn 0 z 1 W (hE.var g.a (by simp; omega)) (hE.cell hn (by simp; omega)) (by omega) rfl hz).mono ?_
    rintro e w' ⟨he, hw⟩
    have va := hE.var g.a (by simp; omega)
    exact ⟨he, by rw [hw]; exact (Exc.refl _ _).set (p := ⟨w.heap.size + 1 + 1, 0, none⟩) (by simp) _, by rw [hw]; exact va.set.cell⟩
  · rintro e w' ⟨he, hd⟩
    refine ⟨he, ⟨hd.done, hd.n, hd.told, hd.exc.var g.r0 (by simp), hd.exc.var g.r1 (by simp), hd.asked, hd.exc.below g.below (by simp; omega) g.below.size⟩, hd.exc.cell hn (by simp; omega)⟩

set_option maxRecDepth 100000 in
set_option maxHeartbeats 1600000 in
theorem once_few (p : Option Addr) (n c : Nat) (w : World) (zs : List Int) (w0 : RawI w p n c zs) (h50 : (n : Int) ≤ 50) :
    Calls Try.prog 5 #[.slice p n c] w fun e w' => e = .returned (.bool true) ∧ Below w.heap.size w w' := by
  have hcap := w0.cap
  have hbig := w0.big
  have HR := Lib.hid w0
  have HS := Lib.hid (OnF.start w)
  clear w0
  have hmf : ∀ (fn : Fn) (first cap : Array Value) (w : World), (Instr.makeFunc fn first cap).run Try.prog w = .ok (.func fn first cap) w := fun _ _ _ _ => rfl
  have hnot : ∀ (x : Bool) (w : World), (Op.unary .not (.bool x)).run Try.prog w = .ok (.bool (!x)) w := fun _ _ => rfl
  go_enter Try.func5, Try.ntmps5
  go_wp2_with fail
  go_loopw [19] (fun t wr => ∃ (k : Nat), t = .int .i64 k ∧ k ≤ n ∧ ((k = 0 ∧ Hid (OnF w wr)) ∨ (0 < k ∧ ∃ v, Hid (OnT w wr v)))) (fun t _ => n - (intOf t).toNat)
  case atStart => exact ⟨0, rfl, by omega, Or.inl ⟨rfl, HS⟩⟩
  case round =>
    obtain ⟨k, rfl, hk, hrel⟩ := hrel
    by_cases hlt : k < n
    · obtain ⟨b, o, rfl, hc⟩ := HR.out.cells (by omega)
      have g := hc k (by omega)
      have hz := HR.out.get k
      obtain ⟨z, hzz⟩ : ∃ z, zs.getD k 0 = z := ⟨_, rfl⟩
      rw [hzz] at g hz
      have hblt : b < w.heap.size := block_lt_of_cell g
      have hbel : Below w.heap.size w wr := by
        rcases hrel with ⟨_, h⟩ | ⟨_, v, h⟩
        · exact h.out.below
        · exact h.out.below
      rw [← hbel.cell (p := ⟨b, o + k, none⟩) hblt] at g
      have qz : IntKind.i64.wrap z = z := IntWalk.i64_in _ (by omega)
      have d0 : decide ((k : Int) < (n : Int)) = true := by simp; omega
      have q1 : (z != z) = false := by simp
      clear hc hz hzz hbel
      rcases hrel with ⟨hk0, hon⟩ | ⟨hk0, v, hon⟩
      · clear hk0
        go_wp2_with fail
        obtain ⟨w1, hw1⟩ : ∃ w1, w1 = (wr.alloc (.cells #[.int .i64 k] 3)).alloc (.cells #[.int .i32 z] 21) := ⟨_, rfl⟩
        rw [← hw1]
        have hb1 : Below wr.heap.size wr w1 := by rw [hw1]; exact ((Below.refl _ _).alloc (Nat.le_refl _) _).alloc (by rw [World.size_alloc]; omega) _
        have hn1 : w1.cell? ⟨wr.heap.size + 1, 0, none⟩ = some (.int .i32 z) := by rw [hw1]; exact (Var.new (by rw [World.size_alloc]) rfl).cell
        clear hw1
        refine (hon.out.get (wr.heap.size + 1) hb1 hn1 (Nat.le_succ _) qz).mono ?_
        rintro e w2 ⟨rfl, ht, hn2⟩
        have HT := Lib.hid ht
        have g0 := ht.r0.cell
        have g1 := ht.r1.cell
        clear ht hb1 hn1
        go_wp2_with fail
        refine (rget24_no 0 z _).mono ?_
        rintro e w3 ⟨rfl, hbel⟩
        have ht := HT.out.step hbel
        have HT3 := Lib.hid ht
        have c0 := ht.r0.cell
        have c1 := ht.r1.cell
        have z0 := ht.r0.free
        have z1 := ht.r1.free
        have l0 := ht.r0.lt
        have ca := ht.a
        have la : w.heap.size + 1 + 1 < w3.heap.size := block_lt_of_cell ht.a
        clear hbel ht g0 g1 hn2
        go_wp2_with fail
        obtain ⟨w4, hw4⟩ : ∃ w4, w4 = ((w3.setCell ⟨w.heap.size + 1, 0, none⟩ (.int .i64 z)).setCell ⟨w.heap.size + 1, 1, none⟩ (.bool true)).alloc (.cells #[.int .i64 z, .bool true] 65) := ⟨_, rfl⟩
        rw [← hw4]
        have HT4 := Lib.hid (HT3.out.put hw4)
        clear hw4 c0 c1 z0 z1 l0 ca la HT HT3
        refine (told25 w.heap.size 0 true w4 HT4.out.c4).mono ?_
        rintro e w' ⟨rfl, hw'⟩
        rw [hw']; clear hw' w'
        go_wp2_with fail
        refine (get22_nil _ _ rfl).mono ?_
        rintro e w5 ⟨rfl, hbel⟩
        have HT5 := Lib.hid (HT4.out.step hbel)
        clear hbel HT4
        go_wp2_with fail
        go_roundw
        case rel => exact ⟨k + 1, by go_num, by omega, Or.inr ⟨by omega, z, HT5⟩⟩
        case measure => simp [intOf]; omega
      · go_wp2_with fail
        obtain ⟨w1, hw1⟩ : ∃ w1, w1 = (wr.alloc (.cells #[.int .i64 k] 3)).alloc (.cells #[.int .i32 z] 21) := ⟨_, rfl⟩
        rw [← hw1]
        have hb1 : Below wr.heap.size wr w1 := by rw [hw1]; exact ((Below.refl _ _).alloc (Nat.le_refl _) _).alloc (by rw [World.size_alloc]; omega) _
        have hn1 : w1.cell? ⟨wr.heap.size + 1, 0, none⟩ = some (.int .i32 z) := by rw [hw1]; exact (Var.new (by rw [World.size_alloc]) rfl).cell
        clear hw1
        have ht := hon.out.step hb1
        refine (get22_done w.heap.size 0 23 _ v w1 ht.c0 ht.c3).mono ?_
        rintro e w2 ⟨rfl, hbel⟩
        have ht2 := ht.step hbel
        have hn2 := (hbel.cell (p := ⟨wr.heap.size + 1, 0, none⟩) (block_lt_of_cell hn1)).trans hn1
        have HT := Lib.hid ht2
        have g0 := ht2.r0.cell
        have g1 := ht2.r1.cell
        clear hbel ht ht2 hb1 hn1
        go_wp2_with fail
        refine (rget24_yes v z _).mono ?_
        rintro e w3 ⟨rfl, hbel⟩
        have ht := HT.out.step hbel
        have HT3 := Lib.hid ht
        have c0 := ht.r0.cell
        have c1 := ht.r1.cell
        have z0 := ht.r0.free
        have z1 := ht.r1.free
        have l0 := ht.r0.lt
        have ca := ht.a
        have la : w.heap.size + 1 + 1 < w3.heap.size := block_lt_of_cell ht.a
        clear hbel ht g0 g1 hn2
        go_wp2_with fail
        obtain ⟨w4, hw4⟩ : ∃ w4, w4 = ((w3.setCell ⟨w.heap.size + 1, 0, none⟩ (.int .i64 v)).setCell ⟨w.heap.size + 1, 1, none⟩ (.bool true)).alloc (.cells #[.int .i64 v, .bool true] 65) := ⟨_, rfl⟩
        rw [← hw4]
        have HT4 := Lib.hid (HT3.out.put hw4)
        clear hw4 c0 c1 z0 z1 l0 ca la HT HT3
        refine (told25 w.heap.size 0 true w4 HT4.out.c4).mono ?_
        rintro e w' ⟨rfl, hw'⟩
        rw [hw']; clear hw' w'
        go_wp2_with fail
        refine (get22_nil _ _ rfl).mono ?_
        rintro e w5 ⟨rfl, hbel⟩
        have HT5 := Lib.hid (HT4.out.step hbel)
        clear hbel HT4
        go_wp2_with fail
        go_roundw
        case rel => exact ⟨k + 1, by go_num, by omega, Or.inr ⟨by omega, v, HT5⟩⟩
        case measure => simp [intOf]; omega
    · obtain rfl : k = n := by omega
      have d0 : decide ((k : Int) < (k : Int)) = false := by simp
      rcases hrel with ⟨hk0, hon⟩ | ⟨hk0, v, hon⟩
      · have d1 : decide (0 < (k : Int)) = false := by simp; omega
        go_wp2_with fail
        refine (told25 w.heap.size 0 false wr hon.out.x4.cell).mono ?_
        rintro e w' ⟨rfl, hw'⟩
        rw [hw']; clear hw' w'
        go_wp2_with fail
        refine (told25_nil _).mono ?_
        rintro e w' ⟨rfl, hw'⟩
        rw [hw']; clear hw' w'
        go_wp2_with fail
        refine (alive21 _).mono ?_; rintro e w' ⟨rfl, hbel⟩
        have HL := Lib.hid (Below.step hon.out.below hbel)
        clear hbel
        go_wp2_with fail
        go_ret
        exact ⟨rfl, HL.out⟩
      · have d1 : decide (0 < (k : Int)) = true := by simp; omega
        go_wp2_with fail
        refine (told25 w.heap.size 0 true wr hon.out.c4).mono ?_
        rintro e w' ⟨rfl, hw'⟩
        rw [hw']; clear hw' w'
        go_wp2_with fail
        refine (told25_nil _).mono ?_
        rintro e w' ⟨rfl, hw'⟩
        rw [hw']; clear hw' w'
        go_wp2_with fail
        refine (alive21 _).mono ?_; rintro e w' ⟨rfl, hbel⟩
        have HL := Lib.hid (Below.step hon.out.below hbel)
        clear hbel
        go_wp2_with fail
        go_ret
        exact ⟨rfl, HL.out⟩

set_option maxRecDepth 100000 in
set_option maxHeartbeats 1600000 in
theorem once_many (p : Option Addr) (n c : Nat) (w : World) (zs : List Int) (w0 : RawI w p n c zs) (h50 : 50 < (n : Int)) :
    Calls Try.prog 5 #[.slice p n c] w fun e w' => e = .returned (.bool true) ∧ Below w.heap.size w w' := by
  have hcap := w0.cap
  have hbig := w0.big
  have HR := Lib.hid w0
  have HS := Lib.hid (OnF.start w)
  clear w0
  have hmf : ∀ (fn : Fn) (first cap : Array Value) (w : World), (Instr.makeFunc fn first cap).run Try.prog w = .ok (.func fn first cap) w := fun _ _ _ _ => rfl
  have hnot : ∀ (x : Bool) (w : World), (Op.unary .not (.bool x)).run Try.prog w = .ok (.bool (!x)) w := fun _ _ => rfl
  go_enter Try.func5, Try.ntmps5
  go_wp2_with fail
  go_loopw [19] (fun t wr => ∃ (k : Nat), t = .int .i64 k ∧ k ≤ 50 ∧ ((k = 0 ∧ Hid (OnF w wr)) ∨ (0 < k ∧ ∃ v, Hid (OnT w wr v)))) (fun t _ => 50 - (intOf t).toNat)
  case atStart => exact ⟨0, rfl, by omega, Or.inl ⟨rfl, HS⟩⟩
  case round =>
    obtain ⟨k, rfl, hk, hrel⟩ := hrel
    by_cases hlt : k < 50
    · obtain ⟨b, o, rfl, hc⟩ := HR.out.cells (by omega)
      have g := hc k (by omega)
      have hz := HR.out.get k
      obtain ⟨z, hzz⟩ : ∃ z, zs.getD k 0 = z := ⟨_, rfl⟩
      rw [hzz] at g hz
      have hblt : b < w.heap.size := block_lt_of_cell g
      have hbel : Below w.heap.size w wr := by
        rcases hrel with ⟨_, h⟩ | ⟨_, v, h⟩
        · exact h.out.below
        · exact h.out.below
      rw [← hbel.cell (p := ⟨b, o + k, none⟩) hblt] at g
      have qz : IntKind.i64.wrap z = z := IntWalk.i64_in _ (by omega)
      have d0 : decide ((k : Int) < 50) = true := by simp; omega
      have q1 : (z != z) = false := by simp
      clear hc hz hzz hbel
      rcases hrel with ⟨hk0, hon⟩ | ⟨hk0, v, hon⟩
      · clear hk0
        go_wp2_with fail
        obtain ⟨w1, hw1⟩ : ∃ w1, w1 = (wr.alloc (.cells #[.int .i64 k] 3)).alloc (.cells #[.int .i32 z] 21) := ⟨_, rfl⟩
        rw [← hw1]
        have hb1 : Below wr.heap.size wr w1 := by rw [hw1]; exact ((Below.refl _ _).alloc (Nat.le_refl _) _).alloc (by rw [World.size_alloc]; omega) _
        have hn1 : w1.cell? ⟨wr.heap.size + 1, 0, none⟩ = some (.int .i32 z) := by rw [hw1]; exact (Var.new (by rw [World.size_alloc]) rfl).cell
        clear hw1
        refine (hon.out.get (wr.heap.size + 1) hb1 hn1 (Nat.le_succ _) qz).mono ?_
        rintro e w2 ⟨rfl, ht, hn2⟩
        have HT := Lib.hid ht
        have g0 := ht.r0.cell
        have g1 := ht.r1.cell
        clear ht hb1 hn1
        go_wp2_with fail
        refine (rget24_no 0 z _).mono ?_
        rintro e w3 ⟨rfl, hbel⟩
        have ht := HT.out.step hbel
        have HT3 := Lib.hid ht
        have c0 := ht.r0.cell
        have c1 := ht.r1.cell
        have z0 := ht.r0.free
        have z1 := ht.r1.free
        have l0 := ht.r0.lt
        have ca := ht.a
        have la : w.heap.size + 1 + 1 < w3.heap.size := block_lt_of_cell ht.a
        clear hbel ht g0 g1 hn2
        go_wp2_with fail
        obtain ⟨w4, hw4⟩ : ∃ w4, w4 = ((w3.setCell ⟨w.heap.size + 1, 0, none⟩ (.int .i64 z)).setCell ⟨w.heap.size + 1, 1, none⟩ (.bool true)).alloc (.cells #[.int .i64 z, .bool true] 65) := ⟨_, rfl⟩
        rw [← hw4]
        have HT4 := Lib.hid (HT3.out.put hw4)
        clear hw4 c0 c1 z0 z1 l0 ca la HT HT3
        refine (told25 w.heap.size 0 true w4 HT4.out.c4).mono ?_
        rintro e w' ⟨rfl, hw'⟩
        rw [hw']; clear hw' w'
        go_wp2_with fail
        refine (get22_nil _ _ rfl).mono ?_
        rintro e w5 ⟨rfl, hbel⟩
        have HT5 := Lib.hid (HT4.out.step hbel)
        clear hbel HT4
        go_wp2_with fail
        go_roundw
        case rel => exact ⟨k + 1, by go_num, by omega, Or.inr ⟨by omega, z, HT5⟩⟩
        case measure => simp [intOf]; omega
      · go_wp2_with fail
        obtain ⟨w1, hw1⟩ : ∃ w1, w1 = (wr.alloc (.cells #[.int .i64 k] 3)).alloc (.cells #[.int .i32 z] 21) := ⟨_, rfl⟩
        rw [← hw1]
        have hb1 : Below wr.heap.size wr w1 := by rw [hw1]; exact ((Below.refl _ _).alloc (Nat.le_refl _) _).alloc (by rw [World.size_alloc]; omega) _
        have hn1 : w1.cell? ⟨wr.heap.size + 1, 0, none⟩ = some (.int .i32 z) := by rw [hw1]; exact (Var.new (by rw [World.size_alloc]) rfl).cell
        clear hw1
        have ht := hon.out.step hb1
        refine (get22_done w.heap.size 0 23 _ v w1 ht.c0 ht.c3).mono ?_
        rintro e w2 ⟨rfl, hbel⟩
        have ht2 := ht.step hbel
        have hn2 := (hbel.cell (p := ⟨wr.heap.size + 1, 0, none⟩) (block_lt_of_cell hn1)).trans hn1
        have HT := Lib.hid ht2
        have g0 := ht2.r0.cell
        have g1 := ht2.r1.cell
        clear hbel ht ht2 hb1 hn1
        go_wp2_with fail
        refine (rget24_yes v z _).mono ?_
        rintro e w3 ⟨rfl, hbel⟩
        have ht := HT.out.step hbel
        have HT3 := Lib.hid ht
        have c0 := ht.r0.cell
        have c1 := ht.r1.cell
        have z0 := ht.r0.free
        have z1 := ht.r1.free
        have l0 := ht.r0.lt
        have ca := ht.a
        have la : w.heap.size + 1 + 1 < w3.heap.size := block_lt_of_cell ht.a
        clear hbel ht g0 g1 hn2
        go_wp2_with fail
        obtain ⟨w4, hw4⟩ : ∃ w4, w4 = ((w3.setCell ⟨w.heap.size + 1, 0, none⟩ (.int .i64 v)).setCell ⟨w.heap.size + 1, 1, none⟩ (.bool true)).alloc (.cells #[.int .i64 v, .bool true] 65) := ⟨_, rfl⟩
        rw [← hw4]
        have HT4 := Lib.hid (HT3.out.put hw4)
        clear hw4 c0 c1 z0 z1 l0 ca la HT HT3
        refine (told25 w.heap.size 0 true w4 HT4.out.c4).mono ?_
        rintro e w' ⟨rfl, hw'⟩
        rw [hw']; clear hw' w'
        go_wp2_with fail
        refine (get22_nil _ _ rfl).mono ?_
        rintro e w5 ⟨rfl, hbel⟩
        have HT5 := Lib.hid (HT4.out.step hbel)
        clear hbel HT4
        go_wp2_with fail
        go_roundw
        case rel => exact ⟨k + 1, by go_num, by omega, Or.inr ⟨by omega, v, HT5⟩⟩
        case measure => simp [intOf]; omega
    · obtain rfl : k = 50 := by omega
      have d0 : decide ((50 : Int) < (50 : Int)) = false := by simp
      rcases hrel with ⟨hk0, hon⟩ | ⟨hk0, v, hon⟩
      · omega
      · have d1 : decide (0 < (n : Int)) = true := by simp; omega
        go_wp2_with fail
        refine (told25 w.heap.size 0 true wr hon.out.c4).mono ?_
        rintro e w' ⟨rfl, hw'⟩
        rw [hw']; clear hw' w'
        go_wp2_with fail
        refine (told25_nil _).mono ?_
        rintro e w' ⟨rfl, hw'⟩
        rw [hw']; clear hw' w'
        go_wp2_with fail
        refine (alive21 _).mono ?_; rintro e w' ⟨rfl, hbel⟩
        have HL := Lib.hid (Below.step hon.out.below hbel)
        clear hbel
        go_wp2_with fail
        go_ret
        exact ⟨rfl, HL.out⟩

theorem walkMeterOnce (p : Option Addr) (n c : Nat) (w : World) (w0 : ∃ zs, RawI w p n c zs) :
    Calls Try.prog 5 #[.slice p n c] w fun e w' => e = .returned (.bool true) ∧ Below w.heap.size w w' := by
  obtain ⟨zs, hz⟩ := w0
  by_cases h : (n : Int) ≤ 50
  · exact once_few p n c w zs hz h
  · exact once_many p n c w zs hz (by omega)

end Go.Proofs.Ythohpeinmkdfeaa
