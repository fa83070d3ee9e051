/-
  The small row as a whole: New, Copy, Get, Next, Prev, Len, Room, Set, Drop of it.
-/
import Derived.Test.YthohpeinmkdfeaaSmall7
namespace Go.Proofs.Ythohpeinmkdfeaa
open Go.RowKit
set_option linter.unusedVariables false

/-- a small row that holds what f says -/
def SmE (w : World) (g room : Nat) (f : Nat → Option Int) : Prop := ∃ n B X, Sm w g room n B X ∧ SmP room n B X f

theorem SmE.same {w w' : World} {g room : Nat} {f : Nat → Option Int} (h : SmE w g room f) (e : w'.heap[g]? = w.heap[g]?) : SmE w' g room f := by
  obtain ⟨n, B, X, h1, h2⟩ := h
  exact ⟨n, B, X, h1.same e, h2⟩
theorem SmE.lt {w : World} {g room : Nat} {f : Nat → Option Int} (h : SmE w g room f) : g < w.heap.size := by
  obtain ⟨n, B, X, h1, h2⟩ := h
  exact h1.lt
theorem SmE.step {w w' : World} {g room : Nat} {f : Nat → Option Int} (h : SmE w g room f) (k : Below w.heap.size w w') : SmE w' g room f := h.same (k.block g h.lt)
theorem SmE.drewN {w : World} {g room : Nat} {f : Nat → Option Int} (h : SmE w g room f) (z : Nat) : SmE (w.drewN z) g room f := h.same rfl
theorem SmE.keep {w w' : World} {g room : Nat} {f : Nat → Option Int} {S : List Nat} (h : SmE w g room f) (k : Exc S w w') (hS : g ∉ S) : SmE w' g room f := h.same (k.block g h.lt hS)

theorem cntF_zero : cntF (fun _ => none) = 0 := by unfold cntF; simp

theorem SmP.fresh (room : Nat) (h : 1 ≤ room ∧ room ≤ 16) : SmP room 0 (fun _ => 0) (fun _ => 0) (fun _ => none) :=
  ⟨⟨fun k hk => by omega, fun i j h1 h2 => by omega⟩, h.1, h.2, by omega, fun k hk => by omega, fun _ _ _ => rfl, by rw [cntF_zero]⟩

theorem built114 (room : Int) : Try.prog.built 114 [(0, .int .i64 room)] = some (rowL room 0 (fun _ => 0) (fun _ => 0)).toArray := by kernel_rfl
theorem size114 : (Try.prog.info? 114).map (·.size) = some 34 := by kernel_rfl

theorem new40_low (room : Int) (w : World) (h : room < 1) : Calls Try.prog 40 #[.int .i64 room] w fun e w' => e = .returned (.tuple #[.pointer none, .int .i64 1]) ∧ w' = w := by
  have d1 : decide (room < 1) = true := by simp; omega
  clear h
  go_enter Try.func40, Try.ntmps40
  go_wp2_with fail
  go_ret2
  exact ⟨rfl, rfl⟩
theorem new40_high (room : Int) (w : World) (h1 : ¬ room < 1) (h : 16 < room) : Calls Try.prog 40 #[.int .i64 room] w fun e w' => e = .returned (.tuple #[.pointer none, .int .i64 1]) ∧ w' = w := by
  have d1 : decide (room < 1) = false := by simp; omega
  have d2 : decide (16 < room) = true := by simp; omega
  clear h
  go_enter Try.func40, Try.ntmps40
  go_wp2_with fail
  go_ret2
  exact ⟨rfl, rfl⟩
theorem new40_no (room : Int) (w : World) (h : room < 1 ∨ 16 < room) : Calls Try.prog 40 #[.int .i64 room] w fun e w' => e = .returned (.tuple #[.pointer none, .int .i64 1]) ∧ w' = w := by
  by_cases h1 : room < 1
  · exact new40_low room w h1
  · exact new40_high room w h1 (by omega)

set_option maxRecDepth 100000 in
set_option maxHeartbeats 800000 in
theorem new40_yes (room : Nat) (w : World) (h : 1 ≤ room ∧ room ≤ 16) : Calls Try.prog 40 #[.int .i64 room] w fun e w' => e = .returned (.tuple #[.pointer (some ⟨w.heap.size, 0, none⟩), .int .i64 0]) ∧
    SmE w' w.heap.size room (fun _ => none) ∧ Below w.heap.size w w' := by
  have d1 : decide ((room : Int) < 1) = false := by simp; omega
  have d2 : decide (16 < (room : Int)) = false := by simp; omega
  have HP := Lib.hid (SmP.fresh room h)
  have HS : Hid (Sm (w.alloc (.cells (rowL room 0 (fun _ => 0) (fun _ => 0)).toArray 114)) w.heap.size room 0 (fun _ => 0) (fun _ => 0)) := ⟨heap_alloc_new _ _⟩
  have HB : Hid (Below w.heap.size w (w.alloc (.cells (rowL room 0 (fun _ => 0) (fun _ => 0)).toArray 114))) := (Below.refl _ _).alloc (Nat.le_refl _) _
  go_enter Try.func40, Try.ntmps40
  go_wp2_with (refine wpList_built rfl 114 _ (by rfl) _ (built114 room) ?_)
  go_ret2
  exact ⟨rfl, ⟨_, _, _, HS.out, HP.out⟩, HB.out⟩

set_option maxRecDepth 100000 in
set_option maxHeartbeats 800000 in
theorem copy46 (g room : Nat) (f : Nat → Option Int) (w : World) (h : SmE w g room f) : Calls Try.prog 46 #[.pointer (some ⟨g, 0, none⟩)] w fun e w' => e = .returned (.pointer (some ⟨w.heap.size, 0, none⟩)) ∧
    SmE w' w.heap.size room f ∧ Below w.heap.size w w' := by
  obtain ⟨n, B, X, hs, hp⟩ := h
  have H := Lib.hid (ok66 g room w hs.vRoom (by have := hp.room1; omega))
  have hnot : ∀ (x : Bool) (w : World), (Op.unary .not (.bool x)).run Try.prog w = .ok (.bool (!x)) w := fun _ _ => rfl
  have HS := Lib.hid hs
  have HP := Lib.hid hp
  have HI : Hid ((Try.prog.info? 114).map (·.size) = some (rowL room n B X).toArray.size) := by show _ = _; rw [List.size_toArray, rowL_len]; exact size114
  clear hs hp
  obtain ⟨cs, hcs⟩ : ∃ cs, cs = (rowL room n B X).toArray := ⟨_, rfl⟩
  have HG := Lib.hid HS.out.heap
  rw [← hcs] at HI HG
  have H1 : Hid (cs.all (·.oneCell') = true) := by show _ = _; rw [hcs]; exact rowL_one _ _ _ _
  have H2 : Hid (cs.size = 34) := by show _ = _; rw [hcs, List.size_toArray, rowL_len]
  have HC := Lib.hid hcs
  clear hcs
  go_enter Try.func46, Try.ntmps46
  go_wp2_with fail
  refine H.out.mono ?_; rintro e w' ⟨rfl, rfl⟩
  go_wp2_with (refine wpList_load_row rfl 114 _ (by rfl) g (by rfl) 114 cs (0, 0) _ HG.out Try.underlying114 rfl HI.out ?_; refine stop ?_)
  refine unhid ?_
  go_wp2_with (refine wpList_store_new rfl 114 _ _ (by rfl) _ cs (by rfl) (by rfl) HI.out (by rw [H2.out]; rfl) H1.out ?_; refine stop ?_)
  refine unhid ?_
  have HS2 : Hid (Sm (w'.alloc (.cells cs 114)) w'.heap.size room n B X) := by show Sm _ _ _ _ _ _; rw [HC.out]; exact ⟨heap_alloc_new _ _⟩
  go_wp2_with fail
  go_returns
  exact ⟨rfl, ⟨_, _, _, HS2.out, HP.out⟩, (Below.refl _ _).alloc (Nat.le_refl _) _⟩

theorem getS {w : World} {g room : Nat} {f : Nat → Option Int} (h : SmE w g room f) (b : Nat) (hb : b < 256) :
    Calls Try.prog 48 #[.pointer (some ⟨g, 0, none⟩), .int .u8 b] w fun e w' => e = .returned (.tuple #[.int .i64 (valO (f b)), .bool (f b).isSome]) ∧ ∃ z, w' = w.drewN z := by
  obtain ⟨n, B, X, hs, hp⟩ := h
  exact get48 g n b room B X f w hs hp hb
theorem nextS {w : World} {g room : Nat} {f : Nat → Option Int} (h : SmE w g room f) (from' : Int) :
    Calls Try.prog 47 #[.pointer (some ⟨g, 0, none⟩), .int .i64 from'] w fun e w' => ∃ r, NextR f (max from' 0) r ∧ e = .returned (tri r) ∧ ∃ z, w' = w.drewN z := by
  obtain ⟨n, B, X, hs, hp⟩ := h
  exact next47 g n room B X f from' w hs hp
theorem prevS {w : World} {g room : Nat} {f : Nat → Option Int} (h : SmE w g room f) (from' : Int) :
    Calls Try.prog 49 #[.pointer (some ⟨g, 0, none⟩), .int .i64 from'] w fun e w' => ∃ r, PrevR f (min from' 255) r ∧ e = .returned (tri r) ∧ ∃ z, w' = w.drewN z := by
  obtain ⟨n, B, X, hs, hp⟩ := h
  exact prev49 g n room B X f from' w hs hp
theorem lenS {w : World} {g room : Nat} {f : Nat → Option Int} (h : SmE w g room f) : Calls Try.prog 50 #[.pointer (some ⟨g, 0, none⟩)] w fun e w' => e = .returned (.int .i64 (cntF f)) ∧ w' = w := by
  obtain ⟨n, B, X, hs, hp⟩ := h
  rw [← hp.cnt]
  exact len50 g n room B X w hs (by have := hp.room1; omega)
theorem roomS {w : World} {g room : Nat} {f : Nat → Option Int} (h : SmE w g room f) : Calls Try.prog 51 #[.pointer (some ⟨g, 0, none⟩)] w fun e w' => e = .returned (.int .i64 room) ∧ w' = w := by
  obtain ⟨n, B, X, hs, hp⟩ := h
  exact room51 g n room B X w hs (by have := hp.room1; omega)

theorem setS {w : World} {g room : Nat} {f : Nat → Option Int} (h : SmE w g room f) (b : Nat) (hb : b < 256) (x : Int) :
    Calls Try.prog 44 #[.pointer (some ⟨g, 0, none⟩), .int .u8 b, .int .i64 x] w fun e w' => ∃ n f', e = .returned (.int .i64 n) ∧ NumS f room b x n f' ∧ SmE w' g room f' ∧ Exc [g] w w' := by
  obtain ⟨n, B, X, hs, hp⟩ := h
  have r1 := hp.room1
  have r16 := hp.room16
  have hle := hp.le
  have hcnt := hp.cnt
  obtain ⟨i, is, ha⟩ := AtP.exists b hp.srt
  cases is with
  | true =>
    have hf : f b ≠ none := by
      obtain ⟨hi, rfl⟩ := ha.is.1 rfl
      rw [hp.hit i hi]; simp
    refine (set44_old g n b i room B X x w hs (by omega) (by omega) hp.srt ha).mono ?_
    rintro e w' ⟨he, h1, h2⟩
    refine ⟨0, _, he, Or.inr ⟨fun hh => hf ?_, rfl, rfl⟩, ⟨_, _, _, h1, hp.lay ha x⟩, h2⟩
    simpa using hh.1
  | false =>
    have hf : f b = none := hp.miss b hb (ha.no hp.srt)
    by_cases hfull : n = room
    · subst hfull
      refine (set44_full g n b i B X x w hs (by omega) (by omega) hp.srt ha).mono ?_
      rintro e w' ⟨he, z, rfl⟩
      exact ⟨10, f, he, Or.inl ⟨by rw [hf]; rfl, by omega, rfl, rfl⟩, ⟨_, _, _, hs.drewN z, hp⟩, (Exc.refl _ _).drewN z⟩
    · have hnum : NumS f room b x 0 (updF f b (some x)) := Or.inr ⟨fun hh => by have := hh.2; omega, rfl, rfl⟩
      have hp' := hp.ins hb ha (by omega) x
      by_cases h15 : i = 15
      · have hin := ha.le
        obtain rfl : n = 15 := by omega
        obtain rfl : room = 16 := by omega
        subst h15
        refine (set44_ins15 g b B X x w hs (by omega) (by omega) hp.srt ha).mono ?_
        rintro e w' ⟨he, h1, h2⟩
        exact ⟨0, _, he, hnum, ⟨_, _, _, h1, hp'⟩, h2⟩
      · refine (set44_ins g n b i room B X x w hs (by omega) (by omega) hp.srt ha h15).mono ?_
        rintro e w' ⟨he, h1, h2⟩
        exact ⟨0, _, he, hnum, ⟨_, _, _, h1, hp'⟩, h2⟩

theorem dropS {w : World} {g room : Nat} {f : Nat → Option Int} (h : SmE w g room f) (b : Nat) (hb : b < 256) :
    Calls Try.prog 43 #[.pointer (some ⟨g, 0, none⟩), .int .u8 b] w fun e w' => ∃ n, e = .returned (.int .i64 n) ∧ NumD f b n ∧ SmE w' g room (updF f b none) ∧ Exc [g] w w' := by
  obtain ⟨n, B, X, hs, hp⟩ := h
  have r1 := hp.room1
  have r16 := hp.room16
  have hle := hp.le
  obtain ⟨i, is, ha⟩ := AtP.exists b hp.srt
  cases is with
  | true =>
    have hi := (ha.is.1 rfl).1
    have hf : (f b).isSome = true := by
      obtain ⟨hi, rfl⟩ := ha.is.1 rfl
      rw [hp.hit i hi]; rfl
    have hp' := hp.del ha
    by_cases h15 : i = 15
    · obtain rfl : n = 16 := by omega
      obtain rfl : room = 16 := by omega
      subst h15
      refine (drop43_last g b B X w hs (by omega) (by omega) (by omega) hp.srt ha).mono ?_
      rintro e w' ⟨he, h1, h2⟩
      exact ⟨0, he, Or.inl ⟨hf, rfl⟩, ⟨_, _, _, h1, hp'⟩, h2⟩
    · refine (drop43_some g n b i room B X w hs hi hle (by omega) hp.srt ha h15).mono ?_
      rintro e w' ⟨he, h1, h2⟩
      exact ⟨0, he, Or.inl ⟨hf, rfl⟩, ⟨_, _, _, h1, hp'⟩, h2⟩
  | false =>
    have hf : f b = none := hp.miss b hb (ha.no hp.srt)
    refine (drop43_none g n b i room B X w hs (by omega) (by omega) hp.srt ha).mono ?_
    rintro e w' ⟨he, z, rfl⟩
    exact ⟨6, he, Or.inr ⟨by rw [hf]; rfl, rfl⟩, ⟨_, _, _, hs.drewN z, by rw [updF_none f b hf]; exact hp⟩, (Exc.refl _ _).drewN z⟩

end Go.Proofs.Ythohpeinmkdfeaa
