/-
  For the statement TopOwners: Numbers as texts: FormatUint, Itoa; the table of the library's that they read.
-/
import Derived.Test.YtbihlmkjoplkoaaGreatDoorM40
import Derived.Lib.ItoaMem
import Derived.BigCall
import Derived.BigGuard
namespace Go.Proofs.YtbihlmkjoplkoaaGreatDoor
open Go.RowKit Go.Sort
set_option linter.unusedVariables false

/-- the table stands where it was laid -/
def Tab (w : World) : Prop := Lib.TabIs Tryz.prog w "internal/strconv.uint64pow10" .u64 Lib.pow10Tab
theorem Tab.same {w w' : World} (h : Tab w) (e : w'.heap[0]? = w.heap[0]?) : Tab w' := by
  have hg : Tryz.prog.globalNamed "internal/strconv.uint64pow10" = some 0 := by kernel_rfl
  unfold Tab Lib.TabIs World.var? at *
  rw [hg] at h ⊢
  simp only [Option.bind_some] at h ⊢
  rw [e]; exact h
theorem Tab.lt {w : World} (h : Tab w) : 0 < w.heap.size := by
  have hg : Tryz.prog.globalNamed "internal/strconv.uint64pow10" = some 0 := by kernel_rfl
  unfold Tab Lib.TabIs World.var? at h
  rw [hg] at h
  simp only [Option.bind_some] at h
  rcases Nat.lt_or_ge 0 w.heap.size with h' | h'
  · exact h'
  · rw [Array.getElem?_eq_none h'] at h; simp at h
theorem Tab.gw {w w' : World} (h : Tab w) (k : Gw w w') : Tab w' := h.same (k.block 0 h.lt)
theorem Tab.oth {B wb : Nat} {w w' : World} (h : Tab w) (k : Oth B wb w w') (hB : 0 < B) : Tab w' := h.same (k.low 0 hB)

theorem gw_grow (w : World) (k : Nat) (os : Array Obj) : Gw w (grow (w.drewN k) os) :=
  ⟨rfl, rfl, rfl, by simp [grow], fun i hi => by
    show (w.heap ++ os)[i]? = _
    rw [Array.getElem?_append_left hi]⟩

theorem holds_zero0 (w : World) (T : TypeId) (nd : Nat) (hs : nd ≤ 24) : Holds (fun (b : UInt8) => Value.int .u8 (b.toNat : Int)) (w.alloc (.cells Lib.zeros24 T)) w.heap.size 0 (Array.replicate nd (0 : UInt8)) := fun j hj => by
  have hj' : j < nd := by simpa using hj
  refine ⟨?_, World.frozen?_alloc_new _ _ _ _⟩
  rw [World.cell?_alloc_new, Lib.zeros24_at _ (by omega), getElem!_pos _ j hj]
  simp
theorem fin_pos0 (w : World) (o : Obj) (dk : Array UInt8) (k : Nat) : ∃ os, (putRow (fun (b : UInt8) => Value.int .u8 (b.toNat : Int)) (w.alloc o) w.heap.size 0 dk).drewN k = grow (w.drewN k) os := by
  rw [alloc_eq_grow]
  obtain ⟨os', _, e⟩ := putRow_grow_new (fun (b : UInt8) => Value.int .u8 (b.toNat : Int)) w #[o] w.heap.size 0 dk (Nat.le_refl _)
  exact ⟨os', by rw [e]; rfl⟩

/-- a text told, memory has grown alone -/
def Says (w w' : World) (l : List UInt8) (e : Ending) : Prop := e = .returned (.string ⟨l.toArray⟩) ∧ Gw w w'

theorem len219 : Tryz.prog.arrayLen 219 = 24 := by kernel_rfl

set_option maxHeartbeats 6400000 in
set_option maxRecDepth 100000 in
theorem formatUint128 (u : Nat) (hu64 : u < 18446744073709551616) (w : World) (htab : Tab w) : Calls Tryz.prog 128 #[.int .u64 u, .int .i64 10] w fun e w' => Says w w' (Lib.decDigits u) e := by
  by_cases hs : u < 100
  · have d1 : decide ((u : Int) < 100) = true := by simp; omega
    have q1 : IntKind.i64.wrap (u : Int) = (u : Int) := IntWalk.i64_in _ (by omega)
    have HS := Lib.hid (fun w => Tryz.internal_strconv_small u hs w)
    clear hs htab
    go_enter Tryz.func128, Tryz.ntmps128
    go_wp2_with fail
    refine (HS.out _).mono ?_; rintro e w1 ⟨rfl, hw1⟩
    rw [hw1]; clear hw1 w1
    go_wp2_with fail
    go_ret
    exact ⟨rfl, Gw.refl _⟩
  · have hu1 : 1 ≤ u := by omega
    have d1 : decide ((u : Int) < 100) = false := by simp; omega
    have hnd20 : Lib.nDigits u ≤ 20 := by have := Lib.numDigits_eq u hu1 hu64; split at this <;> omega
    have hsl1 : ∀ W, (Instr.sliceAt 219 (.pointer (some ⟨w.heap.size, 0, none⟩)) none (some (.int .i64 (Lib.nDigits u : Int))) none).run Tryz.prog W = .ok (.slice (some ⟨w.heap.size, 0, none⟩) (Lib.nDigits u) 24) W := fun W => by
      rw [run_sliceAt_array_h W 219 ⟨w.heap.size, 0, none⟩ (by simp [Program.arrayLen, Program.elem, Tryz.underlying219]) .i64 (Lib.nDigits u : Int) (by omega) (by rw [len219]; omega)]
      go_simp
    have hH0 := holds_zero0 w 219 (Lib.nDigits u) (by omega)
    have hfmt := Tryz.internal_strconv_formatBase10 w.heap.size 0 24 u (Array.replicate (Lib.nDigits u) 0) (w.alloc (.cells Lib.zeros24 219)) hH0 (by rw [Array.size_replicate]; exact Lib.lt_pow_nDigits u) hu64 (by rw [Array.size_replicate]; omega)
    rw [Array.size_replicate] at hfmt
    have HH0 := Lib.hid hH0
    have HF := Lib.hid hfmt
    have HN := Lib.hid (Tryz.internal_strconv_numDigits u hu1 hu64 (w.alloc (.cells Lib.zeros24 219)) (Lib.tabIs_alloc htab _))
    clear hH0 hfmt hs htab
    unfold Lib.zeros24 at *
    go_enter Tryz.func128, Tryz.ntmps128
    go_wp2_with fail
    refine HN.out.mono ?_; rintro e w1 ⟨rfl, hw1⟩
    rw [hw1]; clear hw1 w1
    go_wp2_with fail
    refine HF.out.mono ?_
    rintro e w' ⟨rfl, k, v', dk, hw', hF⟩
    have hcv : (convert 41 9 (.slice (some ⟨w.heap.size, 0, none⟩) (Lib.nDigits u) 24)).run Tryz.prog w' = .ok (.string ⟨(Lib.decDigits u).toArray⟩) w' := by
      rw [hw']
      have h := run_convert_bytes_back (P := Tryz.prog) ((putRow (fun (b : UInt8) => Value.int .u8 (b.toNat : Int)) (w.alloc (.cells Lib.zeros24 219)) w.heap.size 0 dk).drewN k) 41 9 5 ⟨w.heap.size, 0, none⟩ 24 (Lib.decDigits u) Tryz.underlying41 Tryz.underlying5 Tryz.underlying9 (fun j hj => by
        rw [Lib.row_is_numeral hF j hj, Lib.add_plain, World.cell?_drewN]
        exact cell?_putRow (fun (b : UInt8) => Value.int .u8 (b.toNat : Int)) _ w.heap.size 0 _ dk HH0.out (by rw [hF.size, Array.size_replicate]) j (by rw [hF.size]; rw [Lib.decDigits_length] at hj; exact hj))
      rw [Lib.decDigits_length] at h
      exact h
    have HG : Hid (Gw w w') := by
      show Gw _ _
      obtain ⟨os, eo⟩ := fin_pos0 w (.cells Lib.zeros24 219) dk k
      rw [hw']
      unfold Lib.zeros24 at eo
      rw [eo]; exact gw_grow _ _ _
    clear hw' hF
    go_wp2_with fail
    go_ret
    exact ⟨rfl, HG.out⟩

theorem formatUint98 (u : Nat) (hu64 : u < 18446744073709551616) (w : World) (htab : Tab w) : Calls Tryz.prog 98 #[.int .u64 u, .int .i64 10] w fun e w' => Says w w' (Lib.decDigits u) e := by
  have HF := Lib.hid (formatUint128 u hu64 w htab)
  clear htab
  go_enter Tryz.func98, Tryz.ntmps98
  go_wp2_with fail
  refine HF.out.mono ?_; rintro e w1 ⟨rfl, hg⟩
  have HG := Lib.hid hg
  clear hg
  go_wp2_with fail
  go_ret
  exact ⟨rfl, HG.out⟩

theorem itoa96 (n : Nat) (hn : n ≤ 1000) (w : World) (htab : Tab w) : Calls Tryz.prog 96 #[.int .i64 n] w fun e w' => Says w w' (Lib.decDigits n) e := by
  refine (Tryz.strconv_Itoa (n : Int) (by omega) (by omega) w htab).mono ?_
  rintro e w' ⟨rfl, k, os, rfl⟩
  exact ⟨by rw [Lib.itoa_nonneg], gw_grow _ _ _⟩

end Go.Proofs.YtbihlmkjoplkoaaGreatDoor
