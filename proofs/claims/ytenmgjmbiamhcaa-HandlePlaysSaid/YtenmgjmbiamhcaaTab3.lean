/-
  The table: Get, Set, Drop, Add, New.
-/
import Derived.Test.YtenmgjmbiamhcaaTab2
namespace Go.Proofs.Ytenmgjmbiamhcaa
open Go.RowKit
set_option linter.unusedVariables false

def updI (f : Int → Option Int) (k : Int) (v : Option Int) : Int → Option Int := fun i => if i = k then v else f i
def valO (o : Option Int) : Int := o.getD 0

theorem keyLit {k : Int} (h : wf64 k) : WideAt.IsKeyLit (.int .i64 k) := by first | trivial | (exact ⟨_, rfl⟩) | (simp [WideAt.IsKeyLit])

theorem litne {a b : Int} (h : a ≠ b) : Lit.int .i64 a ≠ Lit.int .i64 b := fun e => h (by cases e; rfl)

theorem Mp.put {w w' : World} {bm n m : Nat} {D : DataW Unit} {f : Int → Option Int} (h : Mp w bm D f n) (k x : Int) (hk : wf64 k) (ho : w'.ownsMap Try.prog 3 entE bm m (D.put (.int .i64 k) (.lit (.int .i64 x)))) :
    Mp w' bm (D.put (.int .i64 k) (.lit (.int .i64 x))) (updI f k (some x)) (if (f k).isSome then n else n + 1) := by
  have hm := h.own.isMap
  have hs : Maps.size (D.put (.int .i64 k) (.lit (.int .i64 x))) = (if (f k).isSome then n else n + 1) := by
    rw [Maps.size_put (h.own.tidy keyed3), h.has k, h.size]
  have ht := tight ho
  rw [hs] at ht
  refine ⟨ht, hs, fun j => ?_, fun j y z hj => ?_⟩
  · unfold updI
    by_cases e : j = k
    · subst e; rw [if_pos rfl, Maps.has_put_same hm (keyLit hk)]; rfl
    · rw [if_neg e, Maps.has_put_other (litne e)]; exact h.has j
  · unfold updI at hj
    by_cases e : j = k
    · subst e
      rw [if_pos rfl] at hj
      cases hj
      rw [Maps.atKey_put_same hm (keyLit hk)]
    · rw [if_neg e] at hj
      rw [Maps.atKey_put_other (litne e)]; exact h.at' j y z hj

theorem Mp.del {w w' : World} {bm n m : Nat} {D : DataW Unit} {f : Int → Option Int} (h : Mp w bm D f n) (k : Int) (ho : w'.ownsMap Try.prog 3 entE bm m (D.del (.int .i64 k))) (hf : (f k).isSome = true) :
    Mp w' bm (D.del (.int .i64 k)) (updI f k none) (n - 1) := by
  have hs : Maps.size (D.del (.int .i64 k)) = n - 1 := by
    have h1 := Maps.size_del (k := .int .i64 k) (h.own.tidy keyed3)
    rw [h.has k, hf, h.size] at h1
    simp at h1; omega
  have ht := tight ho
  rw [hs] at ht
  refine ⟨ht, hs, fun j => ?_, fun j y z hj => ?_⟩
  · unfold updI
    by_cases e : j = k
    · subst e; rw [if_pos rfl, Maps.has_del_same]; rfl
    · rw [if_neg e, Maps.has_del_other (litne e)]; exact h.has j
  · unfold updI at hj
    by_cases e : j = k
    · subst e; rw [if_pos rfl] at hj; cases hj
    · rw [if_neg e] at hj
      rw [Maps.atKey_del_other (litne e)]; exact h.at' j y z hj

theorem exc_turned {w w' : World} {b : Nat} (h : w.mapTurned w' b) : Exc [b] w w' :=
  ⟨h.grown.os, h.grown.tape, h.grown.output, h.grown.size, fun k hk hS => h.grown.block k hk (fun e => hS (by simpa using e))⟩
theorem exc_grown {w w' : World} {b : Nat} (h : w.grownBy w' (some b)) : Exc [b] w w' :=
  ⟨h.os, h.tape, h.output, h.size, fun k hk hS => h.block k hk (fun e => hS (by simpa using e))⟩
theorem exc_below {w w' : World} (h : Below w.heap.size w w') (S : List Nat) : Exc S w w' := Exc.ofBelow h S

theorem field55 (x : Int) (W : World) : (Instr.field 55 (.agg #[.int .i64 x]) 0).run Try.prog W = .ok (.int .i64 x) W := by kernel_rfl

theorem wpList_lookup_own {w : World} {ops : Array Oper} {rest : List Oper} {o : Oper} {a : Act} {Q : Exit → Act → World → Prop} (hg : o.guard = none) (m x : Operand) (hop : o.op = Op.lookup 49 m x false) (bm n : Nat) (D : DataW Unit)
    (hm : a.eval m = .map (some bm)) (hown : w.ownsMap Try.prog 3 entE bm n D) (key : Value) (kl : Lit) (hx : a.eval x = key) (hkey : keyOf Try.prog 3 key = some kl)
    (hK : ∀ v ps, entE v = some (D.atKey kl (.lit (.int .i64 0)), ps) → wpList Try.prog ops Q rest (a.put o.dst v) w) : wpList Try.prog ops Q (o :: rest) a w := by
  refine wpList_plain hg fun K' hK' => ?_
  obtain ⟨v, ps, hrun, hv⟩ := hown.lookup keyed3 Try.underlying49 (zeroE w) (zd := .lit (.int .i64 0)) (zp := []) rfl hkey
  unfold Oper.wp
  simp [execOp, hop, hm, hx, hrun, Result.andThen]
  exact hK' _ _ (hK v ps hv)

theorem get16_some {w : World} {g bm room last n : Nat} {D : DataW Unit} {f : Int → Option Int} (h : Tb w g bm room last D f n) (k x : Int) (hk : wf64 k) (hf : f k = some x) :
    Calls Try.prog 16 #[.pointer (some ⟨g, 0, none⟩), .int .i64 k] w fun e w' => e = .returned (.tuple #[.int .i64 x, .int .i64 0]) ∧ Below w.heap.size w w' := by
  have H := Lib.hid (has21 h k hk true (by rw [hf]; rfl))
  have HT := Lib.hid h
  have HK := Lib.hid (key3 hk)
  have HF := Lib.hid hf
  clear h hk hf
  go_enter Try.func16, Try.ntmps16
  go_wp2_with fail
  refine H.out.mono ?_; rintro e w1 ⟨rfl, hB⟩
  have HT1 := Lib.hid (HT.out.step hB)
  have HB := Lib.hid hB
  clear hB
  have c2 := HT1.out.c2
  simp only [if_true]
  go_wp2_with (at_lookup; refine stop ?_)
  refine unhid ?_
  refine wpList_lookup_own rfl _ _ rfl bm n D rfl HT1.out.map.own _ _ rfl HK.out ?_
  intro v ps hv
  rw [HT.out.map.at' k x _ HF.out] at hv
  obtain ⟨y, rfl, hy⟩ := entE_inv hv
  have hxy : x = y := by simpa using congrArg Prod.fst hy
  subst hxy
  clear hv hy
  go_wp2_with fail
  rw [field55]
  go_wp2_with fail
  go_ret2
  exact ⟨rfl, HB.out⟩

theorem get16_none {w : World} {g bm room last n : Nat} {D : DataW Unit} {f : Int → Option Int} (h : Tb w g bm room last D f n) (k : Int) (hk : wf64 k) (hf : f k = none) :
    Calls Try.prog 16 #[.pointer (some ⟨g, 0, none⟩), .int .i64 k] w fun e w' => e = .returned (.tuple #[.int .i64 0, .int .i64 6]) ∧ Below w.heap.size w w' := by
  have H := Lib.hid (has21 h k hk false (by rw [hf]; rfl))
  clear h hk hf
  go_enter Try.func16, Try.ntmps16
  go_wp2_with fail
  refine H.out.mono ?_; rintro e w1 ⟨rfl, hB⟩
  have HB := Lib.hid hB
  clear hB
  simp only [Bool.false_eq_true, if_false]
  go_wp2_with fail
  go_ret2
  exact ⟨rfl, HB.out⟩

theorem set9_none {w : World} {g bm room last n : Nat} {D : DataW Unit} {f : Int → Option Int} (h : Tb w g bm room last D f n) (k x : Int) (hk : wf64 k) (hf : f k = none) :
    Calls Try.prog 9 #[.pointer (some ⟨g, 0, none⟩), .int .i64 k, .int .i64 x] w fun e w' => e = .returned (.int .i64 6) ∧ Below w.heap.size w w' := by
  have H := Lib.hid (has21 h k hk false (by rw [hf]; rfl))
  clear h hk hf
  go_enter Try.func9, Try.ntmps9
  go_wp2_with fail
  refine H.out.mono ?_; rintro e w1 ⟨rfl, hB⟩
  have HB := Lib.hid hB
  clear hB
  simp only [Bool.false_eq_true, if_false]
  go_wp2_with fail
  go_ret
  exact ⟨rfl, HB.out⟩

set_option maxHeartbeats 800000 in
theorem set9_some {w : World} {g bm room last n : Nat} {D : DataW Unit} {f : Int → Option Int} (h : Tb w g bm room last D f n) (k x : Int) (hk : wf64 k) (hf : (f k).isSome = true) :
    Calls Try.prog 9 #[.pointer (some ⟨g, 0, none⟩), .int .i64 k, .int .i64 x] w fun e w' => e = .returned (.int .i64 0) ∧ (∃ D', Tb w' g bm room last D' (updI f k (some x)) n) ∧ Exc [bm] w w' := by
  have H := Lib.hid (has21 h k hk true hf)
  have HT := Lib.hid h
  have HK := Lib.hid (key3 hk)
  have HKW := Lib.hid hk
  have HF := Lib.hid hf
  clear h hk hf
  go_enter Try.func9, Try.ntmps9
  go_wp2_with fail
  refine H.out.mono ?_; rintro e w1 ⟨rfl, hB⟩
  have HT1 := Lib.hid (HT.out.step hB)
  have HB := Lib.hid hB
  clear hB
  have c2 := HT1.out.c2
  simp only [if_true]
  go_wp2_with (at_mapUpdate; refine stop ?_)
  refine unhid ?_
  refine wpList_mapUpdate_in _ rfl _ _ _ 49 rfl 3 55 keyed3 Try.underlying49 entE bm n D rfl HT1.out.map.own (by have := HT1.out.le; have := HT1.out.room2; unfold maxLen; omega) _ _ (.int .i64 k) rfl rfl HK.out (.lit (.int .i64 x)) [] rfl ?_
  intro w2 ho ht
  have HX2 : Hid (Exc [bm] w w2) := Exc.trans (exc_below HB.out _) (exc_turned ht)
  have hm := HT1.out.map.put k x HKW.out ho
  rw [if_pos HF.out] at hm
  have HT2 : Hid (Tb w2 g bm room last (D.put (.int .i64 k) (.lit (.int .i64 x))) (updI f k (some x)) n) := by
    refine ⟨((exc_turned ht).block g HT1.out.lt (fun hm => HT1.out.ne (by simp at hm; exact hm.symm))).trans HT1.out.row, hm, HT1.out.ne, HT1.out.room1, HT1.out.room2, HT1.out.le, fun j hj => ?_⟩
    unfold updI at hj
    by_cases e : j = k
    · rw [e]; exact HT1.out.low k HF.out
    · rw [if_neg e] at hj; exact HT1.out.low j hj
  clear ho ht hm
  go_wp2_with fail
  go_ret
  exact ⟨rfl, ⟨_, HT2.out⟩, HX2.out⟩

theorem drop11_none {w : World} {g bm room last n : Nat} {D : DataW Unit} {f : Int → Option Int} (h : Tb w g bm room last D f n) (k : Int) (hk : wf64 k) (hf : f k = none) :
    Calls Try.prog 11 #[.pointer (some ⟨g, 0, none⟩), .int .i64 k] w fun e w' => e = .returned (.int .i64 6) ∧ Below w.heap.size w w' := by
  have H := Lib.hid (has21 h k hk false (by rw [hf]; rfl))
  clear h hk hf
  go_enter Try.func11, Try.ntmps11
  go_wp2_with fail
  refine H.out.mono ?_; rintro e w1 ⟨rfl, hB⟩
  have HB := Lib.hid hB
  clear hB
  simp only [Bool.false_eq_true, if_false]
  go_wp2_with fail
  go_ret
  exact ⟨rfl, HB.out⟩

set_option maxHeartbeats 800000 in
theorem drop11_some {w : World} {g bm room last n : Nat} {D : DataW Unit} {f : Int → Option Int} (h : Tb w g bm room last D f n) (k : Int) (hk : wf64 k) (hf : (f k).isSome = true) :
    Calls Try.prog 11 #[.pointer (some ⟨g, 0, none⟩), .int .i64 k] w fun e w' => e = .returned (.int .i64 0) ∧ (∃ D', Tb w' g bm room last D' (updI f k none) (n - 1)) ∧ Exc [bm] w w' := by
  have H := Lib.hid (has21 h k hk true hf)
  have HT := Lib.hid h
  have HK := Lib.hid (key3 hk)
  have HF := Lib.hid hf
  clear h hk hf
  go_enter Try.func11, Try.ntmps11
  go_wp2_with fail
  refine H.out.mono ?_; rintro e w1 ⟨rfl, hB⟩
  have HT1 := Lib.hid (HT.out.step hB)
  have HB := Lib.hid hB
  clear hB
  have c2 := HT1.out.c2
  simp only [if_true]
  go_wp2_with (at_delete; refine stop ?_)
  refine unhid ?_
  refine wpList_delete_own _ rfl _ _ 49 3 rfl 55 keyed3 Try.underlying49 entE bm n D rfl HT1.out.map.own _ (.int .i64 k) rfl HK.out ?_
  intro w2 ho ht
  have HX2 : Hid (Exc [bm] w w2) := Exc.trans (exc_below HB.out _) (exc_turned ht)
  have hm := HT1.out.map.del k ho HF.out
  have HT2 : Hid (Tb w2 g bm room last (D.del (.int .i64 k)) (updI f k none) (n - 1)) := by
    refine ⟨((exc_turned ht).block g HT1.out.lt (fun hm => HT1.out.ne (by simp at hm; exact hm.symm))).trans HT1.out.row, hm, HT1.out.ne, HT1.out.room1, HT1.out.room2, by have := HT1.out.le; omega, fun j hj => ?_⟩
    unfold updI at hj
    by_cases e : j = k
    · rw [if_pos e] at hj; cases hj
    · rw [if_neg e] at hj; exact HT1.out.low j hj
  clear ho ht hm
  go_wp2_with fail
  go_ret
  exact ⟨rfl, ⟨_, HT2.out⟩, HX2.out⟩

end Go.Proofs.Ytenmgjmbiamhcaa
