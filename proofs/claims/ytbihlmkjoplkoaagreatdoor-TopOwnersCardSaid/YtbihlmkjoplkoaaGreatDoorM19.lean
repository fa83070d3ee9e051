/-
  For the statement TopOwners: Nodes: Own, SetVal, SetPart, DropVal, SetKid, DropKid; What is cut out of bytes that no one turns; small laws for what comes with a putter, a taker; The store behind a step: what lies in it then, plainly.
-/
import Derived.Test.YtbihlmkjoplkoaaGreatDoorM18
/-
  Nodes: Own, SetVal, SetPart, DropVal, SetKid, DropKid.
-/
namespace Go.Proofs.YtbihlmkjoplkoaaGreatDoor
open Go.RowKit
set_option linter.unusedVariables false

section
variable {B wb : Nat} {o : Int} {w : World} {S : Store} {a : Nat} {d : ND}

/-- what Own makes of a node -/
def OwnS (B wb : Nat) (o : Int) (w w' : World) (S : Store) (a : Nat) (d : ND) (q : Int) (e : Ending) : Prop :=
  (d.own = q ∧ e = .returned (.pointer (some ⟨a, 0, none⟩)) ∧ w' = w) ∨ (d.own ≠ q ∧ Made B wb o w w' S { d with own := q } e)

theorem own85 (h : Env B wb o w S) (hd : S a = some d) (q : Int) (h0 : q ≠ 0) :
    Calls Tryz.prog 85 #[.pointer (some ⟨a, 0, none⟩), .pointer (some ⟨wb, 0, none⟩), .int .u64 q] w fun e w' => OwnS B wb o w w' S a d q e := by
  have HM := Lib.hid (may103 h.sto hd q h0)
  have HC := Lib.hid (copy115 h hd q)
  by_cases ho : d.own = q
  · rw [if_pos ho] at HM
    have HO := Lib.hid ho
    clear h hd ho h0
    go_enter Tryz.func85, Tryz.ntmps85
    go_wp2_with fail
    refine HM.out.mono ?_; rintro e w' ⟨rfl, hw⟩
    rw [hw]; clear hw w'
    go_wp2_with fail
    go_ret
    exact Or.inl ⟨HO.out, rfl, rfl⟩
  · rw [if_neg ho] at HM
    have HO := Lib.hid ho
    clear h hd ho h0
    go_enter Tryz.func85, Tryz.ntmps85
    go_wp2_with fail
    refine HM.out.mono ?_; rintro e w' ⟨rfl, hw⟩
    rw [hw]; clear hw w'
    go_wp2_with fail
    refine HC.out.mono ?_; rintro e w2 ⟨a', rfl, h1, h2, h3⟩
    have H1 := Lib.hid h1
    have H2 := Lib.hid h2
    have H3 := Lib.hid h3
    clear h1 h2 h3
    go_wp2_with fail
    go_ret
    exact Or.inr ⟨HO.out, a', rfl, H1.out, H2.out, H3.out⟩
theorem own85_nil (m : Option Addr) (q : Int) (w : World) : Calls Tryz.prog 85 #[.pointer none, .pointer m, .int .u64 q] w fun e w' => e = .returned (.pointer none) ∧ w' = w := by
  have HM := Lib.hid (may103_nil q w)
  have HC : Hid (Calls Tryz.prog 115 #[.pointer none, .pointer m, .int .u64 q] w fun e w' => e = .returned (.pointer none) ∧ w' = w) := by
    show Calls _ _ _ _ _
    clear HM
    go_enter Tryz.func115, Tryz.ntmps115
    go_wp2_with fail
    go_ret
    exact ⟨rfl, rfl⟩
  go_enter Tryz.func85, Tryz.ntmps85
  go_wp2_with fail
  refine HM.out.mono ?_; rintro e w' ⟨rfl, hw⟩
  rw [hw]; clear hw w'
  go_wp2_with fail
  refine HC.out.mono ?_; rintro e w' ⟨rfl, hw⟩
  rw [hw]; clear hw w'
  go_wp2_with fail
  go_ret
  exact ⟨rfl, rfl⟩

/-- a node is turned: whatever is told -/
def Turned (B wb : Nat) (o : Int) (w w' : World) (S : Store) (a : Nat) (d : ND) (e : Ending) : Prop := ∃ n : Int, e = .returned (.int .i64 n) ∧ Env B wb o w' (stS S a d) ∧ Oth B wb w w'

theorem stS_idem (S : Store) (a : Nat) (d : ND) (h : S a = some d) : stS S a d = S := by
  funext b; unfold stS; by_cases e : b = a
  · subst e; rw [if_pos rfl, h]
  · rw [if_neg e]

set_option maxHeartbeats 800000 in
theorem setVal71 (h : Env B wb o w S) (hd : S a = some d) (q v : Int) (h0 : q ≠ 0) (ho : d.own = q) (hv : 0 ≤ v ∧ v < 18446744073709551616) :
    Calls Tryz.prog 71 #[.pointer (some ⟨a, 0, none⟩), .int .u64 q, .int .u64 v] w fun e w' => Turned B wb o w w' S a { d with val := v, has := true } e := by
  have HM := Lib.hid (may103 h.sto hd q h0)
  rw [if_pos ho] at HM
  obtain ⟨FQ, hs⟩ := h.sto
  obtain ⟨p, n, c, kb, hn⟩ := hs.node a d hd
  have c2 := hn.cVal
  have c3 := hn.cHas
  have z2 := hn.free 2
  have z3 := hn.free 3
  have hsa : S a ≠ none := by rw [hd]; simp
  have HE : Hid (Turned B wb o w ((w.setCell ⟨a, 2, none⟩ (.int .u64 v)).setCell ⟨a, 3, none⟩ (.bool true)) S a { d with val := v, has := true } (.returned (.int .i64 0))) := by
    have hh := hn.heap
    have e1 := heap_setCell_same w a 2 _ 116 (.int .u64 v) hh
    have e2 := heap_setCell_same (w.setCell ⟨a, 2, none⟩ (.int .u64 v)) a 3 _ 116 (.bool true) e1
    have hx : Exc (a :: FQ a) w ((w.setCell ⟨a, 2, none⟩ (.int .u64 v)).setCell ⟨a, 3, none⟩ (.bool true)) := ((Exc.refl _ _).set (p := ⟨a, 2, none⟩) (by simp) _).set (p := ⟨a, 3, none⟩) (by simp) _
    have ho : Oth B wb w ((w.setCell ⟨a, 2, none⟩ (.int .u64 v)).setCell ⟨a, 3, none⟩ (.bool true)) := Oth.exc hx (fun j hj => ⟨hs.low hsa j hj, Or.inr (Or.inl (hs.isSt hsa j hj))⟩) h.size
    exact ⟨0, rfl, h.turn hs hsa hx (p := p) (n := n) (c := c) (kb := kb) (fq := FQ a) ⟨e2, h.kb ho hn.part, hn.kids.same (fun j hj => by
      have hja : j ≠ a := fun e => hn.apart (e ▸ hj)
      rw [heap_setCell_other _ _ _ _ (by simpa using hja), heap_setCell_other _ _ _ _ (by simpa using hja)]), hn.apart, hn.low, hv⟩ (fun j hj => Or.inl hj)⟩
  clear h hd hs hn ho h0 hv hsa
  go_enter Tryz.func71, Tryz.ntmps71
  go_wp2_with fail
  refine HM.out.mono ?_; rintro e w' ⟨rfl, hw⟩
  rw [hw]; clear hw w'
  go_wp2_with fail
  go_ret
  exact HE.out

set_option maxHeartbeats 800000 in
theorem setPart111 (h : Env B wb o w S) (hd : S a = some d) (q : Int) (h0 : q ≠ 0) (ho : d.own = q) {pp : Option Addr} {m cc : Nat} {xs : List Int} (hp : Kb B w pp m cc xs) :
    Calls Tryz.prog 111 #[.pointer (some ⟨a, 0, none⟩), .int .u64 q, .slice pp m cc] w fun e w' => Turned B wb o w w' S a { d with part := xs } e := by
  have HM := Lib.hid (may103 h.sto hd q h0)
  rw [if_pos ho] at HM
  have H := Lib.hid h
  have HD := Lib.hid hd
  have HP := Lib.hid hp
  clear h hd ho h0 hp
  go_enter Tryz.func111, Tryz.ntmps111
  go_wp2_with fail
  refine HM.out.mono ?_; rintro e w' ⟨rfl, hw⟩
  rw [hw]; clear hw w'
  go_wp2_with fail
  refine (clone101 HP.out).mono ?_; rintro e w2 ⟨p2, c2, rfl, hk, hb⟩
  have h2 := H.out.below hb
  have HOT := Lib.hid (H.out.oth hb)
  have HK := Lib.hid hk
  obtain ⟨FQ, hs⟩ := h2.sto
  obtain ⟨p, n, c, kb, hn⟩ := hs.node a d HD.out
  have g1 := hn.cPart
  have z1 := hn.free 1
  have hsa : S a ≠ none := by rw [HD.out]; simp
  have HE : Hid (Turned B wb o w (w2.setCell ⟨a, 1, none⟩ (.slice p2 m c2)) S a { d with part := xs } (.returned (.int .i64 0))) := by
    have e1 := heap_setCell_same w2 a 1 _ 116 (.slice p2 m c2) hn.heap
    have hx : Exc (a :: FQ a) w2 (w2.setCell ⟨a, 1, none⟩ (.slice p2 m c2)) := (Exc.refl _ _).set (p := ⟨a, 1, none⟩) (by simp) _
    have ho : Oth B wb w2 (w2.setCell ⟨a, 1, none⟩ (.slice p2 m c2)) := Oth.exc hx (fun j hj => ⟨hs.low hsa j hj, Or.inr (Or.inl (hs.isSt hsa j hj))⟩) h2.size
    obtain ⟨t1, t2⟩ := h2.turn hs hsa hx (p := p2) (n := m) (c := c2) (kb := kb) (fq := FQ a) (d := { d with part := xs }) ⟨e1, h2.kb ho HK.out, hn.kids.same (fun j hj => by
      have hja : j ≠ a := fun e => hn.apart (e ▸ hj)
      rw [heap_setCell_other _ _ _ _ (by simpa using hja)]), hn.apart, hn.low, hn.val⟩ (fun j hj => Or.inl hj)
    exact ⟨0, rfl, t1, HOT.out.trans t2⟩
  clear h2 hs hn hsa hk hb
  go_wp2_with fail
  go_ret
  exact HE.out

theorem setPart111_nil (q : Int) (v : Value) (w : World) : Calls Tryz.prog 111 #[.pointer none, .int .u64 q, v] w fun e w' => e = .returned (.int .i64 2) ∧ w' = w := by
  have HM := Lib.hid (may103_nil q w)
  go_enter Tryz.func111, Tryz.ntmps111
  go_wp2_with fail
  refine HM.out.mono ?_; rintro e w' ⟨rfl, hw⟩
  rw [hw]; clear hw w'
  go_wp2_with fail
  go_ret
  exact ⟨rfl, rfl⟩

set_option maxHeartbeats 800000 in
theorem dropVal114 (h : Env B wb o w S) (hd : S a = some d) (q : Int) (h0 : q ≠ 0) (ho : d.own = q) (hl : d.leaf = false) :
    Calls Tryz.prog 114 #[.pointer (some ⟨a, 0, none⟩), .int .u64 q] w fun e w' => ∃ v t, Turned B wb o w w' S a { d with val := v, has := t } e := by
  have HM := Lib.hid (inner104 h.sto hd q h0 ho)
  rw [hl] at HM
  have H := Lib.hid h
  have HD := Lib.hid hd
  obtain ⟨FQ, hs⟩ := h.sto
  obtain ⟨p, n, c, kb, hn⟩ := hs.node a d hd
  have c2 := hn.cVal
  have c3 := hn.cHas
  have z2 := hn.free 2
  have z3 := hn.free 3
  have hsa : S a ≠ none := by rw [hd]; simp
  have hnot : ∀ (x : Bool) (w : World), (Op.unary .not (.bool x)).run Tryz.prog w = .ok (.bool (!x)) w := fun _ _ => rfl
  have HE : Hid (Turned B wb o w ((w.setCell ⟨a, 2, none⟩ (.int .u64 0)).setCell ⟨a, 3, none⟩ (.bool false)) S a { d with val := 0, has := false } (.returned (.int .i64 0))) := by
    have hh := hn.heap
    have e1 := heap_setCell_same w a 2 _ 116 (.int .u64 0) hh
    have e2 := heap_setCell_same (w.setCell ⟨a, 2, none⟩ (.int .u64 0)) a 3 _ 116 (.bool false) e1
    have hx : Exc (a :: FQ a) w ((w.setCell ⟨a, 2, none⟩ (.int .u64 0)).setCell ⟨a, 3, none⟩ (.bool false)) := ((Exc.refl _ _).set (p := ⟨a, 2, none⟩) (by simp) _).set (p := ⟨a, 3, none⟩) (by simp) _
    have ho : Oth B wb w ((w.setCell ⟨a, 2, none⟩ (.int .u64 0)).setCell ⟨a, 3, none⟩ (.bool false)) := Oth.exc hx (fun j hj => ⟨hs.low hsa j hj, Or.inr (Or.inl (hs.isSt hsa j hj))⟩) h.size
    exact ⟨0, rfl, h.turn hs hsa hx (p := p) (n := n) (c := c) (kb := kb) (fq := FQ a) ⟨e2, h.kb ho hn.part, hn.kids.same (fun j hj => by
      have hja : j ≠ a := fun e => hn.apart (e ▸ hj)
      rw [heap_setCell_other _ _ _ _ (by simpa using hja), heap_setCell_other _ _ _ _ (by simpa using hja)]), hn.apart, hn.low, by simp⟩ (fun j hj => Or.inl hj)⟩
  have HI : Hid (Turned B wb o w w S a { d with val := d.val, has := d.has } (.returned (.int .i64 6))) := ⟨6, rfl, by
    have : stS S a { d with val := d.val, has := d.has } = S := stS_idem S a d hd
    rw [this]; exact h, Oth.refl _ _ _⟩
  clear h hd hs hn ho h0 hsa hl
  cases hh : d.has with
  | true =>
    rw [hh] at c3
    clear hh
    go_enter Tryz.func114, Tryz.ntmps114
    go_wp2_with fail
    refine HM.out.mono ?_; rintro e w' ⟨rfl, hw⟩
    rw [hw]; clear hw w'
    go_wp2_with fail
    go_ret
    exact ⟨_, _, HE.out⟩
  | false =>
    rw [hh] at c3
    clear hh
    go_enter Tryz.func114, Tryz.ntmps114
    go_wp2_with fail
    refine HM.out.mono ?_; rintro e w' ⟨rfl, hw⟩
    rw [hw]; clear hw w'
    go_wp2_with fail
    go_ret
    exact ⟨_, _, HI.out⟩

/-- the kids are turned -/
theorem kids_end (h : Env B wb o w S) {FQ : Nat → List Nat} (hs : StoF B w S FQ) (hd : S a = some d) {p : Option Addr} {n c k : Nat} (hn : NodeM B w a d (FQ a) p n c (some k)) {w' : World} {kid' : Nat → Option Nat} (hl : d.leaf = false) (hk : KidsE w w' k (thK kid') (FQ a)) :
    Env B wb o w' (stS S a { d with kid := kid' }) ∧ Oth B wb w w' := by
  have hsa : S a ≠ none := by rw [hd]; simp
  obtain ⟨⟨fp', k1, k2⟩, k3⟩ := hk
  have hx : Exc (a :: FQ a) w w' := k3.wide (fun j hj => List.mem_cons_of_mem _ hj)
  have ho : Oth B wb w w' := Oth.exc hx (fun j hj => ⟨hs.low hsa j hj, Or.inr (Or.inl (hs.isSt hsa j hj))⟩) h.size
  have haw : a < w.heap.size := hs.lt hsa a (by simp)
  refine h.turn hs hsa hx (p := p) (n := n) (c := c) (kb := some k) (fq := fp') (d := { d with kid := kid' }) ⟨(k3.block a haw hn.apart).trans hn.heap, h.kb ho hn.part, ?_, fun hin => ?_, fun j hj => ?_, hn.val⟩ (fun j hj => ?_)
  · show KidsM w' d.leaf kid' (some k) fp'
    rw [hl]; exact ⟨k, rfl, k1⟩
  · rcases k2 a hin with q | q
    · exact hn.apart q
    · omega
  · rcases List.mem_cons.1 hj with rfl | hj
    · exact hn.low _ (by simp)
    · rcases k2 j hj with q | q
      · exact hn.low _ (List.mem_cons_of_mem _ q)
      · exact Nat.le_trans h.size q
  · rcases List.mem_cons.1 hj with rfl | hj
    · exact Or.inl (by simp)
    · rcases k2 j hj with q | q
      · exact Or.inl (List.mem_cons_of_mem _ q)
      · exact Or.inr q

set_option maxHeartbeats 800000 in
theorem setKid72 (h : Env B wb o w S) (hd : S a = some d) (q : Int) (h0 : q ≠ 0) (ho : d.own = q) (hl : d.leaf = false) (b : Nat) (hb : b < 256) (x : Nat) :
    Calls Tryz.prog 72 #[.pointer (some ⟨a, 0, none⟩), .int .u64 q, .int .u8 b, .pointer (some ⟨x, 0, none⟩)] w fun e w' => Turned B wb o w w' S a { d with kid := updK d.kid b (some x) } e := by
  have HM := Lib.hid (inner104 h.sto hd q h0 ho)
  rw [hl] at HM
  obtain ⟨FQ, hs⟩ := h.sto
  obtain ⟨p, n, c, kb, hn⟩ := hs.node a d hd
  have hk := hn.kids
  rw [hl] at hk
  obtain ⟨k, rfl, hk⟩ := hk
  have c4 := hn.cKids
  simp only [pt] at c4
  have HK := Lib.hid (set105 hk b hb (some ⟨x, 0, none⟩))
  have HE : Hid (∀ w', KidsE w w' k (thK (updK d.kid b (some x))) (FQ a) → Env B wb o w' (stS S a { d with kid := updK d.kid b (some x) }) ∧ Oth B wb w w') := fun w' hk' => kids_end h hs hd hn hl hk'
  clear h hd hs hn ho h0 hl hk
  go_enter Tryz.func72, Tryz.ntmps72
  go_wp2_with fail
  refine HM.out.mono ?_; rintro e w' ⟨rfl, hw⟩
  rw [hw]; clear hw w'
  go_wp2_with fail
  refine HK.out.mono ?_; rintro e w' ⟨rfl, hk⟩
  rw [thK_upd] at hk
  have HF := Lib.hid (HE.out w' hk)
  clear hk
  go_wp2_with fail
  go_ret
  exact ⟨0, rfl, HF.out⟩

set_option maxHeartbeats 800000 in
theorem dropKid117 (h : Env B wb o w S) (hd : S a = some d) (q : Int) (h0 : q ≠ 0) (ho : d.own = q) (hl : d.leaf = false) (b : Nat) (hb : b < 256) :
    Calls Tryz.prog 117 #[.pointer (some ⟨a, 0, none⟩), .int .u64 q, .int .u8 b] w fun e w' => Turned B wb o w w' S a { d with kid := updK d.kid b none } e := by
  have HM := Lib.hid (inner104 h.sto hd q h0 ho)
  rw [hl] at HM
  obtain ⟨FQ, hs⟩ := h.sto
  obtain ⟨p, n, c, kb, hn⟩ := hs.node a d hd
  have hk := hn.kids
  rw [hl] at hk
  obtain ⟨k, rfl, hk⟩ := hk
  have c4 := hn.cKids
  simp only [pt] at c4
  have HK := Lib.hid (drop143 hk b hb)
  have HE : Hid (∀ w', KidsE w w' k (thK (updK d.kid b none)) (FQ a) → Env B wb o w' (stS S a { d with kid := updK d.kid b none }) ∧ Oth B wb w w') := fun w' hk' => kids_end h hs hd hn hl hk'
  clear h hd hs hn ho h0 hl hk
  go_enter Tryz.func117, Tryz.ntmps117
  go_wp2_with fail
  refine HM.out.mono ?_; rintro e w' ⟨rfl, hw⟩
  rw [hw]; clear hw w'
  go_wp2_with fail
  refine HK.out.mono ?_; rintro e w' ⟨m, rfl, hk⟩
  rw [thK_drop] at hk
  have HF := Lib.hid (HE.out w' hk)
  clear hk
  go_wp2_with fail
  go_ret
  exact ⟨m, rfl, HF.out⟩
end

end Go.Proofs.YtbihlmkjoplkoaaGreatDoor
/-
  What is cut out of bytes that no one turns; small laws for what comes with a putter, a taker.
-/
namespace Go.Proofs.YtbihlmkjoplkoaaGreatDoor
open Go.RowKit
set_option linter.unusedVariables false

theorem run_size5 (w : World) : (sizeOf 5).run Tryz.prog w = .ok 1 w := by kernel_rfl
theorem elem41 : Tryz.prog.elem 41 = 5 := by kernel_rfl
theorem und41 : Tryz.prog.underlying 41 = some (.slice (Tryz.prog.elem 41)) := by kernel_rfl

theorem Kb.sub {B : Nat} {w : World} {p : Option Addr} {n c : Nat} {xs : List Int} (h : Kb B w p n c xs) (s : Nat) (hs : s ≤ n) : Kb B w (if c = s then p else p.map (·.add (s * 1))) (n - s) (c - s) (xs.drop s) := by
  have hl := h.bs.len
  have hc := h.bs.cap
  have hb := h.bs.big
  refine ⟨⟨by rw [List.length_drop, hl], by omega, by omega, fun x hx => h.bs.byte x (List.mem_of_mem_drop hx), fun h0 => ?_⟩, fun h0 q hq => ?_⟩
  · have hne : ¬ c = s := by omega
    rw [if_neg hne]
    obtain ⟨b, o, rfl, hcell⟩ := h.bs.cells.at (by omega)
    refine ⟨b, o + s, by simp [Addr.add], fun i hi => ?_⟩
    rw [Nat.add_assoc, hcell (s + i) (by omega)]
    simp [List.getD_eq_getElem?_getD, List.getElem?_drop]
  · by_cases e : c = s
    · rw [if_pos e] at hq; exact h.arr (by omega) q hq
    · rw [if_neg e] at hq
      cases p with
      | none => cases hq
      | some a =>
        have := h.arr (by omega) a rfl
        cases hq
        have e2 : (a.add (s * 1)).block = a.block := by unfold Addr.add; split <;> rfl
        show ((a.add (s * 1)).block < _) ∧ _
        rw [e2]; exact this

/-- 'k[s:]' -/
theorem slice_from {B : Nat} {w : World} {p : Option Addr} {n c : Nat} {xs : List Int} (h : Kb B w p n c xs) (i : Int) (s : Nat) (hi : i = (s : Int)) (hs : s ≤ n) :
    ∃ q d, (∀ w', (Instr.slice 41 (.slice p n c) (some (.int .i64 i)) none none).run Tryz.prog w' = .ok (.slice q (n - s) d) w') ∧ Kb B w q (n - s) d (xs.drop s) := by
  subst hi
  refine ⟨_, _, fun w' => ?_, h.sub s hs⟩
  rw [run_slice_l w' 41 p n c und41 .i64 (s : Int) (by omega) (by omega), elem41, run_size5]
  rfl
/-- 'k[:s]' -/
theorem slice_to {B : Nat} {w : World} {p : Option Addr} {n c : Nat} {xs : List Int} (h : Kb B w p n c xs) (i : Int) (s : Nat) (hi : i = (s : Int)) (hs : s ≤ n) :
    ∃ q d, (∀ w', (Instr.slice 41 (.slice p n c) none (some (.int .i64 i)) none).run Tryz.prog w' = .ok (.slice q s d) w') ∧ Kb B w q s d (xs.take s) := by
  subst hi
  have hc := h.bs.cap
  have hb := h.bs.big
  refine ⟨if c = 0 then p else p.map (·.add (0 * 1)), c, fun w' => ?_, ?_⟩
  · rw [run_slice_h w' 41 p n c und41 .i64 (s : Int) (by omega) (by omega), elem41, run_size5]
    rfl
  · have h0 := h.sub 0 (Nat.zero_le _)
    have hlen := h.bs.len
    refine ⟨⟨by rw [List.length_take, hlen]; omega, by omega, by omega, fun x hx => h.bs.byte x (List.mem_of_mem_take hx), fun hp => ?_⟩, fun hp => h0.arr (by omega)⟩
    obtain ⟨b, o, e, hcell⟩ := h0.bs.cells.at (by omega)
    refine ⟨b, o, e, fun i hi => ?_⟩
    rw [hcell i (by omega)]
    simp [List.getD_eq_getElem?_getD, hi]

/-- the byte at a place -/
theorem Kb.cellAt {B : Nat} {w : World} {p : Option Addr} {n c : Nat} {xs : List Int} (h : Kb B w p n c xs) (i : Nat) (hi : i < n) : ∃ b o, p = some ⟨b, o, none⟩ ∧ w.cell? ⟨b, o + i, none⟩ = some (.int .u8 (xs.getD i 0)) ∧ b < w.heap.size := by
  obtain ⟨b, o, e, hc⟩ := h.bs.cells.at (by omega)
  exact ⟨b, o, e, hc i hi, (h.arr (by omega) _ e).1⟩

/-- a block that is none of the store's, nor the world's struct -/
theorem Oth.keep {B wb : Nat} {w w' : World} (h : Oth B wb w w') {j : Nat} {cs : Array Value} {t : TypeId} {z : Nat × Nat} (hj : w.heap[j]? = some (.cells cs t z)) (ht : ¬ stT t) (hw : j ≠ wb) : w'.heap[j]? = some (.cells cs t z) :=
  (h.block j (heap_lt hj) hw (not_isSt hj ht)).trans hj

/-- what is handed on: owners' words -/
def Ext (q : Int) (S S' : Store) (t : T) : Prop := (∀ a d, S a = some d → (d.own ≠ q ∨ ¬ t.In a) → S' a = some d) ∧ ∀ a, S a ≠ none → S' a ≠ none

theorem Ext.refl (q : Int) (S : Store) (t : T) : Ext q S S t := ⟨fun _ _ h _ => h, fun _ h => h⟩
end Go.Proofs.YtbihlmkjoplkoaaGreatDoor
/-
  The store behind a step: what lies in it then, plainly.
-/
namespace Go.Proofs.YtbihlmkjoplkoaaGreatDoor
set_option linter.unusedVariables false

def newIn (S : Store) : Nat → Prop := fun a => S a = none

theorem Ext.trans {q : Int} {S S1 S2 : Store} {t : T} (h : Ext q S S1 t) (k : Ext q S1 S2 t) : Ext q S S2 t :=
  ⟨fun a d hd hh => k.1 a d (h.1 a d hd hh) hh, fun a ha => k.2 a (h.2 a ha)⟩
theorem Ext.up {q : Int} {S S' : Store} {id : Nat} {own : Int} {part : List Int} {val : Int} {has leaf : Bool} {kid : Nat → T} {b : Nat} (h : Ext q S S' (kid b)) : Ext q S S' (.node id own part val has leaf kid) :=
  ⟨fun a d hd hh => h.1 a d hd (hh.imp (fun x => x) fun hn hin => hn (Or.inr ⟨b, hin⟩)), h.2⟩
theorem Ext.noneOf {q : Int} {S S' : Store} {t : T} (h : Ext q S S' t) {a : Nat} (ha : S' a = none) : S a = none := by
  cases hS : S a with
  | none => rfl
  | some d => exact absurd ha (h.2 a (by rw [hS]; simp))
/-- a tree that is no part of what was turned lies there still -/
theorem Rep.ext {q : Int} {S S' : Store} {t u : T} (h : Ext q S S' t) (hr : Rep S u) (hn : ∀ a, u.In a → ¬ t.In a) : Rep S' u := by
  refine hr.same fun a ha => ?_
  cases hS : S a with
  | none => exact absurd hS (hr.in ha)
  | some d => exact h.1 a d hS (Or.inr (hn a ha))
/-- a tree of other owners lies there still -/
theorem Rep.frozen {q : Int} {S S' : Store} {t : T} (h : Ext q S S' t) : ∀ {u : T} {hd : List Int}, Rep S u → u.All (fun _ _ own _ => own ≠ q) hd → Rep S' u
  | .nil, _, _, _ => trivial
  | .node id own part val has leaf kid, hd, hr, hA => ⟨h.1 id _ hr.1 (Or.inl hA.1), fun b => Rep.frozen h (hr.2 b) (hA.2 b)⟩

theorem OwnR.mono {q own : Int} {S S1 : Store} {id id' : Nat} (h : OwnR q (newIn S1) id own id') (k : ∀ a, S a ≠ none → S1 a ≠ none) : OwnR q (newIn S) id own id' := by
  rcases h with h | ⟨h1, h2⟩
  · exact Or.inl h
  · refine Or.inr ⟨h1, ?_⟩
    cases hS : S id' with
    | none => exact hS
    | some d => exact absurd h2 (k id' (by rw [hS]; simp))

/-- a node that is the owner's then, its kids as they were -/
theorem own_rep {q : Int} {S S' : Store} {id id' : Nat} {own : Int} {part part' : List Int} {val val' : Int} {has has' leaf leaf' : Bool} {kid : Nat → T}
    (hr : Rep S (.node id own part val has leaf kid)) (hs : (T.node id own part val has leaf kid).Sep) (ho : OwnR q (newIn S) id own id')
    (h1 : S' id' = some ⟨q, part', val', has', leaf', fun c => (kid c).ptr⟩) (h2 : ∀ a, a ≠ id' → S' a = S a) :
    Rep S' (.node id' q part' val' has' leaf' kid) ∧ Ext q S S' (.node id own part val has leaf kid) := by
  have hne : ∀ c a, (kid c).In a → a ≠ id' := by
    intro c a ha e
    subst e
    rcases ho with ⟨_, e⟩ | ⟨_, hn⟩
    · subst e; exact hs.1 c ha
    · exact (hr.2 c).in ha hn
  refine ⟨⟨h1, fun c => (hr.2 c).same fun a ha => h2 a (hne c a ha)⟩, fun a d hd hh => ?_, fun a ha => ?_⟩
  · by_cases e : a = id'
    · subst e
      rcases ho with ⟨e1, e2⟩ | ⟨_, hn⟩
      · subst e2
        have := hd.symm.trans hr.1
        cases this
        rcases hh with hh | hh
        · exact absurd e1 hh
        · exact absurd (Or.inl rfl) hh
      · rw [hn] at hd; cases hd
    · rw [h2 a e]; exact hd
  · by_cases e : a = id'
    · subst e; rw [h1]; simp
    · rw [h2 a e]; exact ha

/-- a node that is the owner's then, one kid turned -/
theorem set_rep {q : Int} {S S1 S' : Store} {id id' b : Nat} {own : Int} {part : List Int} {val val' : Int} {has has' leaf : Bool} {kid : Nat → T} {t1 : T}
    (hr : Rep S (.node id own part val has leaf kid)) (hs : (T.node id own part val has leaf kid).Sep) (h1 : Rep S1 t1) (hx : Ext q S S1 (kid b)) (hin : ∀ a, t1.In a → (kid b).In a ∨ newIn S a)
    (ho : OwnR q (newIn S1) id own id') (h2 : S' id' = some ⟨q, part, val', has', leaf, fun c => (updT kid b t1 c).ptr⟩) (h3 : ∀ a, a ≠ id' → S' a = S1 a) :
    Rep S' (.node id' q part val' has' leaf (updT kid b t1)) ∧ Ext q S S' (.node id own part val has leaf kid) ∧ OwnR q (newIn S) id own id' ∧ (newIn S id' → ¬ t1.In id') := by
  have hk : ∀ c, c ≠ b → Rep S1 (kid c) := fun c hc => Rep.ext hx (hr.2 c) (fun a ha hb => hs.2.1 c b hc a ha hb)
  have hid : S1 id = some ⟨own, part, val, has, leaf, fun b => (kid b).ptr⟩ := hx.1 id _ hr.1 (Or.inr (hs.1 b))
  have hnt : ¬ t1.In id' := by
    intro hin'
    rcases ho with ⟨_, e⟩ | ⟨_, hn⟩
    · subst e
      rcases hin id' hin' with q | q
      · exact hs.1 b q
      · have := hr.1; rw [q] at this; cases this
    · exact h1.in hin' hn
  have hne : ∀ c, c ≠ b → ∀ a, (kid c).In a → a ≠ id' := by
    intro c hc a ha e
    subst e
    rcases ho with ⟨_, e⟩ | ⟨_, hn⟩
    · subst e; exact hs.1 c ha
    · exact (hk c hc).in ha hn
  refine ⟨⟨h2, fun c => ?_⟩, ⟨fun a d hd hh => ?_, fun a ha => ?_⟩, ho.mono hx.2, fun _ => hnt⟩
  · by_cases e : c = b
    · subst e; rw [updT_same]; exact h1.same fun a ha => h3 a (fun e => hnt (e ▸ ha))
    · rw [updT_other _ _ _ _ e]; exact (hk c e).same fun a ha => h3 a (hne c e a ha)
  · have hS1 := (Ext.up (id := id) (own := own) (part := part) (val := val) (has := has) (leaf := leaf) hx).1 a d hd hh
    by_cases e : a = id'
    · subst e
      rcases ho with ⟨e1, e2⟩ | ⟨_, hn⟩
      · subst e2
        have := hd.symm.trans hr.1
        cases this
        rcases hh with hh | hh
        · exact absurd e1 hh
        · exact absurd (Or.inl rfl) hh
      · rw [hn] at hS1; cases hS1
    · rw [h3 a e]; exact hS1
  · by_cases e : a = id'
    · subst e; rw [h2]; simp
    · rw [h3 a e]; exact hx.2 a ha

/-- the kid was turned in its place: the node is as it was -/
theorem same_rep {q : Int} {S S1 : Store} {id b : Nat} {own : Int} {part : List Int} {val : Int} {has leaf : Bool} {kid : Nat → T} {t1 : T}
    (hr : Rep S (.node id own part val has leaf kid)) (hs : (T.node id own part val has leaf kid).Sep) (h1 : Rep S1 t1) (hx : Ext q S S1 (kid b)) (hp : t1.ptr = (kid b).ptr) :
    Rep S1 (.node id own part val has leaf (updT kid b t1)) ∧ Ext q S S1 (.node id own part val has leaf kid) := by
  have hid : S1 id = some ⟨own, part, val, has, leaf, fun b => (kid b).ptr⟩ := hx.1 id _ hr.1 (Or.inr (hs.1 b))
  refine ⟨⟨?_, fun c => ?_⟩, Ext.up hx⟩
  · rw [hid]
    have : (fun b => (kid b).ptr) = fun c => (updT kid b t1 c).ptr := by
      funext c
      by_cases e : c = b
      · subst e; rw [updT_same, hp]
      · rw [updT_other _ _ _ _ e]
    rw [this]
  · by_cases e : c = b
    · subst e; rw [updT_same]; exact h1
    · rw [updT_other _ _ _ _ e]; exact Rep.ext hx (hr.2 c) (fun a ha hb => hs.2.1 c b e a ha hb)

theorem ptr_upd (kid : Nat → T) (b : Nat) (t1 : T) : (fun c => (updT kid b t1 c).ptr) = updK (fun c => (kid c).ptr) b t1.ptr := by
  funext c
  unfold updK
  by_cases e : c = b
  · subst e; rw [updT_same, if_pos rfl]
  · rw [updT_other _ _ _ _ e, if_neg e]

end Go.Proofs.YtbihlmkjoplkoaaGreatDoor
