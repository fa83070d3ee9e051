/-
  For the statement TopOwners: del: join, lift; del: here, without; del: without.
-/
import Derived.Test.YtbihlmkjoplkoaaGreatDoorM25
/-
  del: join, lift.
-/
namespace Go.Proofs.YtbihlmkjoplkoaaGreatDoor
open Go.RowKit
set_option linter.unusedVariables false

/-- memory has grown alone -/
def Gw (a b : World) : Prop := Below a.heap.size a b
theorem Gw.refl (a : World) : Gw a a := Below.refl _ _
theorem Gw.trans {a b c : World} (h : Gw a b) (k : Gw b c) : Gw a c := Below.step h k
theorem Gw.alloc {a b : World} (h : Gw a b) (o : Obj) : Gw a (b.alloc o) := Below.alloc h h.size o
theorem Gw.drewN {a b : World} (h : Gw a b) (z : Nat) : Gw a (b.drewN z) := below_drewN h z
theorem Gw.drew {a b : World} (h : Gw a b) : Gw a b.drew := below_drewN h 1
theorem Gw.heap {a b : World} (h : Gw a b) {g : Nat} {x : Obj} (hg : a.heap[g]? = some x) : b.heap[g]? = some x := (h.block g (heap_lt hg)).trans hg
theorem Kb.gw {B : Nat} {w w' : World} {p : Option Addr} {n c : Nat} {xs : List Int} (h : Kb B w p n c xs) (k : Gw w w') : Kb B w' p n c xs := h.step k

theorem Kb.byte {B : Nat} {w : World} {g c : Nat} (h : w.heap[g]? = some (.cells #[.int .u8 c] 5 (0, 0))) (hc : c < 256) : Kb B w (some ⟨g, 0, none⟩) 1 1 [(c : Int)] := by
  refine ⟨⟨rfl, Nat.le_refl _, by omega, by simp; omega, fun _ => ⟨g, 0, rfl, fun i hi => ?_⟩⟩, fun _ q hq => ?_⟩
  · obtain rfl : i = 0 := by omega
    rw [cell_of_row _ _ _ _ _ _ h]; rfl
  · cases hq; exact ⟨heap_lt h, Or.inr ⟨_, _, h⟩⟩

theorem join141 {B : Nat} {w : World} {g : Nat} {ty : TypeId} {p1 p2 p3 : Option Addr} {n1 n2 n3 c1 c2 c3 : Nat} {x1 x2 x3 : List Int} (hg : w.heap[g]? = some (.cells #[.slice p1 n1 c1, .slice p2 n2 c2, .slice p3 n3 c3] ty (0, 0)))
    (b1 : Kb B w p1 n1 c1 x1) (b2 : Kb B w p2 n2 c2 x2) (b3 : Kb B w p3 n3 c3 x3) (h1 : n1 ≤ 65536) (h2 : n2 ≤ 65536) (h3 : n3 ≤ 65536) :
    Calls Tryz.prog 141 #[.slice (some ⟨g, 0, none⟩) 3 3] w fun e w' => PartR B w w' (x1 ++ x2 ++ x3) e := by
  have HC := Lib.hid (Concat164 w g p1 p2 p3 n1 n2 n3 c1 c2 c3 x1 x2 x3 (by rw [cell_of_row _ _ _ _ _ _ hg]; rfl) (by rw [cell_of_row _ _ _ _ _ _ hg]; rfl) (by rw [cell_of_row _ _ _ _ _ _ hg]; rfl) b1.bs b2.bs b3.bs h1 h2 h3)
  have HX := Lib.hid (show (∀ x ∈ x1 ++ x2 ++ x3, 0 ≤ x ∧ x < 256) ∧ (x1 ++ x2 ++ x3).length = n1 + n2 + n3 ∧ n1 + n2 + n3 ≤ 140737488351232 from ⟨fun x hx => by
    rcases List.mem_append.1 hx with hx | hx
    · rcases List.mem_append.1 hx with hx | hx
      · exact b1.bs.byte x hx
      · exact b2.bs.byte x hx
    · exact b3.bs.byte x hx, by simp [b1.bs.len, b2.bs.len, b3.bs.len, Nat.add_assoc], by omega⟩)
  clear hg b1 b2 b3 h1 h2 h3
  go_enter Tryz.func141, Tryz.ntmps141
  go_wp2_with fail
  refine HC.out.mono ?_; rintro e w1 ⟨p, c, rfl, ho, hb⟩
  have HO := Lib.hid ho
  have HB := Lib.hid hb
  clear ho hb
  go_wp2_with fail
  go_ret
  refine ⟨p, c, ?_, ?_, HB.out⟩
  · rw [HX.out.2.1]; rfl
  · rw [HX.out.2.1]; exact Kb.ofOwn HO.out HX.out.2.2 HX.out.1

/-- the boxed taker -/
structure Tk (w : World) (b : Nat) (q : Int) (wb : Nat) : Prop where
  heap : w.heap[b]? = some (.cells #[.int .u64 q, .pointer (some ⟨wb, 0, none⟩)] 129 (0, 0))
  ne : b ≠ wb
section
variable {B wb : Nat} {o : Int} {w : World} {S : Store}
theorem Tk.c0 {b : Nat} {q : Int} (h : Tk w b q wb) : w.cell? ⟨b, 0, none⟩ = some (.int .u64 q) := by rw [cell_of_row _ _ _ _ _ _ h.heap]; rfl
theorem Tk.c1 {b : Nat} {q : Int} (h : Tk w b q wb) : w.cell? ⟨b, 1, none⟩ = some (.pointer (some ⟨wb, 0, none⟩)) := by rw [cell_of_row _ _ _ _ _ _ h.heap]; rfl
theorem Tk.oth {b : Nat} {q : Int} {w' : World} (h : Tk w b q wb) (k : Oth B wb w w') : Tk w' b q wb := ⟨k.keep h.heap (by simp [stT]) h.ne, h.ne⟩
theorem Tk.step {b : Nat} {q : Int} {w' : World} (h : Tk w b q wb) (k : Gw w w') : Tk w' b q wb := ⟨k.heap h.heap, h.ne⟩

/-- the world behind the box -/
structure StartD (B wb : Nat) (o : Int) (w W : World) (S : Store) (q : Int) : Prop where
  env : Env B wb o W S
  oth : Oth B wb w W
  bel : Gw w W
  bx : Tk W w.heap.size q wb
theorem StartD.mk' (h : Env B wb o w S) (q : Int) : StartD B wb o w (w.alloc (.cells #[.int .u64 q, .pointer (some ⟨wb, 0, none⟩)] 129)) S q := by
  have hB : Gw w (w.alloc (.cells #[.int .u64 q, .pointer (some ⟨wb, 0, none⟩)] 129)) := (Gw.refl _).alloc _
  exact ⟨h.below hB, h.oth hB, hB, ⟨heap_alloc_new _ _, by have := h.wld.lt; omega⟩⟩

/-- what lift leaves -/
def LiftS (B wb : Nat) (o : Int) (w w' : World) (S : Store) (q : Int) (part : List Int) (c id1 : Nat) (d1 : ND) (e : Ending) : Prop :=
  ∃ id' S', e = .returned (.pointer (some ⟨id', 0, none⟩)) ∧ Env B wb o w' S' ∧ Oth B wb w w' ∧ OwnR q (newIn S) id1 d1.own id' ∧ S' id' = some { d1 with own := q, part := part ++ (c : Int) :: d1.part } ∧ ∀ b, b ≠ id' → S' b = S b

def taker (q : Int) (wb : Nat) : Value := .agg #[.int .u64 q, .pointer (some ⟨wb, 0, none⟩)]

set_option maxHeartbeats 3200000 in
set_option maxRecDepth 100000 in
theorem lift113 (h : Env B wb o w S) (q : Int) (h0 : q ≠ 0) {id id1 : Nat} {d d1 : ND} (hd : S id = some d) (hd1 : S id1 = some d1) (c : Nat) (hc : c < 256) (hl : d.part.length ≤ 65536) (hl1 : d1.part.length ≤ 65536) :
    Calls Tryz.prog 113 #[taker q wb, .pointer (some ⟨id, 0, none⟩), .int .u8 c, .pointer (some ⟨id1, 0, none⟩)] w fun e w' => LiftS B wb o w w' S q d.part c id1 d1 e := by
  have ST := Lib.hid (StartD.mk' h q)
  have HD := Lib.hid (show S id = some d ∧ S id1 = some d1 ∧ c < 256 ∧ d.part.length ≤ 65536 ∧ d1.part.length ≤ 65536 from ⟨hd, hd1, hc, hl, hl1⟩)
  have H0 := Lib.hid h0
  clear h hd hd1 hc hl hl1 h0
  unfold taker
  go_enter Tryz.func113, Tryz.ntmps113
  go_wp2_with fail
  refine (own85 ST.out.env HD.out.2.1 q H0.out).mono ?_; rintro e w1 hown
  obtain ⟨a', S1, rfl, ho, hE, hO, hS1, hS2⟩ := own_as ST.out.env HD.out.2.1 hown
  have hid : ∃ d', S1 id = some d' ∧ d'.part = d.part := by
    by_cases e : id = a'
    · rcases ho with ⟨_, e2⟩ | ⟨_, hn⟩
      · have h1 : d = d1 := by
          have := HD.out.1
          rw [e, e2, HD.out.2.1] at this
          exact (Option.some.inj this).symm
        exact ⟨{ d1 with own := q }, by rw [e]; exact hS1, by rw [h1]⟩
      · have := HD.out.1; rw [e] at this; rw [show S a' = none from hn] at this; cases this
    · exact ⟨d, (hS2 id e).trans HD.out.1, rfl⟩
  obtain ⟨dn, hdn, hpn⟩ := hid
  have hkd : ∃ d', S1 id1 = some d' ∧ d'.part = d1.part := by
    by_cases e : id1 = a'
    · exact ⟨{ d1 with own := q }, by rw [e]; exact hS1, rfl⟩
    · exact ⟨d1, (hS2 id1 e).trans HD.out.2.1, rfl⟩
  obtain ⟨dk, hdk, hpk⟩ := hkd
  have BX := ST.out.bx.oth hO
  have c0 := BX.c0
  have E1 := Lib.hid hE
  have O1 := Lib.hid hO
  have A1 := Lib.hid hS1
  have A2 := Lib.hid hS2
  have OW := Lib.hid ho
  have N1 := Lib.hid (show S1 id = some dn ∧ dn.part = d.part from ⟨hdn, hpn⟩)
  have K1 := Lib.hid (show S1 id1 = some dk ∧ dk.part = d1.part from ⟨hdk, hpk⟩)
  have B1 := Lib.hid BX
  clear hE hO hS1 hS2 ho hown hdn hpn hdk hpk BX
  have PA : Hid (∀ W, Gw w1 W → Calls Tryz.prog 58 #[.pointer (some ⟨id, 0, none⟩)] W fun e w' => ∃ p c, e = .returned (.slice p d.part.length c) ∧ Kb B w' p d.part.length c d.part ∧ Gw W w') := fun W g => by
    have := part58 (E1.out.sto.step g) N1.out.1
    rw [N1.out.2] at this
    exact this
  have PB : Hid (∀ W, Gw w1 W → Calls Tryz.prog 58 #[.pointer (some ⟨id1, 0, none⟩)] W fun e w' => ∃ p c, e = .returned (.slice p d1.part.length c) ∧ Kb B w' p d1.part.length c d1.part ∧ Gw W w') := fun W g => by
    have := part58 (E1.out.sto.step g) K1.out.1
    rw [K1.out.2] at this
    exact this
  have PC : Hid (∀ W pp m cc xs, Gw w1 W → Kb B W pp m cc xs → Calls Tryz.prog 111 #[.pointer (some ⟨a', 0, none⟩), .int .u64 q, .slice pp m cc] W fun e w' => Turned B wb o W w' S1 a' { own := q, part := xs, val := d1.val, has := d1.has, leaf := d1.leaf, kid := d1.kid } e ∧ Oth B wb w1 w') := fun W pp m cc xs g k =>
    (setPart111 (E1.out.below g) A1.out q H0.out rfl k).mono fun e w' t => ⟨t, (E1.out.oth g).trans t.choose_spec.2.2⟩
  have KL : Hid ((d.part ++ [(c : Int)] ++ d1.part).length = d.part.length + (d1.part.length + 1)) := by show _ = _; simp
  go_wp2_with fail
  go_region_held3 (fun W' : World => W'.cell? ⟨w.heap.size, 0, none⟩ = some (.int .u64 q))
    (first
      | assumption
      | exact (B1.out.step (by first | exact g3 | exact g3.alloc _ | exact (g3.alloc _).alloc _ | exact g2 | exact g2.alloc _ | exact (Gw.refl _).drew | exact (Gw.refl _).drew.alloc _)).c0)
    (first
      | (go_at_call_of 58 id
         refine (PA.out _ (by first | exact g3 | exact g3.alloc _ | exact (g3.alloc _).alloc _ | exact g2 | exact g2.alloc _ | exact (Gw.refl _).drew | exact (Gw.refl _).drew.alloc _)).mono ?_
         rintro e w2 ⟨pa, ca, rfl, ka, ga⟩
         have g2 : Gw w1 w2 := Gw.trans (by first | exact g3 | exact g3.alloc _ | exact (g3.alloc _).alloc _ | exact g2 | exact g2.alloc _ | exact (Gw.refl _).drew | exact (Gw.refl _).drew.alloc _) ga
         have y2 : w2.cell? ⟨w.heap.size, 0, none⟩ = some (.int .u64 q) := (B1.out.step g2).c0)
      | (go_at_call_of 58 id1
         refine (PB.out _ (by first | exact g3 | exact g3.alloc _ | exact (g3.alloc _).alloc _ | exact g2 | exact g2.alloc _ | exact (Gw.refl _).drew | exact (Gw.refl _).drew.alloc _)).mono ?_
         rintro e w3 ⟨pb, cb, rfl, kb, gb⟩
         have g3 : Gw w1 w3 := Gw.trans (by first | exact g3 | exact g3.alloc _ | exact (g3.alloc _).alloc _ | exact g2 | exact g2.alloc _ | exact (Gw.refl _).drew | exact (Gw.refl _).drew.alloc _) gb
         have y3 : w3.cell? ⟨w.heap.size, 0, none⟩ = some (.int .u64 q) := (B1.out.step g3).c0)
      | (go_at_call 111
         refine (PC.out _ _ _ _ _ g4 kc).mono ?_
         rintro e w5 ⟨⟨m5, rfl, e5, o5⟩, oo⟩
         have y5 : w5.cell? ⟨w.heap.size, 0, none⟩ = some (.int .u64 q) := (B1.out.oth oo).c0)
      | (go_at_call 141
         first
           | (refine (join141 (B := B) (x1 := d.part) (x2 := [(c : Int)]) (x3 := d1.part) (heap_alloc_new w3 _) ?ja ?jb ?jc HD.out.2.2.2.1 (Nat.le_add_left 1 65535) HD.out.2.2.2.2).mono ?_
              case ja => first
                | exact Kb.gw ka (Gw.trans (b := w2.alloc (.cells #[.int .u8 c] 5)) (Gw.alloc (Gw.refl w2) _) (Gw.alloc gb _))
                | exact Kb.gw ka (Gw.alloc gb _)
              case jb => first
                | exact Kb.byte (Gw.heap (a := w2.alloc (.cells #[.int .u8 c] 5)) (Gw.alloc gb _) (heap_alloc_new w2 _)) HD.out.2.2.1
                | exact Kb.byte (Gw.heap (a := w1.drew.alloc (.cells #[.int .u8 c] 5)) (Gw.alloc (Gw.trans ga gb) _) (heap_alloc_new w1.drew _)) HD.out.2.2.1
              case jc => exact Kb.gw kb (Gw.alloc (Gw.refl w3) _))
           | (have hh := heap_alloc_new (w3.alloc (.cells #[.int .u8 c] 5)) (.cells #[.slice pa d.part.length ca, .slice (some ⟨w3.heap.size, 0, none⟩) 1 1, .slice pb d1.part.length cb] 41)
              rw [World.size_alloc] at hh
              refine (join141 (B := B) (x1 := d.part) (x2 := [(c : Int)]) (x3 := d1.part) hh ?ka ?kb ?kc HD.out.2.2.2.1 (Nat.le_add_left 1 65535) HD.out.2.2.2.2).mono ?_
              case ka => exact Kb.gw ka (Gw.alloc (b := w3.alloc (.cells #[.int .u8 c] 5)) (Gw.alloc gb _) _)
              case kb => exact Kb.byte (Gw.heap (a := w3.alloc (.cells #[.int .u8 c] 5)) (Gw.alloc (Gw.refl _) _) (heap_alloc_new w3 _)) HD.out.2.2.1
              case kc => exact Kb.gw kb (Gw.alloc (b := w3.alloc (.cells #[.int .u8 c] 5)) (Gw.alloc (Gw.refl w3) _) _))
         rintro e w4 ⟨pc, cc, he, kc, gc⟩
         rw [KL.out] at he kc
         subst he
         have g4 : Gw w1 w4 := by first
           | exact Gw.trans (Gw.alloc g3 _) gc
           | exact Gw.trans (Gw.alloc (b := w3.alloc (.cells #[.int .u8 c] 5)) (Gw.alloc g3 _) _) gc
         have y4 : w4.cell? ⟨w.heap.size, 0, none⟩ = some (.int .u64 q) := (B1.out.step g4).c0))
  all_goals
    have F : Hid (LiftS B wb o w w5 S q d.part c id1 d1 (.returned (.pointer (some ⟨a', 0, none⟩)))) :=
      ⟨a', _, rfl, e5, (ST.out.oth.trans O1.out).trans oo, OW.out, by rw [stS_same]; simp, fun b hb => (stS_other _ _ _ _ hb).trans (A2.out b hb)⟩
    clear e5 o5 oo
    go_wp2_with fail
    go_ret
    exact F.out
end
end Go.Proofs.YtbihlmkjoplkoaaGreatDoor
/-
  del: here, without.
-/
namespace Go.Proofs.YtbihlmkjoplkoaaGreatDoor
open Go.RowKit
set_option linter.unusedVariables false

theorem kcnt_zero {kid : Nat → Option Nat} (h : ∀ c, c < 256 → kid c = none) : kcnt kid = 0 := by
  unfold kcnt cntF
  rw [List.filter_eq_nil_iff.2]
  · rfl
  · intro b hb
    have hb : b < 256 := by simpa using hb
    rw [thK_some, h b hb]; simp
theorem two_range {p : Nat → Bool} {n : Nat} (h : 2 ≤ ((List.range n).filter p).length) : ∃ b c, b ≠ c ∧ b < n ∧ c < n ∧ p b = true ∧ p c = true := by
  have hd : ((List.range n).filter p).Nodup := List.Pairwise.filter p List.nodup_range
  have h0 := List.getElem_mem (l := (List.range n).filter p) (n := 0) (by omega)
  have h1 := List.getElem_mem (l := (List.range n).filter p) (n := 1) (by omega)
  have hne : ((List.range n).filter p)[0] ≠ ((List.range n).filter p)[1] := List.pairwise_iff_getElem.1 hd 0 1 (by omega) (by omega) (by omega)
  rw [List.mem_filter] at h0 h1
  exact ⟨_, _, hne, by simpa using h0.1, by simpa using h1.1, h0.2, h1.2⟩
theorem kcnt_two {kid : Nat → Option Nat} (h : 2 ≤ kcnt kid) : ∃ b c, b ≠ c ∧ b < 256 ∧ c < 256 ∧ kid b ≠ none ∧ kid c ≠ none := by
  obtain ⟨b, c, h1, h2, h3, h4, h5⟩ := two_range h
  rw [thK_some] at h4 h5
  refine ⟨b, c, h1, h2, h3, ?_, ?_⟩
  · intro e; rw [e] at h4; cases h4
  · intro e; rw [e] at h5; cases h5
theorem ptr_ne {t : T} (h : t.ptr ≠ none) : t ≠ .nil := fun e => h (by rw [e]; rfl)
theorem ptr_node {t : T} {a : Nat} (h : t.ptr = some a) : ∃ own part val has leaf kid, t = .node a own part val has leaf kid := by
  cases t with
  | nil => cases h
  | node id own part val has leaf kid => cases h; exact ⟨_, _, _, _, _, _, rfl⟩
theorem two_of {kid : Nat → T} (h : 2 ≤ kcnt fun b => (kid b).ptr) : Two kid := by
  obtain ⟨b, c, h1, _, _, h2, h3⟩ := kcnt_two h
  exact ⟨b, c, h1, ptr_ne h2, ptr_ne h3⟩

/-- each part is short -/
def Short : List Int → Nat → Int → List Int → Prop := fun _ _ _ part => part.length ≤ 65536

/-- what a deletion leaves -/
def DelS (B wb : Nat) (o : Int) (w w' : World) (S : Store) (q : Int) (t : T) (e : Ending) : Prop :=
  ∃ t' S', e = .returned (.pointer (pt t'.ptr)) ∧ Env B wb o w' S' ∧ Oth B wb w w' ∧ Rep S' t' ∧ Ext q S S' t ∧ DelR q (newIn S) t t'
theorem DelS.before {B wb : Nat} {o : Int} {w w0 w' : World} {S : Store} {q : Int} {t : T} {e : Ending} (h : DelS B wb o w0 w' S q t e) (k0 : Oth B wb w w0) : DelS B wb o w w' S q t e :=
  let ⟨t', S', h1, h2, h3, h4⟩ := h; ⟨t', S', h1, h2, k0.trans h3, h4⟩

/-- a kid lifted -/
theorem lift_rep {q : Int} {S S' : Store} {id1 id' c : Nat} {own1 : Int} {part part1 : List Int} {val1 : Int} {has1 leaf1 : Bool} {kid1 : Nat → T}
    (hr : Rep S (.node id1 own1 part1 val1 has1 leaf1 kid1)) (hs : (T.node id1 own1 part1 val1 has1 leaf1 kid1).Sep) (ho : OwnR q (newIn S) id1 own1 id')
    (h1 : S' id' = some ⟨q, part ++ (c : Int) :: part1, val1, has1, leaf1, fun c => (kid1 c).ptr⟩) (h2 : ∀ a, a ≠ id' → S' a = S a) :
    Rep S' (.node id' q (part ++ (c : Int) :: part1) val1 has1 leaf1 kid1) ∧ Ext q S S' (.node id1 own1 part1 val1 has1 leaf1 kid1) := own_rep hr hs ho h1 h2

section
variable {B wb : Nat} {o : Int} {w : World} {S : Store}

set_option maxHeartbeats 1600000 in
set_option maxRecDepth 100000 in
theorem here84 (h : Env B wb o w S) (q : Int) (h0 : q ≠ 0) {id : Nat} {own : Int} {part : List Int} {val : Int} {has leaf : Bool} {kid : Nat → T}
    (hr : Rep S (.node id own part val has leaf kid)) (hs : (T.node id own part val has leaf kid).Sep) {hd : List Int} (ha : (T.node id own part val has leaf kid).All Short hd) :
    Calls Tryz.prog 84 #[taker q wb, .pointer (some ⟨id, 0, none⟩)] w fun e w' => DelS B wb o w w' S q (.node id own part val has leaf kid) e := by
  have HR := Lib.hid hr
  have HS := Lib.hid hs
  have HA := Lib.hid ha
  have H0 := Lib.hid h0
  have ST := Lib.hid (StartD.mk' h q)
  have HL := Lib.hid (len112 ST.out.env.sto hr.1)
  have hle : kcnt (fun b => (kid b).ptr) ≤ 256 := cntF_le _
  clear h hr hs ha h0
  obtain ⟨m, hm⟩ : ∃ m, kcnt (fun b => (kid b).ptr) = m := ⟨_, rfl⟩
  simp only [hm] at HL hle
  have HM := Lib.hid hm
  clear hm
  by_cases m0 : m = 0
  · subst m0
    unfold taker
    go_enter Tryz.func84, Tryz.ntmps84
    go_wp2_with fail
    refine HL.out.mono ?_; rintro e w1 ⟨rfl, hw1⟩
    rw [hw1]; clear hw1 w1
    go_wp2_with fail
    go_ret
    exact ⟨.nil, S, rfl, ST.out.env, ST.out.oth, trivial, ⟨fun a d hd _ => hd, fun a ha => ha⟩, DelR.gone _⟩
  · by_cases m1 : m = 1
    · subst m1
      clear m0
      unfold taker
      go_enter Tryz.func84, Tryz.ntmps84
      go_wp2_with fail
      refine HL.out.mono ?_; rintro e w1 ⟨rfl, hw1⟩
      rw [hw1]; clear hw1 w1
      go_wp2_with fail
      refine (next61 ST.out.env.sto HR.out.1 0).mono ?_; rintro e w1 ⟨r, hnk, rfl, z, rfl⟩
      rcases hnk with ⟨b, a, hb, _, hk, _, hr'⟩ | ⟨hz, _⟩
      · obtain ⟨own1, part1, val1, has1, leaf1, kid1, hkid⟩ := ptr_node hk
        have hr1 : Rep S (.node a own1 part1 val1 has1 leaf1 kid1) := by rw [← hkid]; exact HR.out.2 b
        have hs1 : (T.node a own1 part1 val1 has1 leaf1 kid1).Sep := by rw [← hkid]; exact HS.out.2.2 b
        have ha1 := HA.out.2 b
        rw [hkid] at ha1
        have R1 := Lib.hid hr1
        have S1 := Lib.hid hs1
        have L1 := Lib.hid ha1.1
        have K1 := Lib.hid hkid
        have B1 := Lib.hid hb
        clear hk hr1 hs1 ha1 hkid hb
        subst hr'
        simp only [pt]
        have bx := (ST.out.bx.step ((Gw.refl _).drewN z))
        have b0 := bx.c0
        have b1 := bx.c1
        clear bx
        go_wp2_with fail
        refine (lift113 (ST.out.env.drewN z) q H0.out HR.out.1 R1.out.1 b B1.out HA.out.1 L1.out).mono ?_; rintro e w2 ⟨id', S2, rfl, hE, hO, ho, h1, h2⟩
        have F : Hid (DelS B wb o w w2 S q (.node id own part val has leaf kid) (.returned (.pointer (some ⟨id', 0, none⟩)))) := by
          obtain ⟨g1, g2⟩ := lift_rep R1.out S1.out ho h1 h2
          rw [← K1.out] at g2
          exact ⟨.node id' q (part ++ (b : Int) :: part1) val1 has1 leaf1 kid1, S2, rfl, hE, (ST.out.oth.drewN z).trans hO, g1, Ext.up g2, DelR.lift _ _ _ _ _ _ _ b _ _ _ _ _ _ _ _ K1.out ho⟩
        clear hE hO ho h1 h2 b0 b1
        go_wp2_with fail
        go_ret
        exact F.out
      · exact absurd HM.out (by rw [kcnt_zero (fun c hc => hz c hc (by omega))]; omega)
    · have d0 : ((m : Int) == 0) = false := by simp; omega
      have d1 : ((m : Int) == 1) = false := by simp; omega
      have D2 := Lib.hid (show 2 ≤ m by omega)
      clear m0 m1 hle
      unfold taker
      go_enter Tryz.func84, Tryz.ntmps84
      go_wp2_with fail
      refine HL.out.mono ?_; rintro e w1 ⟨rfl, hw1⟩
      rw [hw1]; clear hw1 w1
      go_wp2_with fail
      refine (own85 ST.out.env HR.out.1 q H0.out).mono ?_; rintro e w1 hown
      obtain ⟨a', S1, rfl, ho, hE, hO, hS1, hS2⟩ := own_as ST.out.env HR.out.1 hown
      have b := ST.out.bx.oth hO
      have b0 := b.c0
      have E1 := Lib.hid hE
      have O1 := Lib.hid hO
      have A1 := Lib.hid hS1
      have A2 := Lib.hid hS2
      have OW := Lib.hid ho
      have LF : Hid (leaf = false) := by
        show leaf = false
        cases hl : leaf with
        | false => rfl
        | true =>
          have h2 := HM.out
          have hf := (ST.out.env.sto.fit _ _ HR.out.1).1 hl
          rw [kcnt_zero (fun c _ => hf c)] at h2
          have := D2.out
          omega
      clear b hE hO hS1 hS2 ho hown
      go_wp2_with fail
      refine (dropVal114 E1.out A1.out q H0.out rfl LF.out).mono ?_; rintro e w2 ⟨v', t', n, rfl, hE, hO⟩
      have E2 := Lib.hid hE
      have O2 := Lib.hid hO
      clear hE hO b0
      go_wp2_with fail
      go_ret
      obtain ⟨h1, h2⟩ := own_rep (part' := part) (val' := v') (has' := t') (leaf' := leaf) (S' := stS S1 a' { own := q, part := part, val := v', has := t', leaf := leaf, kid := fun c => (kid c).ptr }) HR.out HS.out OW.out (stS_same _ _ _) (fun b hb => (stS_other _ _ _ _ hb).trans (A2.out b hb))
      exact ⟨_, _, rfl, E2.out, (ST.out.oth.trans O1.out).trans O2.out, h1, h2, DelR.own _ _ _ _ _ _ _ _ _ _ OW.out (Or.inr (two_of (by rw [HM.out]; exact D2.out)))⟩
end
end Go.Proofs.YtbihlmkjoplkoaaGreatDoor
/-
  del: without.
-/
namespace Go.Proofs.YtbihlmkjoplkoaaGreatDoor
open Go.RowKit
set_option linter.unusedVariables false

/-- what without leaves -/
def WoS (B wb : Nat) (o : Int) (w w' : World) (S : Store) (q : Int) (id : Nat) (d : ND) (b : Nat) (e : Ending) : Prop :=
  (∃ id' S', e = .returned (.pointer (some ⟨id', 0, none⟩)) ∧ Env B wb o w' S' ∧ Oth B wb w w' ∧ OwnR q (newIn S) id d.own id' ∧ S' id' = some { d with own := q, kid := updK d.kid b none } ∧ (∀ a, a ≠ id' → S' a = S a) ∧ 2 < occ d) ∨
  (∃ id' v, e = .returned (.pointer (some ⟨id', 0, none⟩)) ∧ S id' = none ∧ Env B wb o w' (stS S id' ⟨q, d.part, v, true, true, fun _ => none⟩) ∧ Oth B wb w w') ∨
  (∃ c id1 d1, c ≠ b ∧ d.kid c = some id1 ∧ S id1 = some d1 ∧ LiftS B wb o w w' S q d.part c id1 d1 e)

theorem Sto.valR {B : Nat} {w : World} {S : Store} (h : Sto B w S) {a : Nat} {d : ND} (hd : S a = some d) : 0 ≤ valOf d ∧ valOf d < 18446744073709551616 := by
  obtain ⟨FQ, hs⟩ := h
  obtain ⟨p', n', c', kb, hn⟩ := hs.node _ _ hd
  have := hn.val
  simp only [valOf]
  split <;> omega

/-- which kid is lifted -/
theorem next_other {kid : Nat → Option Nat} {b : Nat} (h2 : ∃ x y, x ≠ y ∧ x < 256 ∧ y < 256 ∧ kid x ≠ none ∧ kid y ≠ none) {r : Nat × Option Nat} (hr : NextK kid (0 : Nat) r) :
    ∃ c a, c < 256 ∧ kid c = some a ∧ r = (c, some a) ∧ (c = b → ∀ s, NextK kid ((b : Int) + 1) s → ∃ c' a', c' ≠ b ∧ c' < 256 ∧ kid c' = some a' ∧ s = (c', some a')) := by
  obtain ⟨x, y, hxy, hx, hy, kx, ky⟩ := h2
  rcases hr with ⟨c, a, hc, _, hk, hlow, rfl⟩ | ⟨hz, _⟩
  · refine ⟨c, a, hc, hk, rfl, fun e s hs => ?_⟩
    subst e
    rcases hs with ⟨c', a', hc', hge, hk', _, rfl⟩ | ⟨hz, _⟩
    · exact ⟨c', a', by omega, hc', hk', rfl⟩
    · exfalso
      have hxc : ∀ z, z < 256 → kid z ≠ none → z = c := by
        intro z hz' hkz
        rcases Nat.lt_trichotomy z c with h | h | h
        · exact absurd (hlow z h (by omega)) hkz
        · exact h
        · exact absurd (hz z hz' (by omega)) hkz
      exact hxy ((hxc x hx kx).trans (hxc y hy ky).symm)
  · exact absurd (hz x hx (by omega)) kx

section
variable {B wb : Nat} {o : Int} {w : World} {S : Store}

set_option maxHeartbeats 1600000 in
set_option maxRecDepth 100000 in
theorem without86 (h : Env B wb o w S) (q : Int) (h0 : q ≠ 0) {id : Nat} {d : ND} (hd : S id = some d) (hl : d.leaf = false) (hp : d.part.length ≤ 65536) (b : Nat) (hb : b < 256)
    (h2 : d.has = false → ∃ x y, x ≠ y ∧ x < 256 ∧ y < 256 ∧ d.kid x ≠ none ∧ d.kid y ≠ none) (hk : ∀ c a, c ≠ b → d.kid c = some a → ∃ d1, S a = some d1 ∧ d1.part.length ≤ 65536) :
    Calls Tryz.prog 86 #[taker q wb, .pointer (some ⟨id, 0, none⟩), .int .u8 b] w fun e w' => WoS B wb o w w' S q id d b e := by
  have HH := Lib.hid (show S id = some d ∧ d.leaf = false ∧ d.part.length ≤ 65536 ∧ b < 256 ∧ q ≠ 0 from ⟨hd, hl, hp, hb, h0⟩)
  have H2 := Lib.hid h2
  have HK := Lib.hid hk
  have ST := Lib.hid (StartD.mk' h q)
  have HV := Lib.hid (val63 ST.out.env.sto hd)
  have HO := Lib.hid (occ116 ST.out.env.sto hd)
  have HR := Lib.hid (ST.out.env.sto.valR hd)
  have hle : occ d ≤ 257 := by
    unfold occ
    have : kcnt d.kid ≤ 256 := cntF_le _
    split <;> omega
  have c0 := ST.out.bx.c0
  have c1 := ST.out.bx.c1
  clear h hd hl hp hb h0 h2 hk
  obtain ⟨m, hm⟩ : ∃ m, occ d = m := ⟨_, rfl⟩
  simp only [hm] at HO hle
  have HM := Lib.hid hm
  clear hm
  obtain ⟨vv, hvv⟩ : ∃ vv, valOf d = vv := ⟨_, rfl⟩
  simp only [hvv] at HV HR
  clear hvv
  by_cases m2 : 2 < m
  · have d0 : decide ((m : Int) > 2) = true := by simp; omega
    have D2 := Lib.hid m2
    clear m2 hle
    unfold taker
    go_enter Tryz.func86, Tryz.ntmps86
    go_wp2_with fail
    refine HV.out.mono ?_; rintro e w1 ⟨rfl, hw1⟩
    rw [hw1]; clear hw1 w1
    go_wp2_with fail
    refine HO.out.mono ?_; rintro e w1 ⟨rfl, hw1⟩
    rw [hw1]; clear hw1 w1
    go_wp2_with fail
    refine (own85 ST.out.env HH.out.1 q HH.out.2.2.2.2).mono ?_; rintro e w1 hown
    obtain ⟨a', S1, rfl, ho, hE, hO, hS1, hS2⟩ := own_as ST.out.env HH.out.1 hown
    have bx := ST.out.bx.oth hO
    clear c0 c1
    have c0 := bx.c0
    have E1 := Lib.hid hE
    have O1 := Lib.hid hO
    have A1 := Lib.hid hS1
    have A2 := Lib.hid hS2
    have OW := Lib.hid ho
    clear bx hE hO hS1 hS2 ho hown
    go_wp2_with fail
    refine (dropKid117 E1.out A1.out q HH.out.2.2.2.2 rfl HH.out.2.1 b HH.out.2.2.2.1).mono ?_; rintro e w2 ⟨n, rfl, hE, hO⟩
    have E2 := Lib.hid hE
    have O2 := Lib.hid hO
    clear hE hO c0
    go_wp2_with fail
    go_ret
    exact Or.inl ⟨a', _, rfl, E2.out, (ST.out.oth.trans O1.out).trans O2.out, OW.out, stS_same _ _ _, fun a ha => (stS_other _ _ _ _ ha).trans (A2.out a ha), by rw [HM.out]; exact D2.out⟩
  · have d0 : decide ((m : Int) > 2) = false := by simp; omega
    have D2 := Lib.hid m2
    clear m2
    cases hh : d.has with
    | true =>
      rw [hh] at HV
      unfold taker
      go_enter Tryz.func86, Tryz.ntmps86
      go_wp2_with fail
      refine HV.out.mono ?_; rintro e w1 ⟨rfl, hw1⟩
      rw [hw1]; clear hw1 w1
      go_wp2_with fail
      refine HO.out.mono ?_; rintro e w1 ⟨rfl, hw1⟩
      rw [hw1]; clear hw1 w1
      go_wp2_with fail
      go_region_held3 (fun W' : World => W'.cell? ⟨w.heap.size, 0, none⟩ = some (.int .u64 q) ∧ W'.cell? ⟨w.heap.size, 1, none⟩ = some (.pointer (some ⟨wb, 0, none⟩)))
        (first
          | exact ⟨c0, c1⟩
          | exact X
          | exact Y)
        (first
          | (go_at_call 58
             refine (part58 (ST.out.env.drewN 1).sto HH.out.1).mono ?_
             rintro e w2 ⟨pp, pc, rfl, hk2, hb2⟩
             have X := (show w2.cell? ⟨w.heap.size, 0, none⟩ = some (.int .u64 q) ∧ w2.cell? ⟨w.heap.size, 1, none⟩ = some (.pointer (some ⟨wb, 0, none⟩)) from ⟨((ST.out.bx.step ((Gw.refl _).drewN 1)).step hb2).c0, ((ST.out.bx.step ((Gw.refl _).drewN 1)).step hb2).c1⟩))
          | (go_at_call 69
             refine (leaf69 ((ST.out.env.drewN 1).below hb2) q vv hk2 HR.out).mono ?_
             rintro e w3 ⟨a, rfl, ha, hE, hO⟩
             have Y := (show w3.cell? ⟨w.heap.size, 0, none⟩ = some (.int .u64 q) ∧ w3.cell? ⟨w.heap.size, 1, none⟩ = some (.pointer (some ⟨wb, 0, none⟩)) from ⟨(((ST.out.bx.step ((Gw.refl _).drewN 1)).step hb2).oth hO).c0, (((ST.out.bx.step ((Gw.refl _).drewN 1)).step hb2).oth hO).c1⟩)))
      have F : Hid (WoS B wb o w w3 S q id d b (.returned (.pointer (some ⟨a, 0, none⟩)))) := Or.inr (Or.inl ⟨a, vv, rfl, ha, hE, ((ST.out.oth.drewN 1).trans ((ST.out.env.drewN 1).oth hb2)).trans hO⟩)
      clear hE hO X Y ha hk2 hb2
      go_wp2_with fail
      go_ret
      exact F.out
    | false =>
      have HW := Lib.hid (H2.out hh)
      rw [hh] at HV
      unfold taker
      go_enter Tryz.func86, Tryz.ntmps86
      go_wp2_with fail
      refine HV.out.mono ?_; rintro e w1 ⟨rfl, hw1⟩
      rw [hw1]; clear hw1 w1
      go_wp2_with fail
      refine HO.out.mono ?_; rintro e w1 ⟨rfl, hw1⟩
      rw [hw1]; clear hw1 w1
      go_wp2_with fail
      refine (next61 ST.out.env.sto HH.out.1 0).mono ?_; rintro e w1 ⟨r, hnk, rfl, z, hw1⟩
      rw [hw1]; clear hw1 w1
      obtain ⟨c, a, hc, hka, rfl, hnext⟩ := next_other (b := b) HW.out hnk
      have HN := Lib.hid hnext
      have HC := Lib.hid (show c < 256 ∧ d.kid c = some a from ⟨hc, hka⟩)
      have hbb := HH.out.2.2.2.1
      clear hnk hnext hc hka c0 c1
      by_cases e : c = b
      · have d1 : ((c : Int) == (b : Int)) = true := by simp [e]
        have q1 : wrap64 ((b : Int) + 1) = (b : Int) + 1 := IntWalk.wrap64_in _ (by omega)
        have q2 : wrap64 (b : Int) = (b : Int) := IntWalk.wrap64_in _ (by omega)
        have q3 : IntKind.i64.wrap (b : Int) = (b : Int) := IntWalk.i64_in _ (by omega)
        have HE := Lib.hid e
        have n2 := next61 (ST.out.env.drewN z).sto HH.out.1 (b + 1)
        rw [show ((b + 1 : Nat) : Int) = (b : Int) + 1 from rfl] at n2
        have N2 := Lib.hid n2
        have BB := Lib.hid hbb
        clear e hbb n2
        simp only [pt]
        go_wp2_with fail
        refine N2.out.mono ?_; rintro e w2 ⟨r2, hn2, rfl, z2, hw2⟩
        rw [hw2]; clear hw2 w2
        obtain ⟨c', a', hcb, hc', hka', rfl⟩ := HN.out HE.out r2 hn2
        obtain ⟨dk, hdk, hlk⟩ := HK.out c' a' hcb hka'
        have KK := Lib.hid (show S a' = some dk ∧ dk.part.length ≤ 65536 ∧ c' ≠ b ∧ c' < 256 ∧ d.kid c' = some a' from ⟨hdk, hlk, hcb, hc', hka'⟩)
        have bx := ST.out.bx.step (((Gw.refl _).drewN z).drewN z2)
        have c0 := bx.c0
        have c1 := bx.c1
        clear hdk hlk hcb hc' hka' hn2 bx
        simp only [pt]
        go_wp2_with fail
        refine (lift113 (ST.out.env.drewN (z + z2)) q HH.out.2.2.2.2 HH.out.1 KK.out.1 c' KK.out.2.2.2.1 HH.out.2.2.1 KK.out.2.1).mono ?_; rintro e w2 ⟨id', S2, rfl, hE, hO, ho, h1, h2⟩
        have F : Hid (WoS B wb o w w2 S q id d b (.returned (.pointer (some ⟨id', 0, none⟩)))) :=
          Or.inr (Or.inr ⟨c', a', dk, KK.out.2.2.1, KK.out.2.2.2.2, KK.out.1, id', S2, rfl, hE, (ST.out.oth.drewN (z + z2)).trans hO, ho, h1, h2⟩)
        clear hE hO ho h1 h2 c0 c1
        go_wp2_with fail
        go_ret
        exact F.out
      · have d1 : ((c : Int) == (b : Int)) = false := by simp; omega
        have HE := Lib.hid e
        obtain ⟨dk, hdk, hlk⟩ := HK.out c a e HC.out.2
        have KK := Lib.hid (show S a = some dk ∧ dk.part.length ≤ 65536 from ⟨hdk, hlk⟩)
        have bx := ST.out.bx.step ((Gw.refl _).drewN z)
        have c0 := bx.c0
        have c1 := bx.c1
        clear e hdk hlk bx hbb
        simp only [pt]
        go_wp2_with fail
        refine (lift113 (ST.out.env.drewN z) q HH.out.2.2.2.2 HH.out.1 KK.out.1 c HC.out.1 HH.out.2.2.1 KK.out.2).mono ?_; rintro e w2 ⟨id', S2, rfl, hE, hO, ho, h1, h2⟩
        have F : Hid (WoS B wb o w w2 S q id d b (.returned (.pointer (some ⟨id', 0, none⟩)))) :=
          Or.inr (Or.inr ⟨c, a, dk, HE.out, HC.out.2, KK.out.1, id', S2, rfl, hE, (ST.out.oth.drewN z).trans hO, ho, h1, h2⟩)
        clear hE hO ho h1 h2 c0 c1
        go_wp2_with fail
        go_ret
        exact F.out
end
end Go.Proofs.YtbihlmkjoplkoaaGreatDoor
