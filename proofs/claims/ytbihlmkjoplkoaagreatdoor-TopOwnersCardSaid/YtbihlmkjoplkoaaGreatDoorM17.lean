/-
  For the statement TopOwners: The store of nodes in memory: each node, its part, its kids; what leaves it as it is; Nodes: what is read of them.
-/
import Derived.Test.YtbihlmkjoplkoaaGreatDoorM15
import Derived.Test.YtbihlmkjoplkoaaGreatDoorM16
import Derived.Test.YtbihlmkjoplkoaaGreatDoorM12
import Derived.Laws.CopyOwn
import Derived.OwnWalk
/-
  The store of nodes in memory: each node, its part, its kids; what leaves it as it is.
-/
namespace Go.Proofs.YtbihlmkjoplkoaaGreatDoor
open Go.RowKit
set_option linter.unusedVariables false

/-- the types of the store's blocks: nodes, kids, rows, boards, and the boards' two arrays -/
def stT (t : TypeId) : Prop := t = 116 ∨ t = 165 ∨ t = 196 ∨ t = 202 ∨ t = 48 ∨ t = 197
def IsSt (w : World) (j : Nat) : Prop := ∃ cs t z, w.heap[j]? = some (.cells cs t z) ∧ stT t

theorem SmE.isSt {w : World} {g room : Nat} {f : Nat → Option Th} (h : SmE w g room f) : IsSt w g := by
  obtain ⟨n, B, X, h1, h2⟩ := h
  exact ⟨_, _, _, h1.heap, by simp [stT]⟩
theorem own_isSt {w : World} {base e : Nat} {size : Nat} {v : Value} {n : Nat} {xs : List Value} (h : w.ownsRow base e size v n xs) (he : stT e) : ∀ g, v.ownBlock = some g → IsSt w g := fun g hg => by
  rcases h.2 with ⟨hn, _⟩ | ⟨g', cap, cur, hv, hb, hh, _⟩
  · rw [hn] at hg; cases hg
  · rw [hv] at hg
    have : g' = g := by simpa [Value.ownBlock] using hg
    subst this
    exact ⟨_, _, _, hh, he⟩
theorem BdE.isSt {w : World} {base g room : Nat} {f : Nat → Option Th} {U : Nat} {fp : List Nat} (h : BdE w base g room f U fp) : ∀ j ∈ fp, IsSt w j := by
  obtain ⟨A, X, F, px, cx, pf, cf, h, hf, e1, rfl⟩ := h
  obtain ⟨cs, hg, _⟩ := h.blk
  intro j hj
  unfold fpOf at hj
  rcases List.mem_cons.1 hj with rfl | hj
  · exact ⟨_, _, _, hg, by simp [stT]⟩
  · simp at hj
    rcases hj with ⟨a, ha, rfl⟩ | ⟨a, ha, rfl⟩
    · subst ha; exact own_isSt h.ownX (by simp [stT]) _ rfl
    · subst ha; exact own_isSt h.ownF (by simp [stT]) _ rfl
theorem KdQ.isSt {w : World} {k room : Nat} {f : Nat → Option Th} {fp : List Nat} (h : KdQ w k room f fp) : ∀ j ∈ fp, IsSt w j := by
  obtain ⟨r, g, fq, h⟩ := h
  intro j hj
  rw [h.fps] at hj
  rcases List.mem_cons.1 hj with rfl | hj
  · exact ⟨_, _, _, h.heap, by simp [stT]⟩
  · have hh := h.hold
    cases r with
    | true =>
      obtain ⟨h1, h2, _⟩ := hh
      rw [h2] at hj
      simp at hj; subst hj
      exact h1.isSt
    | false =>
      obtain ⟨⟨U, h1⟩, _⟩ := hh
      exact h1.isSt j hj

/-- bytes that no one turns: they stood there from the first, or in an array of bytes -/
structure Kb (B : Nat) (w : World) (p : Option Addr) (n c : Nat) (xs : List Int) : Prop where
  bs : Bs w p n c xs
  arr : 0 < n → ∀ q, p = some q → q.block < w.heap.size ∧ (q.block < B ∨ ∃ cs z, w.heap[q.block]? = some (.cells cs 5 z))

/-- all memory is as it was but the store's blocks and the world's struct -/
structure Oth (B wb : Nat) (w w' : World) : Prop where
  os : w'.os = w.os
  tape : w'.tape = w.tape
  output : w'.output = w.output
  size : w.heap.size ≤ w'.heap.size
  low : ∀ j, j < B → w'.heap[j]? = w.heap[j]?
  block : ∀ j, j < w.heap.size → j ≠ wb → ¬ IsSt w j → w'.heap[j]? = w.heap[j]?

theorem Oth.refl (B wb : Nat) (w : World) : Oth B wb w w := ⟨rfl, rfl, rfl, Nat.le_refl _, fun _ _ => rfl, fun _ _ _ _ => rfl⟩
theorem Oth.trans {B wb : Nat} {a b c : World} (h : Oth B wb a b) (k : Oth B wb b c) : Oth B wb a c :=
  ⟨k.os.trans h.os, k.tape.trans h.tape, k.output.trans h.output, Nat.le_trans h.size k.size, fun j hj => (k.low j hj).trans (h.low j hj), fun j hj hw hs => by
    have e := h.block j hj hw hs
    refine (k.block j (Nat.lt_of_lt_of_le hj h.size) hw (fun ⟨cs, t, z, h1, h2⟩ => hs ⟨cs, t, z, ?_, h2⟩)).trans e
    rw [← e]; exact h1⟩
theorem Oth.below {B wb : Nat} {w w' : World} (h : Below w.heap.size w w') (hB : B ≤ w.heap.size) : Oth B wb w w' :=
  ⟨h.os, h.tape, h.output, h.size, fun j hj => h.block j (Nat.lt_of_lt_of_le hj hB), fun j hj _ _ => h.block j hj⟩
theorem Oth.exc {B wb : Nat} {S : List Nat} {w w' : World} (h : Exc S w w') (hS : ∀ j ∈ S, B ≤ j ∧ (j = wb ∨ IsSt w j ∨ w.heap.size ≤ j)) (hB : B ≤ w.heap.size) : Oth B wb w w' :=
  ⟨h.os, h.tape, h.output, h.size, fun j hj => h.block j (Nat.lt_of_lt_of_le hj hB) (fun hin => by have := (hS j hin).1; omega), fun j hj hw hs => h.block j hj (fun hin => by
    rcases (hS j hin).2 with q | q | q
    · exact hw q
    · exact hs q
    · omega)⟩
theorem Oth.drewN {B wb : Nat} {w w' : World} (h : Oth B wb w w') (z : Nat) : Oth B wb w (w'.drewN z) := ⟨h.os, h.tape, h.output, h.size, h.low, h.block⟩

theorem not_isSt {w : World} {j : Nat} {cs : Array Value} {t : TypeId} {z : Nat × Nat} (h : w.heap[j]? = some (.cells cs t z)) (ht : ¬ stT t) : ¬ IsSt w j := fun ⟨cs', t', z', h1, h2⟩ => by
  rw [h] at h1; cases h1; exact ht h2
theorem Wld.notSt {w : World} {b : Nat} {o : Int} (h : Wld w b o) : ¬ IsSt w b := let ⟨x, h⟩ := h; not_isSt h (by simp [stT])
theorem Ver.notSt {w : World} {v b : Nat} {r : Option Addr} (h : Ver w v b r) : ¬ IsSt w v := by obtain ⟨d, s, m, n, t, h⟩ := h; exact not_isSt h (by simp [stT])

theorem heap_lt {w : World} {j : Nat} {o : Obj} (h : w.heap[j]? = some o) : j < w.heap.size := (Array.getElem?_eq_some_iff.1 h).1
theorem IsSt.lt {w : World} {j : Nat} (h : IsSt w j) : j < w.heap.size := let ⟨_, _, _, h, _⟩ := h; heap_lt h

theorem Bs.heapSame {w w' : World} {p : Option Addr} {n c : Nat} {xs : List Int} (h : Bs w p n c xs) (e : 0 < n → ∀ q, p = some q → w'.heap[q.block]? = w.heap[q.block]?) : Bs w' p n c xs :=
  ⟨h.len, h.cap, h.big, h.byte, fun hn => by
    obtain ⟨b, o, e1, hc⟩ := h.cells.at hn
    refine ⟨b, o, e1, fun i hi => ?_⟩
    have e2 : w'.heap[b]? = w.heap[b]? := e hn _ e1
    rw [show w'.cell? ⟨b, o + i, none⟩ = w.cell? ⟨b, o + i, none⟩ from World.cell?_of_block e2]; exact hc i hi⟩

theorem Kb.oth {B wb : Nat} {w w' : World} {p : Option Addr} {n c : Nat} {xs : List Int} {o : Int} (h : Kb B w p n c xs) (k : Oth B wb w w') (hw : Wld w wb o) : Kb B w' p n c xs := by
  have key : 0 < n → ∀ q, p = some q → w'.heap[q.block]? = w.heap[q.block]? := fun h0 q hq => by
    obtain ⟨h1, h2⟩ := h.arr h0 q hq
    rcases h2 with h2 | ⟨cs, z, h2⟩
    · exact k.low _ h2
    · refine k.block _ h1 (fun e => ?_) (not_isSt h2 (by simp [stT]))
      obtain ⟨x, hx⟩ := hw
      rw [e, hx] at h2; cases h2
  refine ⟨h.bs.heapSame key, fun h0 q hq => ?_⟩
  obtain ⟨h1, h2⟩ := h.arr h0 q hq
  refine ⟨Nat.lt_of_lt_of_le h1 k.size, ?_⟩
  rw [key h0 q hq]; exact h2
theorem Kb.step {B : Nat} {w w' : World} {p : Option Addr} {n c : Nat} {xs : List Int} (h : Kb B w p n c xs) (k : Below w.heap.size w w') : Kb B w' p n c xs := by
  have key : 0 < n → ∀ q, p = some q → w'.heap[q.block]? = w.heap[q.block]? := fun h0 q hq => k.block _ (h.arr h0 q hq).1
  refine ⟨h.bs.heapSame key, fun h0 q hq => ?_⟩
  obtain ⟨h1, h2⟩ := h.arr h0 q hq
  refine ⟨Nat.lt_of_lt_of_le h1 k.size, ?_⟩
  rw [key h0 q hq]; exact h2

/-- which things stand by bytes -/
def thK (kid : Nat → Option Nat) : Nat → Option Th := fun b => (kid b).map fun a => some ⟨a, 0, none⟩
def updK (kid : Nat → Option Nat) (b : Nat) (v : Option Nat) : Nat → Option Nat := fun c => if c = b then v else kid c

theorem thK_val (kid : Nat → Option Nat) (b : Nat) : valO (thK kid b) = pt (kid b) := by
  unfold thK valO; cases kid b <;> rfl
theorem thK_some (kid : Nat → Option Nat) (b : Nat) : (thK kid b).isSome = (kid b).isSome := by
  unfold thK; cases kid b <;> rfl
theorem thK_upd (kid : Nat → Option Nat) (b : Nat) (a : Nat) : updF (thK kid) b (some (some ⟨a, 0, none⟩)) = thK (updK kid b (some a)) := by
  funext c; unfold updF thK updK; by_cases e : c = b <;> simp [e]
theorem thK_drop (kid : Nat → Option Nat) (b : Nat) : updF (thK kid) b none = thK (updK kid b none) := by
  funext c; unfold updF thK updK; by_cases e : c = b <;> simp [e]
theorem thK_none : thK (fun _ => none) = fun _ => none := rfl
theorem thK_eq_none {kid : Nat → Option Nat} {b : Nat} (h : thK kid b = none) : kid b = none := by
  unfold thK at h; cases hk : kid b with
  | none => rfl
  | some a => rw [hk] at h; cases h

def KidsM (w : World) (leaf : Bool) (kid : Nat → Option Nat) (kb : Option Nat) (fq : List Nat) : Prop :=
  match leaf with
  | true => kb = none ∧ fq = [] ∧ ∀ b, kid b = none
  | false => ∃ k, kb = some k ∧ KdE w k (thK kid) fq

/-- a node in memory -/
structure NodeM (B : Nat) (w : World) (a : Nat) (d : ND) (fq : List Nat) (p : Option Addr) (n c : Nat) (kb : Option Nat) : Prop where
  heap : w.heap[a]? = some (.cells #[.int .u64 d.own, .slice p n c, .int .u64 d.val, .bool d.has, .pointer (pt kb)] 116 (0, 0))
  part : Kb B w p n c d.part
  kids : KidsM w d.leaf d.kid kb fq
  apart : a ∉ fq
  low : ∀ j ∈ a :: fq, B ≤ j
  val : 0 ≤ d.val ∧ d.val < 18446744073709551616

/-- the store: which nodes there are, each with blocks of its own -/
structure StoF (B : Nat) (w : World) (S : Store) (FQ : Nat → List Nat) : Prop where
  node : ∀ a d, S a = some d → ∃ p n c kb, NodeM B w a d (FQ a) p n c kb
  apart : ∀ a b, S a ≠ none → S b ≠ none → a ≠ b → ∀ j, j ∈ a :: FQ a → j ∉ b :: FQ b
def Sto (B : Nat) (w : World) (S : Store) : Prop := ∃ FQ, StoF B w S FQ

theorem KidsM.isSt {w : World} {leaf : Bool} {kid : Nat → Option Nat} {kb : Option Nat} {fq : List Nat} (h : KidsM w leaf kid kb fq) : ∀ j ∈ fq, IsSt w j := by
  cases leaf with
  | true => rw [h.2.1]; simp
  | false => obtain ⟨k, _, h⟩ := h; exact h.isSt
theorem NodeM.isSt {B : Nat} {w : World} {a : Nat} {d : ND} {fq : List Nat} {p : Option Addr} {n c : Nat} {kb : Option Nat} (h : NodeM B w a d fq p n c kb) : ∀ j ∈ a :: fq, IsSt w j := by
  intro j hj
  rcases List.mem_cons.1 hj with rfl | hj
  · exact ⟨_, _, _, h.heap, by simp [stT]⟩
  · exact h.kids.isSt j hj
theorem KidsM.same {w w' : World} {leaf : Bool} {kid : Nat → Option Nat} {kb : Option Nat} {fq : List Nat} (h : KidsM w leaf kid kb fq) (e : ∀ j ∈ fq, w'.heap[j]? = w.heap[j]?) : KidsM w' leaf kid kb fq := by
  cases leaf with
  | true => exact h
  | false => obtain ⟨k, h1, h2⟩ := h; exact ⟨k, h1, h2.same e⟩
theorem NodeM.same {B : Nat} {w w' : World} {a : Nat} {d : ND} {fq : List Nat} {p : Option Addr} {n c : Nat} {kb : Option Nat} (h : NodeM B w a d fq p n c kb) (e : ∀ j ∈ a :: fq, w'.heap[j]? = w.heap[j]?) (k : Kb B w' p n c d.part) : NodeM B w' a d fq p n c kb :=
  ⟨(e a (by simp)).trans h.heap, k, h.kids.same (fun j hj => e j (List.mem_cons_of_mem _ hj)), h.apart, h.low, h.val⟩

section
variable {B : Nat} {w : World} {a : Nat} {d : ND} {fq : List Nat} {p : Option Addr} {n c : Nat} {kb : Option Nat}
theorem NodeM.cOwn (h : NodeM B w a d fq p n c kb) : w.cell? ⟨a, 0, none⟩ = some (.int .u64 d.own) := by rw [cell_of_row _ _ _ _ _ _ h.heap]; rfl
theorem NodeM.cPart (h : NodeM B w a d fq p n c kb) : w.cell? ⟨a, 1, none⟩ = some (.slice p n c) := by rw [cell_of_row _ _ _ _ _ _ h.heap]; rfl
theorem NodeM.cVal (h : NodeM B w a d fq p n c kb) : w.cell? ⟨a, 2, none⟩ = some (.int .u64 d.val) := by rw [cell_of_row _ _ _ _ _ _ h.heap]; rfl
theorem NodeM.cHas (h : NodeM B w a d fq p n c kb) : w.cell? ⟨a, 3, none⟩ = some (.bool d.has) := by rw [cell_of_row _ _ _ _ _ _ h.heap]; rfl
theorem NodeM.cKids (h : NodeM B w a d fq p n c kb) : w.cell? ⟨a, 4, none⟩ = some (.pointer (pt kb)) := by rw [cell_of_row _ _ _ _ _ _ h.heap]; rfl
theorem NodeM.free (h : NodeM B w a d fq p n c kb) (j : Nat) : w.frozen? ⟨a, j, none⟩ = false := frozen_of_row _ _ _ _ _ h.heap
end

theorem StoF.isSt {B : Nat} {w : World} {S : Store} {FQ : Nat → List Nat} (h : StoF B w S FQ) {a : Nat} (ha : S a ≠ none) : ∀ j ∈ a :: FQ a, IsSt w j := by
  cases hd : S a with
  | none => exact absurd hd ha
  | some d =>
    obtain ⟨p, n, c, kb, hn⟩ := h.node a d hd
    exact hn.isSt
theorem StoF.low {B : Nat} {w : World} {S : Store} {FQ : Nat → List Nat} (h : StoF B w S FQ) {a : Nat} (ha : S a ≠ none) : ∀ j ∈ a :: FQ a, B ≤ j := by
  cases hd : S a with
  | none => exact absurd hd ha
  | some d =>
    obtain ⟨p, n, c, kb, hn⟩ := h.node a d hd
    exact hn.low
theorem StoF.lt {B : Nat} {w : World} {S : Store} {FQ : Nat → List Nat} (h : StoF B w S FQ) {a : Nat} (ha : S a ≠ none) : ∀ j ∈ a :: FQ a, j < w.heap.size := fun j hj => (h.isSt ha j hj).lt
theorem Sto.lt {B : Nat} {w : World} {S : Store} (h : Sto B w S) {a : Nat} (ha : S a ≠ none) : B ≤ a ∧ a < w.heap.size := let ⟨FQ, h⟩ := h; ⟨h.low ha a (by simp), h.lt ha a (by simp)⟩
theorem Sto.cellsy {B : Nat} {w : World} {S : Store} (h : Sto B w S) {a : Nat} (ha : S a ≠ none) : Cellsy w a := by
  obtain ⟨FQ, h⟩ := h
  cases hd : S a with
  | none => exact absurd hd ha
  | some d => obtain ⟨p, n, c, kb, hn⟩ := h.node a d hd; exact ⟨_, _, hn.heap⟩

/-- what leaves the store's blocks, and old arrays of bytes, leaves the store -/
theorem StoF.keep {B : Nat} {w w' : World} {S : Store} {FQ : Nat → List Nat} (h : StoF B w S FQ) (e : ∀ j, IsSt w j → w'.heap[j]? = w.heap[j]?) (k : ∀ p n c xs, Kb B w p n c xs → Kb B w' p n c xs) : StoF B w' S FQ :=
  ⟨fun a d hd => by
    obtain ⟨p, n, c, kb, hn⟩ := h.node a d hd
    exact ⟨p, n, c, kb, hn.same (fun j hj => e j (hn.isSt j hj)) (k _ _ _ _ hn.part)⟩, h.apart⟩
theorem Sto.step {B : Nat} {w w' : World} {S : Store} (h : Sto B w S) (k : Below w.heap.size w w') : Sto B w' S :=
  let ⟨FQ, h⟩ := h; ⟨FQ, h.keep (fun j hj => k.block j hj.lt) (fun _ _ _ _ hk => hk.step k)⟩
theorem Sto.drewN {B : Nat} {w : World} {S : Store} (h : Sto B w S) (z : Nat) : Sto B (w.drewN z) S := h.step (below_drewN (Below.refl _ _) z)
theorem Sto.fit {B : Nat} {w : World} {S : Store} (h : Sto B w S) : FitS S := by
  obtain ⟨FQ, h⟩ := h
  intro a d hd
  obtain ⟨p, n, c, kb, hn⟩ := h.node a d hd
  refine ⟨fun hl b => ?_, fun b hb => ?_, hn.part.bs.byte⟩
  · have hk := hn.kids
    rw [hl] at hk
    exact hk.2.2 b
  · have hk := hn.kids
    cases hl : d.leaf with
    | true => rw [hl] at hk; exact hk.2.2 b
    | false =>
      rw [hl] at hk
      obtain ⟨k, _, hk⟩ := hk
      exact thK_eq_none (hk.far b hb)

def stS (S : Store) (a : Nat) (d : ND) : Store := fun b => if b = a then some d else S b
theorem stS_same (S : Store) (a : Nat) (d : ND) : stS S a d a = some d := by simp [stS]
theorem stS_other (S : Store) (a b : Nat) (d : ND) (h : b ≠ a) : stS S a d b = S b := by simp [stS, h]

/-- one node is turned, or made -/
theorem StoF.put {B : Nat} {w w' : World} {S : Store} {FQ : Nat → List Nat} (h : StoF B w S FQ) {a : Nat} {d : ND} {fq : List Nat} {p : Option Addr} {n c : Nat} {kb : Option Nat} (hn : NodeM B w' a d fq p n c kb)
    (hx : ∀ j, IsSt w j → (S a = none ∨ j ∉ a :: FQ a) → w'.heap[j]? = w.heap[j]?) (hk : ∀ p n c xs, Kb B w p n c xs → Kb B w' p n c xs)
    (hnew : ∀ j ∈ a :: fq, (S a ≠ none ∧ j ∈ a :: FQ a) ∨ w.heap.size ≤ j) :
    StoF B w' (stS S a d) (fun b => if b = a then fq else FQ b) := by
  have key : ∀ b, b ≠ a → S b ≠ none → ∀ j ∈ b :: FQ b, j ∉ a :: fq := by
    intro b hb hS j hj hin
    rcases hnew j hin with ⟨h1, h2⟩ | h2
    · exact h.apart b a hS h1 hb j hj h2
    · have := h.lt hS j hj; omega
  refine ⟨fun b d' hd => ?_, fun b c' hb hc hbc j hj hin => ?_⟩
  · by_cases e : b = a
    · subst e
      rw [stS_same] at hd; cases hd
      simp only [if_pos]
      exact ⟨p, n, c, kb, hn⟩
    · rw [stS_other _ _ _ _ e] at hd
      simp only [if_neg e]
      obtain ⟨p', n', c', kb', hb⟩ := h.node b d' hd
      refine ⟨p', n', c', kb', hb.same (fun j hj => hx j (hb.isSt j hj) ?_) (hk _ _ _ _ hb.part)⟩
      by_cases ha : S a = none
      · exact Or.inl ha
      · exact Or.inr (h.apart b a (by rw [hd]; simp) ha e j hj)
  · by_cases e1 : b = a
    · subst e1
      have e2 : c' ≠ b := fun e => hbc e.symm
      rw [stS_other _ _ _ _ e2] at hc
      simp only [if_pos] at hj
      simp only [if_neg e2] at hin
      exact key c' e2 hc j hin hj
    · rw [stS_other _ _ _ _ e1] at hb
      simp only [if_neg e1] at hj
      by_cases e2 : c' = a
      · subst e2
        simp only [if_pos] at hin
        exact key b e1 hb j hj hin
      · rw [stS_other _ _ _ _ e2] at hc
        simp only [if_neg e2] at hin
        exact h.apart b c' hb hc hbc j hj hin

end Go.Proofs.YtbihlmkjoplkoaaGreatDoor
/-
  Nodes: what is read of them.
-/
namespace Go.Proofs.YtbihlmkjoplkoaaGreatDoor
open Go.RowKit
set_option linter.unusedVariables false

theorem Bs.below {w w' : World} {p : Option Addr} {n c : Nat} {xs : List Int} (h : Bs w p n c xs) (hb : Below w.heap.size w w') : Bs w' p n c xs :=
  ⟨h.len, h.cap, h.big, h.byte, fun hn => by
    obtain ⟨b, o, e, hc⟩ := h.cells.at hn
    refine ⟨b, o, e, fun i hi => ?_⟩
    have hcell := hc i hi
    rw [hb.cell (p := ⟨b, o + i, none⟩) (block_lt_of_cell hcell)]
    exact hcell⟩

theorem Bs.owned {w : World} {base g n cap : Nat} {xs : List Int} (h : w.ownsRow base 5 1 (.slice (some ⟨g, 0, none⟩) n cap) n (xs.map (Value.int .u8)))
    (hb : n ≤ 140737488351232) (hx : ∀ x ∈ xs, 0 ≤ x ∧ x < 256) : Bs w (some ⟨g, 0, none⟩) n cap xs := by
  have hl : xs.length = n := by have := h.1; simpa using this
  refine ⟨hl, ?_, hb, hx, fun _ => ⟨g, 0, rfl, fun i hi => ?_⟩⟩
  · rcases h.2 with ⟨e, _⟩ | ⟨g', cap', cur, e, _, _, hc, _⟩
    · cases e
    · cases e; exact hc
  · rw [Nat.zero_add, h.cellAt i (by omega)]
    simp [List.getD_eq_getElem?_getD, hl, hi]

theorem Bs.take {w : World} {b o n c : Nat} {xs : List Int} (h : Bs w (some ⟨b, o, none⟩) n c xs) (k : Nat) (hk : k ≤ n) : Bs w (some ⟨b, o, none⟩) k c (xs.take k) :=
  ⟨by rw [List.length_take, h.len]; omega, by have := h.cap; omega, by have := h.big; omega, fun x hx => h.byte x (List.mem_of_mem_take hx),
   fun hk' => by
    obtain ⟨b', o', e, hc⟩ := h.cells.at (by omega)
    refine ⟨b', o', e, fun i hi => ?_⟩
    rw [hc i (by omega)]
    simp [List.getD_eq_getElem?_getD, hi]⟩

theorem Bs.ofOwn {w : World} {base n cap : Nat} {p : Option Addr} {xs : List Int} (h : w.ownsRow base 5 1 (.slice p n cap) n (xs.map (Value.int .u8)))
    (hb : n ≤ 140737488351232) (hx : ∀ x ∈ xs, 0 ≤ x ∧ x < 256) : Bs w p n cap xs := by
  rcases h.2 with ⟨e, e2⟩ | ⟨g, cap', cur, e, _⟩
  · cases e
    have hl := h.1
    have : xs = [] := List.length_eq_zero_iff.1 (by simpa using hl)
    subst this
    exact ⟨rfl, Nat.le_refl _, by omega, by simp, Lib.BytesIn.nil _ _ _⟩
  · cases e; exact Bs.owned h hb hx

theorem Bs.drop {w : World} {b o n c : Nat} {xs : List Int} (h : Bs w (some ⟨b, o, none⟩) n c xs) (k : Nat) (hk : k ≤ n) : Bs w (some ⟨b, o + k, none⟩) (n - k) (c - k) (xs.drop k) :=
  ⟨by rw [List.length_drop, h.len], by have := h.cap; omega, by have := h.big; omega, fun x hx => h.byte x (List.mem_of_mem_drop hx),
   fun hk' => by
    have hc := h.cap
    obtain ⟨b', o', e, hc⟩ := h.cells.at (by omega)
    cases e
    refine ⟨b, o + k, rfl, fun i hi => ?_⟩
    rw [Nat.add_assoc, hc (k + i) (by omega)]
    simp [List.getD_eq_getElem?_getD, List.getElem?_drop]⟩

/-- s[k:] where nothing is left of the capacity: the address stays -/
theorem Bs.drop0 {w : World} {p : Option Addr} {n c k : Nat} {xs : List Int} (h : Bs w p n c xs) (hk : k ≤ n) (hc : c = k) : Bs w p (n - k) 0 (xs.drop k) := by
  have := h.cap
  refine ⟨by rw [List.length_drop, h.len], by omega, by omega, fun x hx => h.byte x (List.mem_of_mem_drop hx), ?_⟩
  rw [show n - k = 0 by omega]
  exact Lib.BytesIn.nil _ _ _

theorem info5 : (Tryz.prog.info? 5).map (fun i => (i.zero, i.size, i.bytes)) = some (some (.int .u8 0), 1, 1) := by kernel_rfl
theorem size5 : (Tryz.prog.info? 5).map (·.size) = some 1 := by kernel_rfl

theorem Kb.ofOwn {B : Nat} {w : World} {base n c : Nat} {p : Option Addr} {xs : List Int} (h : w.ownsRow base 5 1 (.slice p n c) n (xs.map (Value.int .u8))) (hb : n ≤ 140737488351232) (hx : ∀ x ∈ xs, 0 ≤ x ∧ x < 256) : Kb B w p n c xs := by
  refine ⟨Bs.ofOwn h hb hx, fun _ q hq => ?_⟩
  rcases h.2 with ⟨e, _⟩ | ⟨g, cap, cur, e, _, hg, _⟩
  · cases e; cases hq
  · cases e; cases hq
    exact ⟨heap_lt hg, Or.inr ⟨_, _, hg⟩⟩

/-- how many kids -/
def kcnt (kid : Nat → Option Nat) : Nat := cntF (thK kid)

section
variable {B : Nat} {w : World} {S : Store} {a : Nat} {d : ND}

theorem owner23 (h : Sto B w S) (hd : S a = some d) : Calls Tryz.prog 23 #[.pointer (some ⟨a, 0, none⟩)] w fun e w' => e = .returned (.int .u64 d.own) ∧ w' = w := by
  obtain ⟨FQ, h⟩ := h
  obtain ⟨p, n, c, kb, hn⟩ := h.node a d hd
  have c0 := hn.cOwn
  clear h hd hn
  go_enter Tryz.func23, Tryz.ntmps23
  go_wp2_with fail
  go_ret
  exact ⟨rfl, rfl⟩
theorem owner23_nil (w : World) : Calls Tryz.prog 23 #[.pointer none] w fun e w' => e = .returned (.int .u64 0) ∧ w' = w := by
  go_enter Tryz.func23, Tryz.ntmps23
  go_wp2_with fail
  go_ret
  exact ⟨rfl, rfl⟩

theorem isLeaf93 (h : Sto B w S) (hd : S a = some d) : Calls Tryz.prog 93 #[.pointer (some ⟨a, 0, none⟩)] w fun e w' => e = .returned (.bool d.leaf) ∧ w' = w := by
  obtain ⟨FQ, h⟩ := h
  obtain ⟨p, n, c, kb, hn⟩ := h.node a d hd
  have c0 := hn.cKids
  have hk := hn.kids
  cases hl : d.leaf with
  | true =>
    rw [hl] at hk
    obtain ⟨rfl, _⟩ := hk
    simp only [pt] at c0
    clear h hd hn hl
    go_enter Tryz.func93, Tryz.ntmps93
    go_wp2_with fail
    go_ret
    exact ⟨rfl, rfl⟩
  | false =>
    rw [hl] at hk
    obtain ⟨k, rfl, _⟩ := hk
    simp only [pt] at c0
    clear h hd hn hl
    go_enter Tryz.func93, Tryz.ntmps93
    go_wp2_with fail
    go_ret
    exact ⟨rfl, rfl⟩

theorem may103 (h : Sto B w S) (hd : S a = some d) (o : Int) (h0 : o ≠ 0) : Calls Tryz.prog 103 #[.pointer (some ⟨a, 0, none⟩), .int .u64 o] w fun e w' => e = .returned (.int .i64 (if d.own = o then 0 else 11)) ∧ w' = w := by
  obtain ⟨FQ, h⟩ := h
  obtain ⟨p, n, c, kb, hn⟩ := h.node a d hd
  have c0 := hn.cOwn
  have d0 : (o == 0) = false := by simpa using h0
  by_cases ho : d.own = o
  · have d1 : (o != d.own) = false := by simp [ho]
    rw [if_pos ho]
    clear h hd hn ho h0
    go_enter Tryz.func103, Tryz.ntmps103
    go_wp2_with fail
    go_ret
    exact ⟨rfl, rfl⟩
  · have d1 : (o != d.own) = true := by simp; exact fun e => ho e.symm
    rw [if_neg ho]
    clear h hd hn ho h0
    go_enter Tryz.func103, Tryz.ntmps103
    go_wp2_with fail
    go_ret
    exact ⟨rfl, rfl⟩
theorem may103_nil (o : Int) (w : World) : Calls Tryz.prog 103 #[.pointer none, .int .u64 o] w fun e w' => e = .returned (.int .i64 2) ∧ w' = w := by
  go_enter Tryz.func103, Tryz.ntmps103
  go_wp2_with fail
  go_ret
  exact ⟨rfl, rfl⟩

theorem inner104 (h : Sto B w S) (hd : S a = some d) (o : Int) (h0 : o ≠ 0) (ho : d.own = o) : Calls Tryz.prog 104 #[.pointer (some ⟨a, 0, none⟩), .int .u64 o] w fun e w' => e = .returned (.int .i64 (if d.leaf then 9 else 0)) ∧ w' = w := by
  have H := Lib.hid (may103 h hd o h0)
  have HL := Lib.hid (isLeaf93 h hd)
  rw [if_pos ho] at H
  clear h hd ho h0
  cases hl : d.leaf with
  | true =>
    rw [hl] at HL
    clear hl
    go_enter Tryz.func104, Tryz.ntmps104
    go_wp2_with fail
    refine H.out.mono ?_; rintro e w' ⟨rfl, hw⟩
    rw [hw]; clear hw w'
    go_wp2_with fail
    refine HL.out.mono ?_; rintro e w' ⟨rfl, hw⟩
    rw [hw]; clear hw w'
    go_wp2_with fail
    go_ret
    exact ⟨rfl, rfl⟩
  | false =>
    rw [hl] at HL
    clear hl
    go_enter Tryz.func104, Tryz.ntmps104
    go_wp2_with fail
    refine H.out.mono ?_; rintro e w' ⟨rfl, hw⟩
    rw [hw]; clear hw w'
    go_wp2_with fail
    refine HL.out.mono ?_; rintro e w' ⟨rfl, hw⟩
    rw [hw]; clear hw w'
    go_wp2_with fail
    go_ret
    exact ⟨rfl, rfl⟩

/-- the value, and whether there is one -/
def valOf (d : ND) : Int := if d.has then d.val else 0
theorem val63 (h : Sto B w S) (hd : S a = some d) : Calls Tryz.prog 63 #[.pointer (some ⟨a, 0, none⟩)] w fun e w' => e = .returned (.tuple #[.int .u64 (valOf d), .bool d.has]) ∧ w' = w := by
  obtain ⟨FQ, h⟩ := h
  obtain ⟨p, n, c, kb, hn⟩ := h.node a d hd
  have c0 := hn.cVal
  have c1 := hn.cHas
  have hnot : ∀ (x : Bool) (w : World), (Op.unary .not (.bool x)).run Tryz.prog w = .ok (.bool (!x)) w := fun _ _ => rfl
  have hv : valOf d = if d.has then d.val else 0 := rfl
  clear h hd hn
  cases hh : d.has with
  | true =>
    rw [hh] at c1 hv
    have HV : Hid (valOf d = d.val) := hv
    clear hh hv
    go_enter Tryz.func63, Tryz.ntmps63
    go_wp2_with fail
    go_ret2
    exact ⟨ret2 (vint HV.out.symm) rfl, rfl⟩
  | false =>
    rw [hh] at c1 hv
    have HV : Hid (valOf d = 0) := hv
    clear hh hv
    go_enter Tryz.func63, Tryz.ntmps63
    go_wp2_with fail
    go_ret2
    exact ⟨ret2 (vint HV.out.symm) rfl, rfl⟩
theorem val63_nil (w : World) : Calls Tryz.prog 63 #[.pointer none] w fun e w' => e = .returned (.tuple #[.int .u64 0, .bool false]) ∧ w' = w := by
  go_enter Tryz.func63, Tryz.ntmps63
  go_wp2_with fail
  go_ret2
  exact ⟨rfl, rfl⟩

theorem kcnt_none {kid : Nat → Option Nat} (h : ∀ b, kid b = none) : kcnt kid = 0 := by
  have : kid = fun _ => none := funext h
  rw [this]; exact cntF_zero

theorem len112 (h : Sto B w S) (hd : S a = some d) : Calls Tryz.prog 112 #[.pointer (some ⟨a, 0, none⟩)] w fun e w' => e = .returned (.int .i64 (kcnt d.kid)) ∧ w' = w := by
  obtain ⟨FQ, h⟩ := h
  obtain ⟨p, n, c, kb, hn⟩ := h.node a d hd
  have c0 := hn.cKids
  have hk := hn.kids
  cases hl : d.leaf with
  | true =>
    rw [hl] at hk
    obtain ⟨rfl, _, hno⟩ := hk
    have HN := Lib.hid (kcnt_none hno)
    have HK := Lib.hid (len132_nil w)
    simp only [pt] at c0
    clear h hd hn hl hno
    go_enter Tryz.func112, Tryz.ntmps112
    go_wp2_with fail
    refine HK.out.mono ?_; rintro e w' ⟨rfl, hw⟩
    rw [hw]; clear hw w'
    go_wp2_with fail
    go_ret
    exact ⟨ret_int (by rw [HN.out]; rfl), rfl⟩
  | false =>
    rw [hl] at hk
    obtain ⟨k, rfl, hk⟩ := hk
    have HK := Lib.hid (len132 hk)
    simp only [pt] at c0
    clear h hd hn hl hk
    go_enter Tryz.func112, Tryz.ntmps112
    go_wp2_with fail
    refine HK.out.mono ?_; rintro e w' ⟨rfl, hw⟩
    rw [hw]; clear hw w'
    go_wp2_with fail
    go_ret
    exact ⟨rfl, rfl⟩
theorem len112_nil (w : World) : Calls Tryz.prog 112 #[.pointer none] w fun e w' => e = .returned (.int .i64 0) ∧ w' = w := by
  go_enter Tryz.func112, Tryz.ntmps112
  go_wp2_with fail
  go_ret
  exact ⟨rfl, rfl⟩

/-- how many occupants -/
def occ (d : ND) : Nat := kcnt d.kid + if d.has then 1 else 0
theorem occ116 (h : Sto B w S) (hd : S a = some d) : Calls Tryz.prog 116 #[.pointer (some ⟨a, 0, none⟩)] w fun e w' => e = .returned (.int .i64 (occ d)) ∧ w' = w := by
  have HL := Lib.hid (len112 h hd)
  have hle : kcnt d.kid ≤ 256 := cntF_le _
  have ho : occ d = kcnt d.kid + if d.has then 1 else 0 := rfl
  obtain ⟨FQ, h⟩ := h
  obtain ⟨p, n, c, kb, hn⟩ := h.node a d hd
  have c1 := hn.cHas
  have c0 := hn.cKids
  have hk := hn.kids
  cases hh : d.has with
  | false =>
    rw [hh] at c1 ho
    have HO : Hid (occ d = kcnt d.kid) := by show _ = _; simpa using ho
    clear h hd hn hh ho c0 hk
    go_enter Tryz.func116, Tryz.ntmps116
    go_wp2_with fail
    refine HL.out.mono ?_; rintro e w' ⟨rfl, hw⟩
    rw [hw]; clear hw w'
    go_wp2_with fail
    go_ret
    exact ⟨ret_int (by rw [HO.out]), rfl⟩
  | true =>
    rw [hh] at c1 ho
    have HO : Hid (occ d = kcnt d.kid + 1) := by show _ = _; simpa using ho
    have HK : Hid (Calls Tryz.prog 132 #[.pointer (pt kb)] w fun e w' => e = .returned (.int .i64 (kcnt d.kid)) ∧ w' = w) := by
      show Calls _ _ _ _ _
      cases hl : d.leaf with
      | true =>
        rw [hl] at hk
        obtain ⟨rfl, _, hno⟩ := hk
        rw [kcnt_none hno]; exact len132_nil w
      | false =>
        rw [hl] at hk
        obtain ⟨k, rfl, hk⟩ := hk
        exact len132 hk
    obtain ⟨q, hq⟩ : ∃ q, q = kcnt d.kid := ⟨_, rfl⟩
    rw [← hq] at HK HO hle
    have q0 : IntKind.i64.wrap ((q : Int) + 1) = (q : Int) + 1 := IntWalk.i64_in _ (by omega)
    clear h hd hn hh ho hk HL hq
    go_enter Tryz.func116, Tryz.ntmps116
    go_wp2_with fail
    refine HK.out.mono ?_; rintro e w' ⟨rfl, hw⟩
    rw [hw]; clear hw w'
    go_wp2_with fail
    go_ret
    exact ⟨ret_int (by rw [HO.out]; push_cast; rfl), rfl⟩

theorem kid38 (h : Sto B w S) (hd : S a = some d) (b : Nat) (hb : b < 256) : Calls Tryz.prog 38 #[.pointer (some ⟨a, 0, none⟩), .int .u8 b] w fun e w' => e = .returned (.pointer (pt (d.kid b))) ∧ ∃ z, w' = w.drewN z := by
  obtain ⟨FQ, h⟩ := h
  obtain ⟨p, n, c, kb, hn⟩ := h.node a d hd
  have c0 := hn.cKids
  have hk := hn.kids
  have HK : Hid (Calls Tryz.prog 57 #[.pointer (pt kb), .int .u8 b] w fun e w' => e = .returned (.tuple #[.pointer (pt (d.kid b)), .bool (d.kid b).isSome]) ∧ ∃ z, w' = w.drewN z) := by
    show Calls _ _ _ _ _
    cases hl : d.leaf with
    | true =>
      rw [hl] at hk
      obtain ⟨rfl, _, hno⟩ := hk
      rw [hno b]; exact (get57_nil b w).mono fun e w' ⟨h1, h2⟩ => ⟨h1, 0, h2⟩
    | false =>
      rw [hl] at hk
      obtain ⟨k, rfl, hk⟩ := hk
      have := get57 hk b hb
      rw [thK_val, thK_some] at this
      exact this
  obtain ⟨v, hv⟩ : ∃ v, v = pt (d.kid b) := ⟨_, rfl⟩
  obtain ⟨u, hu⟩ : ∃ u, u = (d.kid b).isSome := ⟨_, rfl⟩
  obtain ⟨vk, hvk⟩ : ∃ v, v = pt kb := ⟨_, rfl⟩
  rw [← hv, ← hu, ← hvk] at HK
  rw [← hv]
  rw [← hvk] at c0
  clear h hd hn hk hv hu hvk
  go_enter Tryz.func38, Tryz.ntmps38
  go_wp2_with fail
  refine HK.out.mono ?_; rintro e w' ⟨rfl, z, hw⟩
  rw [hw]; clear hw w'
  go_wp2_with fail
  go_ret
  exact ⟨rfl, z, rfl⟩
theorem kid38_nil (b : Int) (w : World) : Calls Tryz.prog 38 #[.pointer none, .int .u8 b] w fun e w' => e = .returned (.pointer none) ∧ w' = w := by
  go_enter Tryz.func38, Tryz.ntmps38
  go_wp2_with fail
  go_ret
  exact ⟨rfl, rfl⟩

/-- what Next tells -/
def NextK (kid : Nat → Option Nat) (s : Int) (r : Nat × Option Nat) : Prop :=
  (∃ b a : Nat, b < 256 ∧ s ≤ (b : Int) ∧ kid b = some a ∧ (∀ c : Nat, c < b → s ≤ (c : Int) → kid c = none) ∧ r = (b, some a)) ∨ ((∀ c : Nat, c < 256 → s ≤ (c : Int) → kid c = none) ∧ r = (0, none))

theorem next61 (h : Sto B w S) (hd : S a = some d) (s : Nat) : Calls Tryz.prog 61 #[.pointer (some ⟨a, 0, none⟩), .int .i64 s] w fun e w' => ∃ r, NextK d.kid s r ∧ e = .returned (.tuple #[.int .u8 r.1, .pointer (pt r.2)]) ∧ ∃ z, w' = w.drewN z := by
  obtain ⟨FQ, h⟩ := h
  obtain ⟨p, n, c, kb, hn⟩ := h.node a d hd
  have c0 := hn.cKids
  have hk := hn.kids
  have HK : Hid (Calls Tryz.prog 90 #[.pointer (pt kb), .int .i64 s] w fun e w' => ∃ r ok, NextK d.kid s r ∧ e = .returned (.tuple #[.int .u8 r.1, .pointer (pt r.2), .bool ok]) ∧ ∃ z, w' = w.drewN z) := by
    show Calls _ _ _ _ _
    cases hl : d.leaf with
    | true =>
      rw [hl] at hk
      obtain ⟨rfl, _, hno⟩ := hk
      exact (next90_nil s w).mono fun e w' ⟨h1, h2⟩ => ⟨(0, none), false, Or.inr ⟨fun c _ _ => hno c, rfl⟩, h1, 0, h2⟩
    | false =>
      rw [hl] at hk
      obtain ⟨k, rfl, hk⟩ := hk
      refine (next90 hk s).mono fun e w' ⟨r, hr, h1, h2⟩ => ?_
      have hm : max (s : Int) 0 = s := by omega
      rw [hm] at hr
      rcases hr with ⟨b, x, h3, h4, h5, h6, rfl⟩ | ⟨h3, rfl⟩
      · cases hkb : d.kid b with
        | none => unfold thK at h5; rw [hkb] at h5; cases h5
        | some a' =>
          unfold thK at h5; rw [hkb] at h5; cases h5
          exact ⟨(b, some a'), true, Or.inl ⟨b, a', h3, h4, hkb, fun c h7 h8 => thK_eq_none (h6 c h7 h8), rfl⟩, h1, h2⟩
      · exact ⟨(0, none), false, Or.inr ⟨fun c h7 h8 => thK_eq_none (h3 c h7 h8), rfl⟩, h1, h2⟩
  obtain ⟨vk, hvk⟩ : ∃ v, v = pt kb := ⟨_, rfl⟩
  rw [← hvk] at c0 HK
  clear h hd hn hk hvk
  go_enter Tryz.func61, Tryz.ntmps61
  go_wp2_with fail
  refine HK.out.mono ?_; rintro e w' ⟨⟨r1, r2⟩, ok, hr, rfl, z, hw⟩
  rw [hw]; clear hw w'
  have HR := Lib.hid hr
  clear hr
  simp only
  go_wp2_with fail
  go_ret2
  exact ⟨(r1, r2), HR.out, rfl, z, rfl⟩
theorem next61_nil (s : Int) (w : World) : Calls Tryz.prog 61 #[.pointer none, .int .i64 s] w fun e w' => e = .returned (.tuple #[.int .u8 0, .pointer none]) ∧ w' = w := by
  go_enter Tryz.func61, Tryz.ntmps61
  go_wp2_with fail
  go_ret2
  exact ⟨rfl, rfl⟩

/-- a node's kind -/
def kindN (d : ND) : Nat := if d.leaf then 1 else kindOf (kcnt d.kid)
theorem kind64 (h : Sto B w S) (hd : S a = some d) : Calls Tryz.prog 64 #[.pointer (some ⟨a, 0, none⟩)] w fun e w' => e = .returned (.int .i64 (kindN d)) ∧ w' = w := by
  have HL := Lib.hid (isLeaf93 h hd)
  have hkn : kindN d = if d.leaf then 1 else kindOf (kcnt d.kid) := rfl
  obtain ⟨FQ, h⟩ := h
  obtain ⟨p, n, c, kb, hn⟩ := h.node a d hd
  have c0 := hn.cKids
  have hk := hn.kids
  cases hl : d.leaf with
  | true =>
    rw [hl] at HL hkn
    have HN : Hid (kindN d = 1) := hkn
    clear h hd hn hl hkn c0 hk
    go_enter Tryz.func64, Tryz.ntmps64
    go_wp2_with fail
    refine HL.out.mono ?_; rintro e w' ⟨rfl, hw⟩
    rw [hw]; clear hw w'
    go_wp2_with fail
    go_ret
    exact ⟨ret_int (by rw [HN.out]; rfl), rfl⟩
  | false =>
    rw [hl] at HL hkn hk
    have HN : Hid (kindN d = kindOf (kcnt d.kid)) := hkn
    obtain ⟨k, rfl, hk⟩ := hk
    have HK := Lib.hid (kind94 hk)
    simp only [pt] at c0
    obtain ⟨q, hq⟩ : ∃ q, q = kindOf (cntF (thK d.kid)) := ⟨_, rfl⟩
    rw [← hq] at HK
    have HQ : Hid (q = kindOf (kcnt d.kid)) := hq
    clear h hd hn hl hkn hk hq
    go_enter Tryz.func64, Tryz.ntmps64
    go_wp2_with fail
    refine HL.out.mono ?_; rintro e w' ⟨rfl, hw⟩
    rw [hw]; clear hw w'
    go_wp2_with fail
    refine HK.out.mono ?_; rintro e w' ⟨rfl, hw⟩
    rw [hw]; clear hw w'
    go_wp2_with fail
    go_ret
    exact ⟨ret_int (by rw [HN.out, HQ.out]), rfl⟩
theorem kind64_nil (w : World) : Calls Tryz.prog 64 #[.pointer none] w fun e w' => e = .returned (.int .i64 0) ∧ w' = w := by
  go_enter Tryz.func64, Tryz.ntmps64
  go_wp2_with fail
  go_ret
  exact ⟨rfl, rfl⟩

end

end Go.Proofs.YtbihlmkjoplkoaaGreatDoor
