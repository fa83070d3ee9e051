/-
  For the statement TopOwners: Plain words on lists of bytes (whole numbers), for the seat YtbihlmkjoplkoaaGreatDoor: how many numbers both lists begin with, their order, the next one of a prefix. No program in sight; Trees of nodes, plainly: which nodes are in them, where, whose; what a put and a deletion make of them; What two trees share, plainly: a store of nodes; trees that it holds; how many nodes of the second stand in the first.
-/
import Derived.Lib.Bytes
import Derived.Lib.Strings
import Derived.Lib.Bytealg
/-
  Plain words on lists of bytes (whole numbers), for the seat YtbihlmkjoplkoaaGreatDoor: how many numbers both lists begin with, their order, the next one of a prefix. No program in sight.
-/
namespace Go.Proofs.YtbihlmkjoplkoaaGreatDoor

/-- with how many numbers both lists begin -/
def com : List Int → List Int → Nat
  | x :: xs, y :: ys => if x = y then com xs ys + 1 else 0
  | _, _ => 0

/-- the order of two lists -/
def cmpL : List Int → List Int → Int
  | [], [] => 0
  | [], _ :: _ => -1
  | _ :: _, [] => 1
  | x :: xs, y :: ys => if x = y then cmpL xs ys else if x < y then -1 else 1

theorem com_le_left : ∀ (xs ys : List Int), com xs ys ≤ xs.length
  | [], _ => by simp [com]
  | _ :: _, [] => by simp [com]
  | x :: xs, y :: ys => by
    have := com_le_left xs ys
    simp only [com]; split <;> simp <;> omega

theorem com_le_right : ∀ (xs ys : List Int), com xs ys ≤ ys.length
  | [], _ => by simp [com]
  | _ :: _, [] => by simp [com]
  | x :: xs, y :: ys => by
    have := com_le_right xs ys
    simp only [com]; split <;> simp <;> omega

theorem com_eq : ∀ (k : Nat) (xs ys : List Int), k ≤ xs.length → k ≤ ys.length → (∀ j, j < k → xs.getD j 0 = ys.getD j 0) →
    (k < xs.length → k < ys.length → xs.getD k 0 ≠ ys.getD k 0) → com xs ys = k
  | 0, [], _, _, _, _, _ => by simp [com]
  | 0, _ :: _, [], _, _, _, _ => by simp [com]
  | 0, x :: xs, y :: ys, _, _, _, h => by
    have := h (by simp) (by simp)
    simp at this
    simp [com, this]
  | k + 1, [], _, h, _, _, _ => by simp at h
  | k + 1, _ :: _, [], _, h, _, _ => by simp at h
  | k + 1, x :: xs, y :: ys, h1, h2, h3, h4 => by
    have h0 : x = y := by simpa using h3 0 (by omega)
    simp only [com, if_pos h0]
    rw [com_eq k xs ys (by simpa using h1) (by simpa using h2) (fun j hj => by simpa using h3 (j + 1) (by omega))
      (fun a b => by simpa using h4 (by simpa using a) (by simpa using b))]

theorem com_same : ∀ (xs ys : List Int) (j : Nat), j < com xs ys → xs.getD j 0 = ys.getD j 0
  | [], _, j, h => by simp [com] at h
  | _ :: _, [], j, h => by simp [com] at h
  | x :: xs, y :: ys, j, h => by
    simp only [com] at h
    split at h
    · rename_i e
      cases j with
      | zero => simpa using e
      | succ j => simpa using com_same xs ys j (by omega)
    · omega

theorem com_diff : ∀ (xs ys : List Int), com xs ys < xs.length → com xs ys < ys.length → xs.getD (com xs ys) 0 ≠ ys.getD (com xs ys) 0
  | [], _, h, _ => by simp [com] at h
  | _ :: _, [], _, h => by simp [com] at h
  | x :: xs, y :: ys, h1, h2 => by
    simp only [com] at h1 h2 ⊢
    split
    · rename_i e
      rw [if_pos e] at h1 h2
      simpa using com_diff xs ys (by simpa using h1) (by simpa using h2)
    · rename_i e
      simpa using e

theorem cmpL_com : ∀ (xs ys : List Int), cmpL xs ys =
    if com xs ys = xs.length ∧ com xs ys = ys.length then 0 else if com xs ys = xs.length then -1 else if com xs ys = ys.length then 1
    else if xs.getD (com xs ys) 0 < ys.getD (com xs ys) 0 then -1 else 1
  | [], [] => by simp [cmpL, com]
  | [], _ :: _ => by simp [cmpL, com]
  | _ :: _, [] => by simp [cmpL, com]
  | x :: xs, y :: ys => by
    have ih := cmpL_com xs ys
    by_cases e : x = y
    · have h1 : com (x :: xs) (y :: ys) = com xs ys + 1 := by simp [com, e]
      have h2 : cmpL (x :: xs) (y :: ys) = cmpL xs ys := by simp [cmpL, e]
      rw [h2, ih]
      simp [h1]
    · have h1 : com (x :: xs) (y :: ys) = 0 := by simp [com, e]
      simp [h1, cmpL, e]

theorem cmpL_zero : ∀ (xs ys : List Int), cmpL xs ys = 0 ↔ xs = ys
  | [], [] => by simp [cmpL]
  | [], _ :: _ => by simp [cmpL]
  | _ :: _, [] => by simp [cmpL]
  | x :: xs, y :: ys => by
    simp only [cmpL]
    by_cases e : x = y
    · rw [if_pos e, cmpL_zero xs ys]; simp [e]
    · rw [if_neg e]; simp [e]; split <;> simp

theorem cmpL_range (xs ys : List Int) : -1 ≤ cmpL xs ys ∧ cmpL xs ys ≤ 1 := by
  rw [cmpL_com]
  repeat' split
  all_goals omega

theorem byte_inj {x y : Int} (hx : 0 ≤ x ∧ x < 256) (hy : 0 ≤ y ∧ y < 256) : (UInt8.ofNat x.toNat = UInt8.ofNat y.toNat) ↔ x = y := by
  rw [← UInt8.toNat_inj, UInt8.toNat_ofNat', UInt8.toNat_ofNat']; omega

theorem bytesOf_inj : ∀ (xs ys : List Int), (∀ x ∈ xs, 0 ≤ x ∧ x < 256) → (∀ y ∈ ys, 0 ≤ y ∧ y < 256) → (Lib.bytesOf xs = Lib.bytesOf ys ↔ xs = ys)
  | [], [], _, _ => by simp [Lib.bytesOf]
  | [], _ :: _, _, _ => by simp [Lib.bytesOf]
  | _ :: _, [], _, _ => by simp [Lib.bytesOf]
  | x :: xs, y :: ys, h1, h2 => by
    have ih := bytesOf_inj xs ys (fun a ha => h1 a (by simp [ha])) (fun a ha => h2 a (by simp [ha]))
    simp only [Lib.bytesOf, List.map_cons, List.cons.injEq] at ih ⊢
    rw [byte_inj (h1 x (by simp)) (h2 y (by simp)), ih]

theorem beq_bytesOf (xs ys : List Int) (h1 : ∀ x ∈ xs, 0 ≤ x ∧ x < 256) (h2 : ∀ y ∈ ys, 0 ≤ y ∧ y < 256) : (Lib.bytesOf xs == Lib.bytesOf ys) = (cmpL xs ys == 0) := by
  rw [Bool.eq_iff_iff]
  simp only [beq_iff_eq]
  rw [bytesOf_inj xs ys h1 h2, cmpL_zero]

theorem hasPrefix_com : ∀ (xs ys : List Int), (∀ x ∈ xs, 0 ≤ x ∧ x < 256) → (∀ y ∈ ys, 0 ≤ y ∧ y < 256) →
    Lib.hasPrefix (Lib.bytesOf xs) (Lib.bytesOf ys) = decide (com xs ys = ys.length)
  | [], [], _, _ => by simp [Lib.bytesOf, Lib.hasPrefix, com]
  | [], _ :: _, _, _ => by simp [Lib.bytesOf, Lib.hasPrefix, com]
  | _ :: _, [], _, _ => by simp [Lib.bytesOf, Lib.hasPrefix, com]
  | x :: xs, y :: ys, h1, h2 => by
    have ih := hasPrefix_com xs ys (fun a ha => h1 a (by simp [ha])) (fun a ha => h2 a (by simp [ha]))
    have hb := byte_inj (h2 y (by simp)) (h1 x (by simp))
    have hp : Lib.hasPrefix (Lib.bytesOf (x :: xs)) (Lib.bytesOf (y :: ys)) = (UInt8.ofNat y.toNat == UInt8.ofNat x.toNat && Lib.hasPrefix (Lib.bytesOf xs) (Lib.bytesOf ys)) := rfl
    rw [hp, ih]
    by_cases e : x = y
    · subst e
      have h1 : com (x :: xs) (x :: ys) = com xs ys + 1 := by simp [com]
      simp [h1]
    · have h1 : com (x :: xs) (y :: ys) = 0 := by simp [com, e]
      have : (UInt8.ofNat y.toNat == UInt8.ofNat x.toNat) = false := by
        rw [beq_eq_false_iff_ne]; intro h; exact e (hb.1 h).symm
      simp [this, h1]

theorem compareBytes_cmpL : ∀ (xs ys : List Int), (∀ x ∈ xs, 0 ≤ x ∧ x < 256) → (∀ y ∈ ys, 0 ≤ y ∧ y < 256) → Lib.compareBytes (Lib.bytesOf xs) (Lib.bytesOf ys) = cmpL xs ys
  | [], [], _, _ => by simp [Lib.bytesOf, Lib.compareBytes, cmpL]
  | [], _ :: _, _, _ => by simp [Lib.bytesOf, Lib.compareBytes, cmpL]
  | _ :: _, [], _, _ => by simp [Lib.bytesOf, Lib.compareBytes, cmpL]
  | x :: xs, y :: ys, h1, h2 => by
    have ih := compareBytes_cmpL xs ys (fun a ha => h1 a (by simp [ha])) (fun a ha => h2 a (by simp [ha]))
    have hx := h1 x (by simp)
    have hy := h2 y (by simp)
    have l1 : (UInt8.ofNat x.toNat < UInt8.ofNat y.toNat) ↔ x < y := by
      rw [UInt8.lt_iff_toNat_lt, UInt8.toNat_ofNat', UInt8.toNat_ofNat']; omega
    have l2 : (UInt8.ofNat y.toNat < UInt8.ofNat x.toNat) ↔ y < x := by
      rw [UInt8.lt_iff_toNat_lt, UInt8.toNat_ofNat', UInt8.toNat_ofNat']; omega
    show (if UInt8.ofNat x.toNat < UInt8.ofNat y.toNat then -1 else if UInt8.ofNat y.toNat < UInt8.ofNat x.toNat then 1 else Lib.compareBytes (Lib.bytesOf xs) (Lib.bytesOf ys)) = _
    simp only [l1, l2, ih, cmpL]
    by_cases e : x = y
    · subst e; simp
    · by_cases f : x < y
      · simp [e, f]
      · have : y < x := by omega
        simp [e, f, this]

/-- how many of the first n numbers stand ahead of those at the end that are 255 -/
def lastN (xs : List Int) : Nat → Nat
  | 0 => 0
  | n + 1 => if xs.getD n 0 = 255 then lastN xs n else n + 1

/-- the next one of a prefix whose first n (n > 0) numbers do not end in 255 -/
def bump (xs : List Int) (n : Nat) : List Int := (xs.take n).set (n - 1) (xs.getD (n - 1) 0 + 1)

theorem lastN_le (xs : List Int) : ∀ n, lastN xs n ≤ n
  | 0 => Nat.le_refl _
  | n + 1 => by
    have := lastN_le xs n
    simp only [lastN]; split <;> omega

theorem lastN_end (xs : List Int) : ∀ n, 0 < lastN xs n → xs.getD (lastN xs n - 1) 0 ≠ 255
  | 0, h => by simp [lastN] at h
  | n + 1, h => by
    simp only [lastN] at h ⊢
    split
    · rename_i e; rw [if_pos e] at h; exact lastN_end xs n h
    · rename_i e; simpa using e

theorem lastN_fix (xs : List Int) (k : Nat) (h : 0 < k → xs.getD (k - 1) 0 ≠ 255) : lastN xs k = k := by
  cases k with
  | zero => rfl
  | succ k => simp only [lastN]; rw [if_neg (by simpa using h (by omega))]

theorem lastN_step (xs : List Int) (k : Nat) (h0 : 0 < k) (h : xs.getD (k - 1) 0 = 255) : lastN xs k = lastN xs (k - 1) := by
  cases k with
  | zero => omega
  | succ k => simp only [lastN]; rw [if_pos (by simpa using h)]; rfl

theorem length_bump (xs : List Int) (n : Nat) (h : n ≤ xs.length) : (bump xs n).length = n := by
  simp [bump]; omega

theorem getD_bump (xs : List Int) (n i : Nat) (h : n ≤ xs.length) (hi : i < n) : (bump xs n).getD i 0 = if i = n - 1 then xs.getD (n - 1) 0 + 1 else xs.getD i 0 := by
  simp only [bump, List.getD_eq_getElem?_getD, List.getElem?_set, List.length_take]
  by_cases e : n - 1 = i
  · subst e
    rw [if_pos rfl, if_pos (by omega), if_pos rfl]; rfl
  · rw [if_neg e, if_neg (fun f => e f.symm), List.getElem?_take, if_pos hi]

end Go.Proofs.YtbihlmkjoplkoaaGreatDoor
/-
  Trees of nodes, plainly: which nodes are in them, where, whose; what a put and a deletion make of them.
-/
namespace Go.Proofs.YtbihlmkjoplkoaaGreatDoor
set_option linter.unusedVariables false

/-- a tree of nodes: a node has a number (its block), an owner, a part, a value, and things by bytes -/
inductive T where
  | nil : T
  | node (id : Nat) (own : Int) (part : List Int) (val : Int) (has leaf : Bool) (kid : Nat → T) : T

def T.ptr : T → Option Nat
  | .nil => none
  | .node id _ _ _ _ _ _ => some id
def T.own : T → Int
  | .nil => 0
  | .node _ own _ _ _ _ _ => own
def T.In (a : Nat) : T → Prop
  | .nil => False
  | .node id _ _ _ _ _ kid => a = id ∨ ∃ b, T.In a (kid b)
/-- no node stands twice -/
def T.Sep : T → Prop
  | .nil => True
  | .node id _ _ _ _ _ kid => (∀ b, ¬ T.In id (kid b)) ∧ (∀ b c, b ≠ c → ∀ a, T.In a (kid b) → ¬ T.In a (kid c)) ∧ ∀ b, T.Sep (kid b)
/-- something holds of each node, where it stands -/
def T.All (P : List Int → Nat → Int → List Int → Prop) : T → List Int → Prop
  | .nil, _ => True
  | .node id own part _ _ _ kid, h => P h id own part ∧ ∀ b : Nat, T.All P (kid b) (h ++ part ++ [(b : Int)])
/-- a node stands at a place -/
def T.At : T → List Int → List Int → Nat → Prop
  | .nil, _, _, _ => False
  | .node id _ part _ _ _ kid, h, q, a => (q = h ∧ a = id) ∨ ∃ b : Nat, T.At (kid b) (h ++ part ++ [(b : Int)]) q a
/-- leaves have no kids; kids stand by bytes -/
def T.Fit : T → Prop
  | .nil => True
  | .node _ _ _ _ _ leaf kid => (leaf = true → ∀ b, kid b = .nil) ∧ (∀ b, 256 ≤ b → kid b = .nil) ∧ ∀ b, T.Fit (kid b)

def sumTo (f : Nat → Nat) : Nat → Nat
  | 0 => 0
  | n + 1 => sumTo f n + f n
/-- how many nodes have such an owner -/
def T.cnt (p : Int → Bool) : T → Nat
  | .nil => 0
  | .node _ own _ _ _ _ kid => (if p own = true then 1 else 0) + sumTo (fun b => T.cnt p (kid b)) 256

theorem sumTo_zero {f : Nat → Nat} : ∀ n : Nat, (∀ b, b < n → f b = 0) → sumTo f n = 0
  | 0, _ => rfl
  | n + 1, h => by simp only [sumTo]; rw [sumTo_zero n (fun b hb => h b (by omega)), h n (by omega)]
theorem sumTo_congr {f g : Nat → Nat} : ∀ n : Nat, (∀ b, b < n → f b = g b) → sumTo f n = sumTo g n
  | 0, _ => rfl
  | n + 1, h => by simp only [sumTo]; rw [sumTo_congr n (fun b hb => h b (by omega)), h n (by omega)]
theorem sumTo_le {f g : Nat → Nat} : ∀ n : Nat, (∀ b, b < n → f b ≤ g b) → sumTo f n ≤ sumTo g n
  | 0, _ => Nat.le_refl _
  | n + 1, h => by simp only [sumTo]; exact Nat.add_le_add (sumTo_le n (fun b hb => h b (by omega))) (h n (by omega))
theorem sumTo_add {f g : Nat → Nat} : ∀ n : Nat, sumTo (fun b => f b + g b) n = sumTo f n + sumTo g n
  | 0 => rfl
  | n + 1 => by simp only [sumTo]; rw [sumTo_add n]; omega
theorem sumTo_one_le {f : Nat → Nat} {b : Nat} : ∀ n : Nat, b < n → f b ≤ sumTo f n
  | 0, h => by omega
  | n + 1, h => by
    simp only [sumTo]
    by_cases e : b = n
    · subst e; omega
    · have := sumTo_one_le (f := f) n (show b < n by omega); omega
/-- one alone counts -/
theorem sumTo_only {f : Nat → Nat} {b : Nat} : ∀ n : Nat, (∀ c, c < n → c ≠ b → f c = 0) → b < n → sumTo f n = f b
  | 0, _, h => by omega
  | n + 1, h, hb => by
    simp only [sumTo]
    by_cases e : b = n
    · subst e; rw [sumTo_zero b (fun c hc => h c (by omega) (by omega))]; omega
    · rw [sumTo_only n (fun c hc hn => h c (by omega) hn) (by omega), h n (by omega) (fun e' => e e'.symm)]; rfl
/-- between two places nothing counts -/
theorem sumTo_skip {f : Nat → Nat} (a : Nat) : ∀ n : Nat, a ≤ n → (∀ c, a ≤ c → c < n → f c = 0) → sumTo f n = sumTo f a
  | 0, h, _ => by obtain rfl : a = 0 := by omega
                  rfl
  | n + 1, h, hz => by
    by_cases e : a = n + 1
    · rw [e]
    · simp only [sumTo]; rw [sumTo_skip a n (by omega) (fun c h1 h2 => hz c h1 (by omega)), hz n (by omega) (by omega)]; rfl

def updT (f : Nat → T) (b : Nat) (t : T) : Nat → T := fun c => if c = b then t else f c
theorem updT_same (f : Nat → T) (b : Nat) (t : T) : updT f b t b = t := by simp [updT]
theorem updT_other (f : Nat → T) (b c : Nat) (t : T) (h : c ≠ b) : updT f b t c = f c := by simp [updT, h]

theorem sumTo_upd (g : T → Nat) (f : Nat → T) (b : Nat) (t : T) : ∀ n : Nat, sumTo (fun c => g (updT f b t c)) n ≤ sumTo (fun c => g (f c)) n + (g t - g (f b))
  | 0 => by simp [sumTo]
  | n + 1 => by
    simp only [sumTo]
    by_cases e : n = b
    · subst e
      have : sumTo (fun c => g (updT f n t c)) n = sumTo (fun c => g (f c)) n := sumTo_congr n (fun c hc => by rw [updT_other _ _ _ _ (by omega)])
      rw [this, updT_same]; omega
    · have := sumTo_upd g f b t n
      rw [updT_other _ _ _ _ e]; omega

theorem cnt_split (p : Int → Bool) : ∀ t : T, t.cnt p + t.cnt (fun o => !p o) = t.cnt (fun _ => true)
  | .nil => rfl
  | .node id own part val has leaf kid => by
    simp only [T.cnt]
    have := sumTo_congr (f := fun b => (kid b).cnt p + (kid b).cnt (fun o => !p o)) (g := fun b => (kid b).cnt fun _ => true) 256 (fun b _ => cnt_split p (kid b))
    rw [sumTo_add] at this
    by_cases hp : p own = true
    · simp only [hp, Bool.not_true, if_true]
      simp
      omega
    · have hp : p own = false := by simpa using hp
      simp only [hp, Bool.not_false, if_true]
      simp
      omega

theorem cnt_all {p q : Int → Bool} {P : List Int → Nat → Int → List Int → Prop} (hP : ∀ h id own part, P h id own part → p own = q own) : ∀ (t : T) (h : List Int), t.All P h → t.cnt p = t.cnt q
  | .nil, _, _ => rfl
  | .node id own part val has leaf kid, h, hA => by
    simp only [T.cnt]
    rw [hP _ _ _ _ hA.1, sumTo_congr 256 (fun b _ => cnt_all hP (kid b) _ (hA.2 b))]
theorem cnt_none {p : Int → Bool} {P : List Int → Nat → Int → List Int → Prop} (hP : ∀ h id own part, P h id own part → p own = false) : ∀ (t : T) (h : List Int), t.All P h → t.cnt p = 0
  | .nil, _, _ => rfl
  | .node id own part val has leaf kid, h, hA => by
    simp only [T.cnt]
    rw [hP _ _ _ _ hA.1, sumTo_zero 256 (fun b _ => cnt_none hP (kid b) _ (hA.2 b))]; rfl
theorem cnt_pos (id : Nat) (own : Int) (part : List Int) (val : Int) (has leaf : Bool) (kid : Nat → T) : 1 ≤ (T.node id own part val has leaf kid).cnt (fun _ => true) := by
  simp only [T.cnt, if_pos]; omega
theorem cnt_kid (id : Nat) (own : Int) (part : List Int) (val : Int) (has leaf : Bool) (kid : Nat → T) (hF : (T.node id own part val has leaf kid).Fit) (b : Nat) :
    (kid b).cnt (fun _ => true) + 1 ≤ (T.node id own part val has leaf kid).cnt (fun _ => true) := by
  simp only [T.cnt, if_pos]
  by_cases hb : b < 256
  · have : (kid b).cnt (fun _ => true) ≤ sumTo (fun b => (kid b).cnt fun _ => true) 256 := sumTo_one_le (f := fun b => (kid b).cnt fun _ => true) 256 hb
    omega
  · rw [hF.2.1 b (by omega)]; simp only [T.cnt]; omega

theorem T.All.mono {P Q : List Int → Nat → Int → List Int → Prop} (hP : ∀ h id own part, P h id own part → Q h id own part) : ∀ {t : T} {h : List Int}, t.All P h → t.All Q h
  | .nil, _, _ => trivial
  | .node id own part val has leaf kid, h, hA => ⟨hP _ _ _ _ hA.1, fun b => T.All.mono hP (hA.2 b)⟩
theorem T.All.and {P Q : List Int → Nat → Int → List Int → Prop} : ∀ {t : T} {h : List Int}, t.All P h → t.All Q h → t.All (fun h id own part => P h id own part ∧ Q h id own part) h
  | .nil, _, _, _ => trivial
  | .node id own part val has leaf kid, h, hA, hB => ⟨⟨hA.1, hB.1⟩, fun b => T.All.and (hA.2 b) (hB.2 b)⟩
theorem T.At.starts : ∀ {t : T} {h q : List Int} {a : Nat}, t.At h q a → ∃ r, q = h ++ r
  | .nil, _, _, _, h => h.elim
  | .node id own part val has leaf kid, h, q, a, hA => by
    rcases hA with ⟨rfl, _⟩ | ⟨b, hb⟩
    · exact ⟨[], by simp⟩
    · obtain ⟨r, hr⟩ := T.At.starts hb
      exact ⟨part ++ [(b : Int)] ++ r, by rw [hr]; simp⟩
/-- each node stands where it stands -/
theorem T.All.self : ∀ (t : T) (h : List Int), t.All (fun q a _ _ => t.At h q a) h
  | .nil, _ => trivial
  | .node id own part val has leaf kid, h => ⟨Or.inl ⟨rfl, rfl⟩, fun b => (T.All.self (kid b) _).mono fun _ _ _ _ k => Or.inr ⟨b, k⟩⟩

/-- what Own makes of a node -/
def OwnR (o : Int) (new : Nat → Prop) (id : Nat) (own : Int) (id' : Nat) : Prop := (own = o ∧ id' = id) ∨ (own ≠ o ∧ new id')

def one (b : Nat) (t : T) : Nat → T := updT (fun _ => .nil) b t
def none' : Nat → T := fun _ => .nil

/-- two things at least -/
def Two (kid : Nat → T) : Prop := ∃ b c, b ≠ c ∧ kid b ≠ .nil ∧ kid c ≠ .nil
/-- each node has a value or two kids -/
def T.Full : T → Prop
  | .nil => True
  | .node _ _ _ _ has _ kid => (has = true ∨ Two kid) ∧ ∀ b, T.Full (kid b)

/-- what a put makes of a tree that has not got it -/
inductive PutR (o v : Int) (new : Nat → Prop) : List Int → T → T → Prop
  | leaf (k : List Int) (id : Nat) : new id → PutR o v new k .nil (.node id o k v true true none')
  | here (part : List Int) (id : Nat) (own val : Int) (has leaf : Bool) (kid : Nat → T) (id' : Nat) : OwnR o new id own id' → PutR o v new part (.node id own part val has leaf kid) (.node id' o part v true leaf kid)
  | up (k part : List Int) (b : Nat) (id : Nat) (own val : Int) (has leaf : Bool) (kid : Nat → T) (id0 id' : Nat) (val' : Int) (has' : Bool) : new id0 → OwnR o new id own id' → id0 ≠ id' → has' = true →
      PutR o v new k (.node id own (k ++ (b : Int) :: part) val has leaf kid) (.node id0 o k val' has' false (one b (.node id' o part val has leaf kid)))
  | fork (pre k part : List Int) (b c : Nat) (id : Nat) (own val : Int) (has leaf : Bool) (kid : Nat → T) (id0 id' id2 : Nat) (val' : Int) (has' : Bool) : new id0 → OwnR o new id own id' → new id2 → id0 ≠ id' → id0 ≠ id2 → id' ≠ id2 → b ≠ c →
      PutR o v new (pre ++ (c : Int) :: k) (.node id own (pre ++ (b : Int) :: part) val has leaf kid) (.node id0 o pre val' has' false (updT (one b (.node id' o part val has leaf kid)) c (.node id2 o k v true true none')))
  | tip (k part : List Int) (c : Nat) (id : Nat) (own val : Int) (has : Bool) (kid : Nat → T) (id0 id2 : Nat) (val' : Int) (has' : Bool) : new id0 → new id2 → id0 ≠ id2 → has' = true →
      PutR o v new (part ++ (c : Int) :: k) (.node id own part val has true kid) (.node id0 o part val' has' false (one c (.node id2 o k v true true none')))
  | same (k part : List Int) (b : Nat) (id : Nat) (own val : Int) (has leaf : Bool) (kid : Nat → T) (t1 : T) : PutR o v new k (kid b) t1 → t1.ptr = (kid b).ptr →
      PutR o v new (part ++ (b : Int) :: k) (.node id own part val has leaf kid) (.node id own part val has leaf (updT kid b t1))
  | set (k part : List Int) (b : Nat) (id : Nat) (own val : Int) (has leaf : Bool) (kid : Nat → T) (t1 : T) (id' : Nat) : PutR o v new k (kid b) t1 → OwnR o new id own id' → (new id' → ¬ t1.In id') →
      PutR o v new (part ++ (b : Int) :: k) (.node id own part val has leaf kid) (.node id' o part val has leaf (updT kid b t1))

/-- what a deletion may make of a tree -/
inductive DelR (o : Int) (new : Nat → Prop) : T → T → Prop
  | gone (t : T) : DelR o new t .nil
  | lift (id : Nat) (own : Int) (part : List Int) (val : Int) (has leaf : Bool) (kid : Nat → T) (c : Nat) (id1 : Nat) (own1 : Int) (part1 : List Int) (val1 : Int) (has1 leaf1 : Bool) (kid1 : Nat → T) (id' : Nat) :
      kid c = .node id1 own1 part1 val1 has1 leaf1 kid1 → OwnR o new id1 own1 id' →
      DelR o new (.node id own part val has leaf kid) (.node id' o (part ++ (c : Int) :: part1) val1 has1 leaf1 kid1)
  | own (id : Nat) (own : Int) (part : List Int) (val : Int) (has leaf : Bool) (kid : Nat → T) (id' : Nat) (val' : Int) (has' : Bool) : OwnR o new id own id' → (has' = true ∨ Two kid) →
      DelR o new (.node id own part val has leaf kid) (.node id' o part val' has' leaf kid)
  | leaf (id : Nat) (own : Int) (part : List Int) (val : Int) (has leaf : Bool) (kid : Nat → T) (id' : Nat) (val' : Int) : new id' →
      DelR o new (.node id own part val has leaf kid) (.node id' o part val' true true none')
  | same (b : Nat) (id : Nat) (own : Int) (part : List Int) (val : Int) (has leaf : Bool) (kid : Nat → T) (t1 : T) : DelR o new (kid b) t1 → t1.ptr = (kid b).ptr →
      DelR o new (.node id own part val has leaf kid) (.node id own part val has leaf (updT kid b t1))
  | set (b : Nat) (id : Nat) (own : Int) (part : List Int) (val : Int) (has leaf : Bool) (kid : Nat → T) (t1 : T) (id' : Nat) : DelR o new (kid b) t1 → OwnR o new id own id' → (new id' → ¬ t1.In id') → (t1 ≠ .nil ∨ has = true ∨ Two (updT kid b t1)) →
      DelR o new (.node id own part val has leaf kid) (.node id' o part val has leaf (updT kid b t1))

theorem in_none' (a b : Nat) : ¬ (none' b).In a := fun h => h
theorem in_one {a b c : Nat} {t : T} (h : (one b t c).In a) : c = b ∧ t.In a := by
  unfold one at h
  by_cases e : c = b
  · subst e; rw [updT_same] at h; exact ⟨rfl, h⟩
  · rw [updT_other _ _ _ _ e] at h; exact h.elim
theorem OwnR.id {o own : Int} {new : Nat → Prop} {id id' : Nat} (h : OwnR o new id own id') : id' = id ∨ new id' := by
  rcases h with ⟨_, h⟩ | ⟨_, h⟩
  · exact Or.inl h
  · exact Or.inr h

theorem PutR.in {o v : Int} {new : Nat → Prop} {k : List Int} {t t' : T} (h : PutR o v new k t t') : ∀ a, t'.In a → t.In a ∨ new a := by
  induction h with
  | leaf k id hn =>
    rintro a (rfl | ⟨b, hb⟩)
    · exact Or.inr hn
    · exact hb.elim
  | here part id own val has leaf kid id' ho =>
    rintro a (rfl | ⟨b, hb⟩)
    · rcases ho.id with rfl | hn
      · exact Or.inl (Or.inl rfl)
      · exact Or.inr hn
    · exact Or.inl (Or.inr ⟨b, hb⟩)
  | up k part b id own val has leaf kid id0 id' val' has' h0 ho hne hh =>
    rintro a (rfl | ⟨c, hc⟩)
    · exact Or.inr h0
    · obtain ⟨_, rfl | ⟨d, hd⟩⟩ := in_one hc
      · rcases ho.id with rfl | hn
        · exact Or.inl (Or.inl rfl)
        · exact Or.inr hn
      · exact Or.inl (Or.inr ⟨d, hd⟩)
  | fork pre k part b c id own val has leaf kid id0 id' id2 val' has' h0 ho h2 _ _ _ _ =>
    rintro a (rfl | ⟨e, he⟩)
    · exact Or.inr h0
    · by_cases hec : e = c
      · subst hec; rw [updT_same] at he
        rcases he with rfl | ⟨d, hd⟩
        · exact Or.inr h2
        · exact hd.elim
      · rw [updT_other _ _ _ _ hec] at he
        obtain ⟨_, rfl | ⟨d, hd⟩⟩ := in_one he
        · rcases ho.id with rfl | hn
          · exact Or.inl (Or.inl rfl)
          · exact Or.inr hn
        · exact Or.inl (Or.inr ⟨d, hd⟩)
  | tip k part c id own val has kid id0 id2 val' has' h0 h2 hne hh =>
    rintro a (rfl | ⟨d, hd⟩)
    · exact Or.inr h0
    · obtain ⟨_, rfl | ⟨d, hd⟩⟩ := in_one hd
      · exact Or.inr h2
      · exact hd.elim
  | same k part b id own val has leaf kid t1 hp he ih =>
    rintro a (rfl | ⟨c, hc⟩)
    · exact Or.inl (Or.inl rfl)
    · by_cases e : c = b
      · subst e; rw [updT_same] at hc
        rcases ih a hc with h | h
        · exact Or.inl (Or.inr ⟨c, h⟩)
        · exact Or.inr h
      · rw [updT_other _ _ _ _ e] at hc; exact Or.inl (Or.inr ⟨c, hc⟩)
  | set k part b id own val has leaf kid t1 id' hp ho hi ih =>
    rintro a (rfl | ⟨c, hc⟩)
    · rcases ho.id with rfl | hn
      · exact Or.inl (Or.inl rfl)
      · exact Or.inr hn
    · by_cases e : c = b
      · subst e; rw [updT_same] at hc
        rcases ih a hc with h | h
        · exact Or.inl (Or.inr ⟨c, h⟩)
        · exact Or.inr h
      · rw [updT_other _ _ _ _ e] at hc; exact Or.inl (Or.inr ⟨c, hc⟩)

theorem DelR.in {o : Int} {new : Nat → Prop} {t t' : T} (h : DelR o new t t') : ∀ a, t'.In a → t.In a ∨ new a := by
  induction h with
  | gone t => exact fun a h => h.elim
  | lift id own part val has leaf kid c id1 own1 part1 val1 has1 leaf1 kid1 id' hk ho =>
    rintro a (rfl | ⟨b, hb⟩)
    · rcases ho.id with rfl | hn
      · exact Or.inl (Or.inr ⟨c, by rw [hk]; exact Or.inl rfl⟩)
      · exact Or.inr hn
    · exact Or.inl (Or.inr ⟨c, by rw [hk]; exact Or.inr ⟨b, hb⟩⟩)
  | own id own part val has leaf kid id' val' has' ho hh =>
    rintro a (rfl | ⟨b, hb⟩)
    · rcases ho.id with rfl | hn
      · exact Or.inl (Or.inl rfl)
      · exact Or.inr hn
    · exact Or.inl (Or.inr ⟨b, hb⟩)
  | leaf id own part val has leaf kid id' val' hn =>
    rintro a (rfl | ⟨b, hb⟩)
    · exact Or.inr hn
    · exact hb.elim
  | same b id own part val has leaf kid t1 hp he ih =>
    rintro a (rfl | ⟨c, hc⟩)
    · exact Or.inl (Or.inl rfl)
    · by_cases e : c = b
      · subst e; rw [updT_same] at hc
        rcases ih a hc with h | h
        · exact Or.inl (Or.inr ⟨c, h⟩)
        · exact Or.inr h
      · rw [updT_other _ _ _ _ e] at hc; exact Or.inl (Or.inr ⟨c, hc⟩)
  | set b id own part val has leaf kid t1 id' hp ho hi hh ih =>
    rintro a (rfl | ⟨c, hc⟩)
    · rcases ho.id with rfl | hn
      · exact Or.inl (Or.inl rfl)
      · exact Or.inr hn
    · by_cases e : c = b
      · subst e; rw [updT_same] at hc
        rcases ih a hc with h | h
        · exact Or.inl (Or.inr ⟨c, h⟩)
        · exact Or.inr h
      · rw [updT_other _ _ _ _ e] at hc; exact Or.inl (Or.inr ⟨c, hc⟩)

theorem sep_upd {new : Nat → Prop} {id : Nat} {own : Int} {part : List Int} {val : Int} {has leaf : Bool} {kid : Nat → T} (hs : (T.node id own part val has leaf kid).Sep) (hn : ∀ a, (T.node id own part val has leaf kid).In a → ¬ new a)
    {b : Nat} {t1 : T} (h1 : t1.Sep) (hi : ∀ a, t1.In a → (kid b).In a ∨ new a) {id' : Nat} (hid : id' = id ∨ new id') (hnt : new id' → ¬ t1.In id') (own' : Int) (part' : List Int) (val' : Int) (has' leaf' : Bool) :
    (T.node id' own' part' val' has' leaf' (updT kid b t1)).Sep := by
  have hnew : ∀ c a, (kid c).In a → ¬ new a := fun c a hc => hn a (Or.inr ⟨c, hc⟩)
  have apart : ∀ c, c ≠ b → ∀ a, t1.In a → ¬ (kid c).In a := by
    intro c hc a ha hk
    rcases hi a ha with h | h
    · exact hs.2.1 c b hc a hk h
    · exact hnew c a hk h
  refine ⟨fun c => ?_, fun c d hcd a hc hd => ?_, fun c => ?_⟩
  · by_cases e : c = b
    · subst e; rw [updT_same]
      rcases hid with rfl | h
      · intro hin
        rcases hi _ hin with h | h
        · exact hs.1 c h
        · exact hn _ (Or.inl rfl) h
      · exact hnt h
    · rw [updT_other _ _ _ _ e]
      rcases hid with rfl | h
      · exact hs.1 c
      · exact fun hk => hnew c _ hk h
  · by_cases e : c = b
    · subst e; rw [updT_same] at hc; rw [updT_other _ _ _ _ (fun e => hcd e.symm)] at hd
      exact apart d (fun e => hcd e.symm) a hc hd
    · rw [updT_other _ _ _ _ e] at hc
      by_cases e' : d = b
      · subst e'; rw [updT_same] at hd; exact apart c e a hd hc
      · rw [updT_other _ _ _ _ e'] at hd; exact hs.2.1 c d hcd a hc hd
  · by_cases e : c = b
    · subst e; rw [updT_same]; exact h1
    · rw [updT_other _ _ _ _ e]; exact hs.2.2 c

theorem sep_none' (id : Nat) (own : Int) (part : List Int) (val : Int) (has leaf : Bool) : (T.node id own part val has leaf none').Sep := ⟨fun b h => h, fun b c _ a h => h.elim, fun b => trivial⟩
theorem sep_one {id : Nat} {b : Nat} {t : T} (ht : t.Sep) (hid : ¬ t.In id) (own : Int) (part : List Int) (val : Int) (has leaf : Bool) : (T.node id own part val has leaf (one b t)).Sep := by
  refine ⟨fun c h => hid (in_one h).2, fun c d hcd a hc hd => ?_, fun c => ?_⟩
  · exact hcd ((in_one hc).1.trans (in_one hd).1.symm)
  · unfold one
    by_cases e : c = b
    · subst e; rw [updT_same]; exact ht
    · rw [updT_other _ _ _ _ e]; exact trivial
theorem sep_re {new : Nat → Prop} {id : Nat} {own : Int} {part : List Int} {val : Int} {has leaf : Bool} {kid : Nat → T} (hs : (T.node id own part val has leaf kid).Sep) (hn : ∀ a, (T.node id own part val has leaf kid).In a → ¬ new a)
    {id' : Nat} (hid : id' = id ∨ new id') (own' : Int) (part' : List Int) (val' : Int) (has' leaf' : Bool) : (T.node id' own' part' val' has' leaf' kid).Sep := by
  refine ⟨fun c h => ?_, hs.2.1, hs.2.2⟩
  rcases hid with rfl | hx
  · exact hs.1 c h
  · exact hn _ (Or.inr ⟨c, h⟩) hx

theorem PutR.sep {o v : Int} {new : Nat → Prop} {k : List Int} {t t' : T} (h : PutR o v new k t t') : t.Sep → (∀ a, t.In a → ¬ new a) → t'.Sep := by
  induction h with
  | leaf k id hn => exact fun _ _ => sep_none' _ _ _ _ _ _
  | here part id own val has leaf kid id' ho => exact fun hs hn => sep_re hs hn ho.id _ _ _ _ _
  | up k part b id own val has leaf kid id0 id' val' has' h0 ho hne hh =>
    intro hs hn
    refine sep_one (sep_re hs hn ho.id _ _ _ _ _) ?_ _ _ _ _ _
    rintro (e | ⟨c, hc⟩)
    · exact hne e
    · exact hn _ (Or.inr ⟨c, hc⟩) h0
  | fork pre k part b c id own val has leaf kid id0 id' id2 val' has' h0 ho h2 n1 n2 n3 hbc =>
    intro hs hn
    have h1 := sep_re hs hn ho.id o part val has leaf
    have hin : ∀ e a, (updT (one b (.node id' o part val has leaf kid)) c (.node id2 o k v true true none') e).In a → (e = c ∧ a = id2) ∨ (e = b ∧ (a = id' ∨ ∃ d, (kid d).In a)) := by
      intro e a he
      by_cases hec : e = c
      · subst hec; rw [updT_same] at he
        rcases he with rfl | ⟨d, hd⟩
        · exact Or.inl ⟨rfl, rfl⟩
        · exact hd.elim
      · rw [updT_other _ _ _ _ hec] at he
        exact Or.inr (in_one he)
    refine ⟨fun e he => ?_, fun e f hef a he hf => ?_, fun e => ?_⟩
    · rcases hin e _ he with ⟨_, h⟩ | ⟨_, h | ⟨d, hd⟩⟩
      · exact n2 h
      · exact n1 h
      · exact hn _ (Or.inr ⟨d, hd⟩) h0
    · rcases hin e _ he with ⟨e1, h⟩ | ⟨e1, h⟩ <;> rcases hin f _ hf with ⟨e2, h'⟩ | ⟨e2, h'⟩
      · exact hef (e1.trans e2.symm)
      · subst h
        rcases h' with h' | ⟨d, hd⟩
        · exact n3 h'.symm
        · exact hn _ (Or.inr ⟨d, hd⟩) h2
      · subst h'
        rcases h with h' | ⟨d, hd⟩
        · exact n3 h'.symm
        · exact hn _ (Or.inr ⟨d, hd⟩) h2
      · exact hef (e1.trans e2.symm)
    · by_cases hec : e = c
      · subst hec; rw [updT_same]; exact sep_none' _ _ _ _ _ _
      · rw [updT_other _ _ _ _ hec]
        unfold one
        by_cases heb : e = b
        · subst heb; rw [updT_same]; exact h1
        · rw [updT_other _ _ _ _ heb]; exact trivial
  | tip k part c id own val has kid id0 id2 val' has' h0 h2 hne hh =>
    intro hs hn
    refine sep_one (sep_none' _ _ _ _ _ _) ?_ _ _ _ _ _
    rintro (e | ⟨c, hc⟩)
    · exact hne e
    · exact hc.elim
  | same k part b id own val has leaf kid t1 hp he ih =>
    intro hs hn
    exact sep_upd hs hn (ih (hs.2.2 b) (fun a ha => hn a (Or.inr ⟨b, ha⟩))) hp.in (Or.inl rfl) (fun h => absurd h (hn _ (Or.inl rfl))) _ _ _ _ _
  | set k part b id own val has leaf kid t1 id' hp ho hi ih =>
    intro hs hn
    exact sep_upd hs hn (ih (hs.2.2 b) (fun a ha => hn a (Or.inr ⟨b, ha⟩))) hp.in ho.id hi _ _ _ _ _

theorem DelR.sep {o : Int} {new : Nat → Prop} {t t' : T} (h : DelR o new t t') : t.Sep → (∀ a, t.In a → ¬ new a) → t'.Sep := by
  induction h with
  | gone t => exact fun _ _ => trivial
  | lift id own part val has leaf kid c id1 own1 part1 val1 has1 leaf1 kid1 id' hk ho =>
    intro hs hn
    have h1 := hs.2.2 c
    rw [hk] at h1
    refine sep_re h1 (fun a ha => hn a (Or.inr ⟨c, by rw [hk]; exact ha⟩)) ho.id _ _ _ _ _
  | own id own part val has leaf kid id' val' has' ho hh => exact fun hs hn => sep_re hs hn ho.id _ _ _ _ _
  | leaf id own part val has leaf kid id' val' hn => exact fun _ _ => sep_none' _ _ _ _ _ _
  | same b id own part val has leaf kid t1 hp he ih =>
    intro hs hn
    exact sep_upd hs hn (ih (hs.2.2 b) (fun a ha => hn a (Or.inr ⟨b, ha⟩))) hp.in (Or.inl rfl) (fun h => absurd h (hn _ (Or.inl rfl))) _ _ _ _ _
  | set b id own part val has leaf kid t1 id' hp ho hi hh ih =>
    intro hs hn
    exact sep_upd hs hn (ih (hs.2.2 b) (fun a ha => hn a (Or.inr ⟨b, ha⟩))) hp.in ho.id hi _ _ _ _ _

/-- each node is the owner's, or such a one; its part ends in time -/
def Good (o : Int) (Q : List Int → Nat → Int → Prop) (M : Nat) : List Int → Nat → Int → List Int → Prop := fun h id own part => (own = o ∨ Q h id own) ∧ h.length + part.length ≤ M

theorem all_none' {P : List Int → Nat → Int → List Int → Prop} (h : List Int) (b : Nat) : (none' b).All P h := trivial
theorem all_one {P : List Int → Nat → Int → List Int → Prop} {b : Nat} {t : T} {h : List Int} (ht : t.All P (h ++ [(b : Int)])) (c : Nat) : (one b t c).All P (h ++ [(c : Int)]) := by
  unfold one
  by_cases e : c = b
  · subst e; rw [updT_same]; exact ht
  · rw [updT_other _ _ _ _ e]; exact trivial
theorem all_upd {P : List Int → Nat → Int → List Int → Prop} {b : Nat} {t : T} {kid : Nat → T} {h : List Int} (hk : ∀ c : Nat, (kid c).All P (h ++ [(c : Int)])) (ht : t.All P (h ++ [(b : Int)])) (c : Nat) : (updT kid b t c).All P (h ++ [(c : Int)]) := by
  by_cases e : c = b
  · subst e; rw [updT_same]; exact ht
  · rw [updT_other _ _ _ _ e]; exact hk c

theorem PutR.all {o v : Int} {new : Nat → Prop} {Q : List Int → Nat → Int → Prop} {M : Nat} {k : List Int} {t t' : T} (h : PutR o v new k t t') : ∀ (hd : List Int), hd.length + k.length ≤ M → t.All (Good o Q M) hd → t'.All (Good o Q M) hd := by
  induction h with
  | leaf k id hn => exact fun hd hM _ => ⟨⟨Or.inl rfl, hM⟩, fun b => trivial⟩
  | here part id own val has leaf kid id' ho => exact fun hd hM hA => ⟨⟨Or.inl rfl, hM⟩, hA.2⟩
  | up k part b id own val has leaf kid id0 id' val' has' h0 ho hne hh =>
    intro hd hM hA
    have h1 : (T.node id' o part val has leaf kid).All (Good o Q M) (hd ++ k ++ [(b : Int)]) := by
      refine ⟨⟨Or.inl rfl, ?_⟩, fun d => ?_⟩
      · have := hA.1.2; simp at this ⊢; omega
      · have := hA.2 d; simpa using this
    exact ⟨⟨Or.inl rfl, hM⟩, fun c => all_one h1 c⟩
  | fork pre k part b c id own val has leaf kid id0 id' id2 val' has' h0 ho h2 n1 n2 n3 hbc =>
    intro hd hM hA
    simp at hM
    have h1 : (T.node id' o part val has leaf kid).All (Good o Q M) (hd ++ pre ++ [(b : Int)]) := by
      refine ⟨⟨Or.inl rfl, ?_⟩, fun d => ?_⟩
      · have := hA.1.2; simp at this ⊢; omega
      · have := hA.2 d; simpa using this
    have h3 : (T.node id2 o k v true true none').All (Good o Q M) (hd ++ pre ++ [(c : Int)]) := ⟨⟨Or.inl rfl, by simp; omega⟩, fun d => trivial⟩
    exact ⟨⟨Or.inl rfl, by omega⟩, fun e => all_upd (fun e => all_one h1 e) h3 e⟩
  | tip k part c id own val has kid id0 id2 val' has' h0 h2 hne hh =>
    intro hd hM hA
    simp at hM
    exact ⟨⟨Or.inl rfl, by omega⟩, fun e => all_one (t := .node id2 o k v true true none') ⟨⟨Or.inl rfl, by simp; omega⟩, fun d => trivial⟩ e⟩
  | same k part b id own val has leaf kid t1 hp he ih =>
    intro hd hM hA
    simp at hM
    exact ⟨hA.1, fun e => all_upd hA.2 (ih _ (by simp; omega) (hA.2 b)) e⟩
  | set k part b id own val has leaf kid t1 id' hp ho hi ih =>
    intro hd hM hA
    simp at hM
    exact ⟨⟨Or.inl rfl, hA.1.2⟩, fun e => all_upd hA.2 (ih _ (by simp; omega) (hA.2 b)) e⟩

theorem DelR.all {o : Int} {new : Nat → Prop} {Q : List Int → Nat → Int → Prop} {M : Nat} {t t' : T} (h : DelR o new t t') : ∀ (hd : List Int), t.All (Good o Q M) hd → t'.All (Good o Q M) hd := by
  induction h with
  | gone t => exact fun _ _ => trivial
  | lift id own part val has leaf kid c id1 own1 part1 val1 has1 leaf1 kid1 id' hk ho =>
    intro hd hA
    have h1 := hA.2 c
    rw [hk] at h1
    refine ⟨⟨Or.inl rfl, ?_⟩, fun d => ?_⟩
    · have := h1.1.2; simp at this ⊢; omega
    · have := h1.2 d; simpa using this
  | own id own part val has leaf kid id' val' has' ho hh => exact fun hd hA => ⟨⟨Or.inl rfl, hA.1.2⟩, hA.2⟩
  | leaf id own part val has leaf kid id' val' hn => exact fun hd hA => ⟨⟨Or.inl rfl, hA.1.2⟩, fun b => trivial⟩
  | same b id own part val has leaf kid t1 hp he ih => exact fun hd hA => ⟨hA.1, fun e => all_upd hA.2 (ih _ (hA.2 b)) e⟩
  | set b id own part val has leaf kid t1 id' hp ho hi hh ih => exact fun hd hA => ⟨⟨Or.inl rfl, hA.1.2⟩, fun e => all_upd hA.2 (ih _ (hA.2 b)) e⟩

theorem PutR.root {o v : Int} {new : Nat → Prop} {k : List Int} {t t' : T} (h : PutR o v new k t t') : t' ≠ .nil ∧ (t'.ptr = t.ptr ∨ t'.own = o) := by
  cases h <;> refine ⟨(fun e => T.noConfusion e), ?_⟩ <;> first | exact Or.inr rfl | exact Or.inl rfl

theorem cnt_one_le (p : Int → Bool) (b : Nat) (t : T) (n : Nat) : sumTo (fun c => (one b t c).cnt p) n ≤ t.cnt p := by
  have := sumTo_upd (fun t => t.cnt p) (fun _ => T.nil) b t n
  unfold one
  have hz : sumTo (fun c => (fun t : T => t.cnt p) ((fun _ => T.nil) c)) n = 0 := sumTo_zero n (fun c _ => rfl)
  simp only [T.cnt] at this hz ⊢
  omega

theorem PutR.cnt {o v : Int} {new : Nat → Prop} {k : List Int} {t t' : T} (h : PutR o v new k t t') : t'.cnt (fun _ => true) ≤ t.cnt (fun _ => true) + 2 := by
  have hz : sumTo (fun b => (none' b).cnt fun _ => true) 256 = 0 := sumTo_zero 256 (fun c _ => rfl)
  induction h with
  | leaf k id hn => simp only [T.cnt, if_pos, hz]; omega
  | here part id own val has leaf kid id' ho => simp only [T.cnt, if_pos]; omega
  | up k part b id own val has leaf kid id0 id' val' has' h0 ho hne hh =>
    have h1 := cnt_one_le (fun _ => true) b (.node id' o part val has leaf kid) 256
    simp only [T.cnt, if_pos] at h1 ⊢; omega
  | fork pre k part b c id own val has leaf kid id0 id' id2 val' has' h0 ho h2 n1 n2 n3 hbc =>
    have h1 := cnt_one_le (fun _ => true) b (.node id' o part val has leaf kid) 256
    have h2 := sumTo_upd (fun t => t.cnt fun _ => true) (one b (.node id' o part val has leaf kid)) c (.node id2 o k v true true none') 256
    simp only [T.cnt, if_pos, hz] at h1 h2 ⊢; omega
  | tip k part c id own val has kid id0 id2 val' has' h0 h2 hne hh =>
    have h1 := cnt_one_le (fun _ => true) c (.node id2 o k v true true none') 256
    simp only [T.cnt, if_pos, hz] at h1 ⊢; omega
  | same k part b id own val has leaf kid t1 hp he ih =>
    have h2 := sumTo_upd (fun t => t.cnt fun _ => true) kid b t1 256
    simp only [T.cnt, if_pos] at h2 ⊢; omega
  | set k part b id own val has leaf kid t1 id' hp ho hi ih =>
    have h2 := sumTo_upd (fun t => t.cnt fun _ => true) kid b t1 256
    simp only [T.cnt, if_pos] at h2 ⊢; omega

theorem DelR.cnt {o : Int} {new : Nat → Prop} {t t' : T} (h : DelR o new t t') : (t.Fit) → t'.cnt (fun _ => true) ≤ t.cnt (fun _ => true) := by
  have hz : sumTo (fun b => (none' b).cnt fun _ => true) 256 = 0 := sumTo_zero 256 (fun c _ => rfl)
  induction h with
  | gone t => exact fun _ => Nat.zero_le _
  | lift id own part val has leaf kid c id1 own1 part1 val1 has1 leaf1 kid1 id' hk ho =>
    intro hF
    have h1 := cnt_kid id own part val has leaf kid hF c
    rw [hk] at h1
    simp only [T.cnt, if_pos] at h1 ⊢; omega
  | own id own part val has leaf kid id' val' has' ho hh => intro hF; simp only [T.cnt, if_pos]; omega
  | leaf id own part val has leaf kid id' val' hn => intro hF; simp only [T.cnt, if_pos, hz]; omega
  | same b id own part val has leaf kid t1 hp he ih =>
    intro hF
    have h1 := ih (hF.2.2 b)
    have h2 := sumTo_upd (fun t => t.cnt fun _ => true) kid b t1 256
    simp only [T.cnt, if_pos] at h2 ⊢; omega
  | set b id own part val has leaf kid t1 id' hp ho hi hh ih =>
    intro hF
    have h1 := ih (hF.2.2 b)
    have h2 := sumTo_upd (fun t => t.cnt fun _ => true) kid b t1 256
    simp only [T.cnt, if_pos] at h2 ⊢; omega

theorem full_none' (id : Nat) (own : Int) (part : List Int) (val : Int) (leaf : Bool) : (T.node id own part val true leaf none').Full := ⟨Or.inl rfl, fun _ => trivial⟩
theorem full_one {b : Nat} {t : T} (h : t.Full) (c : Nat) : (one b t c).Full := by
  unfold one
  by_cases e : c = b
  · subst e; rw [updT_same]; exact h
  · rw [updT_other _ _ _ _ e]; trivial
theorem full_upd {kid : Nat → T} {b : Nat} {t : T} (hk : ∀ c, (kid c).Full) (h : t.Full) (c : Nat) : (updT kid b t c).Full := by
  by_cases e : c = b
  · subst e; rw [updT_same]; exact h
  · rw [updT_other _ _ _ _ e]; exact hk c
theorem two_upd {kid : Nat → T} {b : Nat} {t : T} (h : Two kid) (ht : kid b ≠ .nil → t ≠ .nil) : Two (updT kid b t) := by
  obtain ⟨c, d, h1, h2, h3⟩ := h
  refine ⟨c, d, h1, ?_, ?_⟩
  · by_cases e : c = b
    · subst e; rw [updT_same]; exact ht h2
    · rw [updT_other _ _ _ _ e]; exact h2
  · by_cases e : d = b
    · subst e; rw [updT_same]; exact ht h3
    · rw [updT_other _ _ _ _ e]; exact h3
theorem ptr_live {t u : T} (h : t.ptr = u.ptr) (hu : u ≠ .nil) : t ≠ .nil := by
  intro e; subst e
  cases u with
  | nil => exact hu rfl
  | node => cases h

theorem PutR.full {o v : Int} {new : Nat → Prop} {k : List Int} {t t' : T} (h : PutR o v new k t t') : t.Full → t'.Full := by
  induction h with
  | leaf k id hn => exact fun _ => full_none' _ _ _ _ _
  | here part id own val has leaf kid id' ho => exact fun hF => ⟨Or.inl rfl, hF.2⟩
  | up k part b id own val has leaf kid id0 id' val' has' h0 ho hne hh => exact fun hF => ⟨Or.inl hh, fun c => full_one (t := .node id' o part val has leaf kid) ⟨hF.1, hF.2⟩ c⟩
  | fork pre k part b c id own val has leaf kid id0 id' id2 val' has' h0 ho h2 n1 n2 n3 hbc =>
    intro hF
    refine ⟨Or.inr ⟨b, c, hbc, ?_, ?_⟩, fun e => full_upd (full_one (t := .node id' o part val has leaf kid) ⟨hF.1, hF.2⟩) (full_none' _ _ _ _ _) e⟩
    · rw [updT_other _ _ _ _ hbc, one, updT_same]; exact fun e => T.noConfusion e
    · rw [updT_same]; exact fun e => T.noConfusion e
  | tip k part c id own val has kid id0 id2 val' has' h0 h2 hne hh => exact fun hF => ⟨Or.inl hh, fun c => full_one (full_none' _ _ _ _ _) c⟩
  | same k part b id own val has leaf kid t1 hp he ih => exact fun hF => ⟨hF.1.imp (fun x => x) fun h => two_upd h fun hk => ptr_live he hk, full_upd hF.2 (ih (hF.2 b))⟩
  | set k part b id own val has leaf kid t1 id' hp ho hi ih => exact fun hF => ⟨hF.1.imp (fun x => x) fun h => two_upd h fun _ => hp.root.1, full_upd hF.2 (ih (hF.2 b))⟩

theorem DelR.full {o : Int} {new : Nat → Prop} {t t' : T} (h : DelR o new t t') : t.Full → t'.Full := by
  induction h with
  | gone t => exact fun _ => trivial
  | lift id own part val has leaf kid c id1 own1 part1 val1 has1 leaf1 kid1 id' hk ho =>
    intro hF
    have := hF.2 c
    rw [hk] at this
    exact this
  | own id own part val has leaf kid id' val' has' ho hh => exact fun hF => ⟨hh, hF.2⟩
  | leaf id own part val has leaf kid id' val' hn => exact fun hF => full_none' _ _ _ _ _
  | same b id own part val has leaf kid t1 hp he ih => exact fun hF => ⟨hF.1.imp (fun x => x) fun h => two_upd h fun hk => ptr_live he hk, full_upd hF.2 (ih (hF.2 b))⟩
  | set b id own part val has leaf kid t1 id' hp ho hi hh ih =>
    refine fun hF => ⟨?_, full_upd hF.2 (ih (hF.2 b))⟩
    rcases hh with h | h | h
    · exact hF.1.imp (fun x => x) fun k => two_upd k fun _ => h
    · exact Or.inl h
    · exact Or.inr h

end Go.Proofs.YtbihlmkjoplkoaaGreatDoor
/-
  What two trees share, plainly: a store of nodes; trees that it holds; how many nodes of the second stand in the first.
-/
namespace Go.Proofs.YtbihlmkjoplkoaaGreatDoor
set_option linter.unusedVariables false

/-- a node as memory has it -/
structure ND where
  own : Int
  part : List Int
  val : Int
  has : Bool
  leaf : Bool
  kid : Nat → Option Nat

abbrev Store := Nat → Option ND

/-- a tree lies in the store -/
def Rep (S : Store) : T → Prop
  | .nil => True
  | .node id own part val has leaf kid => S id = some ⟨own, part, val, has, leaf, fun b => (kid b).ptr⟩ ∧ ∀ b, Rep S (kid b)

theorem ptr_nil {t : T} (h : t.ptr = none) : t = .nil := by
  cases t with
  | nil => rfl
  | node => cases h

theorem Rep.uniq {S : Store} : ∀ {t u : T}, Rep S t → Rep S u → t.ptr = u.ptr → t = u
  | .nil, u, _, _, h => (ptr_nil h.symm).symm
  | .node id own part val has leaf kid, .nil, _, _, h => by cases h
  | .node id own part val has leaf kid, .node id' own' part' val' has' leaf' kid', ht, hu, h => by
    have e : id = id' := by simpa [T.ptr] using h
    subst e
    have e := ht.1.symm.trans hu.1
    simp only [Option.some.injEq, ND.mk.injEq] at e
    obtain ⟨rfl, rfl, rfl, rfl, rfl, hk⟩ := e
    have : kid = kid' := by
      funext b
      exact Rep.uniq (ht.2 b) (hu.2 b) (congrFun hk b)
    subst this
    rfl

theorem Rep.in {S : Store} : ∀ {t : T} {a : Nat}, Rep S t → t.In a → S a ≠ none
  | .nil, _, _, h => h.elim
  | .node id own part val has leaf kid, a, ht, h => by
    rcases h with rfl | ⟨b, hb⟩
    · rw [ht.1]; exact fun e => by cases e
    · exact Rep.in (ht.2 b) hb

theorem Rep.same {S S' : Store} : ∀ {t : T}, Rep S t → (∀ a, t.In a → S' a = S a) → Rep S' t
  | .nil, _, _ => trivial
  | .node id own part val has leaf kid, ht, h => ⟨(h id (Or.inl rfl)).trans ht.1, fun b => Rep.same (ht.2 b) (fun a ha => h a (Or.inr ⟨b, ha⟩))⟩

/-- leaves have no kids, kids stand by bytes, parts are bytes -/
def FitS (S : Store) : Prop := ∀ a d, S a = some d → (d.leaf = true → ∀ b, d.kid b = none) ∧ (∀ b, 256 ≤ b → d.kid b = none) ∧ ∀ x ∈ d.part, 0 ≤ x ∧ x < 256

theorem Rep.fit {S : Store} (hF : FitS S) : ∀ {t : T}, Rep S t → t.Fit
  | .nil, _ => trivial
  | .node id own part val has leaf kid, ht => ⟨fun hl b => ptr_nil ((hF _ _ ht.1).1 hl b), fun b hb => ptr_nil ((hF _ _ ht.1).2.1 b hb), fun b => Rep.fit hF (ht.2 b)⟩

/-- what shared tells: of two ends, by fuel -/
def sh : Nat → T → Nat → T → Nat → Nat
  | 0, _, _, _, _ => 0
  | _ + 1, .nil, _, _, _ => 0
  | _ + 1, .node .., _, .nil, _ => 0
  | f + 1, .node ia oa pa va ha la ka, ga, .node ib ob pb vb hb lb kb, gb =>
    if ia = ib ∧ ga = gb ∧ ga = 0 then (T.node ia oa pa va ha la ka).cnt (fun _ => true)
    else if com (pa.drop ga) (pb.drop gb) < (pa.drop ga).length then
      if com (pa.drop ga) (pb.drop gb) < (pb.drop gb).length then 0
      else sh f (.node ia oa pa va ha la ka) (ga + com (pa.drop ga) (pb.drop gb) + 1) (kb ((pa.drop ga).getD (com (pa.drop ga) (pb.drop gb)) 0).toNat) 0
    else if com (pa.drop ga) (pb.drop gb) < (pb.drop gb).length then
      sh f (ka ((pb.drop gb).getD (com (pa.drop ga) (pb.drop gb)) 0).toNat) 0 (.node ib ob pb vb hb lb kb) (gb + com (pa.drop ga) (pb.drop gb) + 1)
    else sumTo (fun c => sh f (ka c) 0 (kb c) 0) 256

theorem sh_nil_left (f g g' : Nat) (t : T) : sh f .nil g t g' = 0 := by cases f <;> rfl
theorem sh_nil_right (f g g' : Nat) (t : T) : sh f t g .nil g' = 0 := by cases f <;> cases t <;> rfl

theorem com_split : ∀ (xs ys : List Int), xs.take (com xs ys) = ys.take (com xs ys)
  | [], ys => by simp [com]
  | x :: xs, [] => by simp [com]
  | x :: xs, y :: ys => by
    simp only [com]
    split
    · rename_i e; subst e; simp [com_split xs ys]
    · rfl

/-- two lists that part at a place part for good -/
theorem com_part {xs ys : List Int} (h1 : com xs ys < xs.length) (h2 : com xs ys < ys.length) (u v : List Int) (e : xs ++ u = ys ++ v) : False := by
  refine com_diff xs ys h1 h2 ?_
  have h := congrArg (fun l : List Int => l.getD (com xs ys) 0) e
  simp only [List.getD_eq_getElem?_getD] at h ⊢
  rw [List.getElem?_append_left h1, List.getElem?_append_left h2] at h
  exact h

theorem list_at {xs : List Int} {i : Nat} (h : i < xs.length) : xs = xs.take i ++ xs.getD i 0 :: xs.drop (i + 1) := by
  rw [List.getD_eq_getElem?_getD, List.getElem?_eq_getElem h]
  simp

theorem take_cons (p u : List Int) (x : Int) : (p ++ x :: u).take (p.length + 1) = p ++ [x] := by
  rw [List.take_append, List.take_of_length_le (by omega), Nat.add_sub_cancel_left]; rfl

/-- where a node of the second tree that is not the owner's stands, the first tree has it -/
abbrev InFirst (o : Int) (ta : T) (ha : List Int) : List Int → Nat → Int → List Int → Prop := fun q id own _ => own = o ∨ ta.At ha q id

theorem T.All.imp_at {P Q : List Int → Nat → Int → List Int → Prop} : ∀ {t : T} {h : List Int}, t.All P h → (∀ q id own part, (∃ r, q = h ++ r) → P q id own part → Q q id own part) → t.All Q h
  | .nil, _, _, _ => trivial
  | .node id own part val has leaf kid, h, hA, hP =>
    ⟨hP _ _ _ _ ⟨[], by simp⟩ hA.1, fun b => T.All.imp_at (hA.2 b) fun q id' own' part' ⟨r, hr⟩ hp => hP _ _ _ _ ⟨part ++ [(b : Int)] ++ r, by rw [hr]; simp⟩ hp⟩

/-- an end stands so far -/
def End : T → Nat → List Int → List Int → Prop
  | .nil, _, _, _ => True
  | .node _ _ part _ _ _ _, g, h, W => g ≤ part.length ∧ h ++ part.take g = W

theorem at_kid {ia : Nat} {oa : Int} {pa : List Int} {va : Int} {ha' la : Bool} {ka : Nat → T} {ha Q W p q r : List Int} {ga c a : Nat} (hAt : (T.node ia oa pa va ha' la ka).At ha Q a) (hg : ga ≤ pa.length) (hW : ha ++ pa.take ga = W)
    (hp : pa.drop ga = p) (hQ : Q = W ++ q ++ (c : Int) :: r) : ∃ (d : Nat) (r' : List Int), (ka d).At (ha ++ pa ++ [(d : Int)]) Q a ∧ q ++ (c : Int) :: r = p ++ (d : Int) :: r' := by
  rcases hAt with ⟨h1, _⟩ | ⟨d, hd⟩
  · have h2 := congrArg List.length h1
    have h3 := congrArg List.length hQ
    have h4 := congrArg List.length hW
    simp at h2 h3 h4
    omega
  · obtain ⟨r', hr⟩ := T.At.starts hd
    refine ⟨d, r', hd, ?_⟩
    have e : ha ++ pa = W ++ p := by rw [← hW, ← hp, List.append_assoc, List.take_append_drop]
    rw [hQ, e] at hr
    have : W ++ (q ++ (c : Int) :: r) = W ++ (p ++ (d : Int) :: r') := by simpa using hr
    exact List.append_cancel_left this

theorem com_left {xs ys : List Int} (h : ¬ com xs ys < xs.length) : ∃ u, ys = xs ++ u ∧ com xs ys = xs.length := by
  have h1 := com_le_left xs ys
  have e : com xs ys = xs.length := by omega
  have h2 := com_split xs ys
  rw [e, List.take_length] at h2
  have h3 := (List.take_append_drop xs.length ys).symm
  rw [← h2] at h3
  exact ⟨ys.drop xs.length, h3, e⟩
theorem com_comm : ∀ (xs ys : List Int), com xs ys = com ys xs
  | [], [] => rfl
  | [], _ :: _ => by simp [com]
  | _ :: _, [] => by simp [com]
  | x :: xs, y :: ys => by
    simp only [com]
    by_cases e : x = y
    · rw [if_pos e, if_pos e.symm, com_comm xs ys]
    · rw [if_neg e, if_neg (fun h => e h.symm)]

theorem sh_law {S : Store} {o : Int} (hF : FitS S) : ∀ (f : Nat) (ta tb : T) (ga gb : Nat) (ha hb W : List Int),
    ta.cnt (fun _ => true) + tb.cnt (fun _ => true) ≤ f → Rep S ta → Rep S tb → ta.All (fun _ _ own _ => own ≠ o) ha → tb.All (InFirst o ta ha) hb →
    End ta ga ha W → End tb gb hb W → (ga = 0 ∨ gb = 0) → (0 < gb → tb.own = o) →
    sh f ta ga tb gb = tb.cnt (fun own => !(own == o))
  | f, ta, .nil, ga, gb, ha, hb, W, _, _, _, _, _, _, _, _, _ => by rw [sh_nil_right]; rfl
  | f, .nil, .node ib ob pb vb hb' lb kb, ga, gb, ha, hb, W, _, _, _, _, hB, _, _, _, _ => by
    rw [sh_nil_left]
    exact (cnt_none (P := InFirst o .nil ha) (fun h id own part k => by
      rcases k with rfl | k
      · simp
      · exact k.elim) _ _ hB).symm
  | 0, .node ia oa pa va ha' la ka, .node ib ob pb vb hb' lb kb, ga, gb, ha, hb, W, hc, _, _, _, _, _, _, _, _ => by
    have := cnt_pos ia oa pa va ha' la ka
    omega
  | f + 1, .node ia oa pa va ha' la ka, .node ib ob pb vb hb' lb kb, ga, gb, ha, hb, W, hc, ra, rb, hA, hB, ea, eb, h0, hown => by
    obtain ⟨hga, hWa⟩ := ea
    obtain ⟨hgb, hWb⟩ := eb
    have fa := ra.fit hF
    have fb := rb.fit hF
    have ba := (hF _ _ ra.1).2.2
    have bb := (hF _ _ rb.1).2.2
    simp only at ba bb
    simp only [sh]
    by_cases h1 : ia = ib ∧ ga = gb ∧ ga = 0
    · rw [if_pos h1]
      obtain ⟨rfl, _, _⟩ := h1
      have e := ra.uniq rb rfl
      rw [← e]
      exact (cnt_all (fun h id own part k => by
        have : (own == o) = false := by simpa using k
        rw [this]; rfl) _ _ hA).symm
    · rw [if_neg h1]
      obtain ⟨p, hp⟩ : ∃ p, pa.drop ga = p := ⟨_, rfl⟩
      obtain ⟨q, hq⟩ : ∃ q, pb.drop gb = q := ⟨_, rfl⟩
      have eb : hb ++ pb = W ++ q := by rw [← hWb, ← hq, List.append_assoc, List.take_append_drop]
      have ep : ha ++ pa = W ++ p := by rw [← hWa, ← hp, List.append_assoc, List.take_append_drop]
      have hroot : ob = o := by
        by_cases hg : 0 < gb
        · exact hown hg
        · obtain rfl : gb = 0 := by omega
          rcases hB.1 with h | ⟨h2, h3⟩ | ⟨d, hd⟩
          · exact h
          · have h4 := congrArg List.length h2
            have h5 := congrArg List.length hWa
            have h6 := congrArg List.length hWb
            simp at h4 h5 h6
            exact absurd ⟨h3.symm, by omega, by omega⟩ h1
          · obtain ⟨r, hr⟩ := T.At.starts hd
            have h4 := congrArg List.length hr
            have h5 := congrArg List.length hWa
            have h6 := congrArg List.length hWb
            simp at h4 h5 h6
            omega
      have hcnt : (T.node ib ob pb vb hb' lb kb).cnt (fun own => !(own == o)) = sumTo (fun b => (kb b).cnt fun own => !(own == o)) 256 := by
        simp only [T.cnt]; rw [hroot]; simp
      -- a kid whose nodes cannot stand in the first
      have hzero : ∀ c : Nat, (∀ (d : Nat) (r r' : List Int), q ++ (c : Int) :: r ≠ p ++ (d : Int) :: r') → (kb c).cnt (fun own => !(own == o)) = 0 := by
        intro c hno
        refine cnt_none (P := fun _ _ own _ => own = o) (fun h id own part k => by rw [k]; simp) _ (hb ++ pb ++ [(c : Int)]) ?_
        refine (hB.2 c).imp_at fun Q id own part ⟨r, hr⟩ hI => ?_
        rcases hI with h | h
        · exact h
        · obtain ⟨d, r', _, e⟩ := at_kid (q := q) (c := c) (r := r) h hga hWa hp (by rw [hr, eb]; simp)
          exact absurd e (hno d r r')
      rw [hp, hq]
      by_cases hs1 : com p q < p.length
      · rw [if_pos hs1]
        by_cases hs2 : com p q < q.length
        · rw [if_pos hs2, hcnt, sumTo_zero]
          intro c _
          exact hzero c fun d r r' e => com_part hs1 hs2 _ _ e.symm
        · rw [if_neg hs2]
          rw [com_comm] at hs2
          obtain ⟨u, hu, hlen⟩ := com_left hs2
          rw [com_comm] at hlen
          obtain ⟨x, u', rfl⟩ : ∃ x u', u = x :: u' := by
            cases u with
            | nil => have h5 := congrArg List.length hu; simp at h5; omega
            | cons x u' => exact ⟨x, u', rfl⟩
          have hx : p.getD (com p q) 0 = x := by rw [hlen, hu, List.getD_eq_getElem?_getD]; simp
          have hxb : 0 ≤ x ∧ x < 256 := ba x (by rw [← List.take_append_drop ga pa, hp, hu]; simp)
          rw [hx]
          obtain ⟨n, rfl⟩ := Int.eq_ofNat_of_zero_le hxb.1
          have hn : n < 256 := by omega
          simp only [Int.toNat_natCast]
          rw [hcnt, sumTo_only (b := n) 256 (fun c _ hcn => hzero c fun d r r' e => ?_) hn]
          · refine sh_law hF f _ (kb n) _ 0 ha (hb ++ pb ++ [(n : Int)]) (W ++ q ++ [(n : Int)]) ?_ ra (rb.2 n) hA (hB.2 n) ⟨?_, ?_⟩ ?_ (Or.inr rfl) (fun h => by omega)
            · have := cnt_kid ib ob pb vb hb' lb kb fb n; omega
            · have h5 : p.length = pa.length - ga := by rw [← hp]; simp
              omega
            · rw [hlen, ← hWa]
              have : pa.take (ga + q.length + 1) = pa.take ga ++ (q ++ [(n : Int)]) := by
                rw [Nat.add_assoc, List.take_add, hp, hu, take_cons]
              rw [this]; simp
            · cases hkb : kb n with
              | nil => trivial
              | node i2 o2 p2 v2 h2 l2 k2 => exact ⟨Nat.zero_le _, by rw [eb]; simp⟩
          · rw [hu, List.append_assoc] at e
            have e2 := List.append_cancel_left e
            simp at e2
            omega
      · rw [if_neg hs1]
        obtain ⟨u, hu, hlen⟩ := com_left hs1
        by_cases hs2 : com p q < q.length
        · rw [if_pos hs2]
          obtain ⟨x, u', rfl⟩ : ∃ x u', u = x :: u' := by
            cases u with
            | nil => have h5 := congrArg List.length hu; simp at h5; omega
            | cons x u' => exact ⟨x, u', rfl⟩
          have hx : q.getD (com p q) 0 = x := by rw [hlen, hu, List.getD_eq_getElem?_getD]; simp
          have hxb : 0 ≤ x ∧ x < 256 := bb x (by rw [← List.take_append_drop gb pb, hq, hu]; simp)
          rw [hx]
          obtain ⟨n, rfl⟩ := Int.eq_ofNat_of_zero_le hxb.1
          have hn : n < 256 := by omega
          simp only [Int.toNat_natCast]
          refine sh_law hF f (ka n) _ 0 _ (ha ++ pa ++ [(n : Int)]) hb (W ++ p ++ [(n : Int)]) ?_ (ra.2 n) rb (hA.2 n) ⟨Or.inl hroot, fun c => ?_⟩ ?_ ⟨?_, ?_⟩ (Or.inl rfl) (fun _ => hroot)
          · have := cnt_kid ia oa pa va ha' la ka fa n; omega
          · refine (hB.2 c).imp_at fun Q id own part ⟨r, hr⟩ hI => ?_
            rcases hI with h | h
            · exact Or.inl h
            · obtain ⟨d, r', hd, e⟩ := at_kid (q := q) (c := c) (r := r) h hga hWa hp (by rw [hr, eb]; simp)
              rw [hu, List.append_assoc] at e
              have e2 := List.append_cancel_left e
              simp at e2
              obtain rfl : n = d := by omega
              exact Or.inr hd
          · cases hka : ka n with
            | nil => trivial
            | node i2 o2 p2 v2 h2 l2 k2 => exact ⟨Nat.zero_le _, by rw [ep]; simp⟩
          · have h5 : q.length = pb.length - gb := by rw [← hq]; simp
            omega
          · rw [hlen, ← hWb]
            have : pb.take (gb + p.length + 1) = pb.take gb ++ (p ++ [(n : Int)]) := by
              rw [Nat.add_assoc, List.take_add, hq, hu, take_cons]
            rw [this]; simp
        · rw [if_neg hs2]
          obtain rfl : u = [] := by
            have h3 : com p q ≤ q.length := com_le_right p q
            have h4 : com p q = q.length := by omega
            have h5 := congrArg List.length hu
            simp at h5
            exact List.eq_nil_of_length_eq_zero (by omega)
          rw [List.append_nil] at hu
          subst hu
          rw [hcnt]
          refine sumTo_congr 256 fun c hc' => ?_
          refine sh_law hF f (ka c) (kb c) 0 0 (ha ++ pa ++ [(c : Int)]) (hb ++ pb ++ [(c : Int)]) (W ++ q ++ [(c : Int)]) ?_ (ra.2 c) (rb.2 c) (hA.2 c) ?_ ?_ ?_ (Or.inl rfl) (fun h => by omega)
          · have := cnt_kid ib ob pb vb hb' lb kb fb c
            have := cnt_kid ia oa pa va ha' la ka fa c; omega
          · refine (hB.2 c).imp_at fun Q id own part ⟨r, hr⟩ hI => ?_
            rcases hI with h | h
            · exact Or.inl h
            · obtain ⟨d, r', hd, e⟩ := at_kid (q := q) (c := c) (r := r) h hga hWa hp (by rw [hr, eb]; simp)
              have e2 := List.append_cancel_left e
              simp at e2
              obtain rfl : c = d := by omega
              exact Or.inr hd
          · cases hka : ka c with
            | nil => trivial
            | node i2 o2 p2 v2 h2 l2 k2 => exact ⟨Nat.zero_le _, by rw [ep]; simp⟩
          · cases hkb : kb c with
            | nil => trivial
            | node i2 o2 p2 v2 h2 l2 k2 => exact ⟨Nat.zero_le _, by rw [eb]; simp⟩

/-- the law: what is the owner's, and what both share, are all -/
theorem all_told {S : Store} {o : Int} (hF : FitS S) {ta tb : T} (ra : Rep S ta) (rb : Rep S tb) (hA : ta.All (fun _ _ own _ => own ≠ o) []) (hB : tb.All (InFirst o ta []) []) (f : Nat) (hf : ta.cnt (fun _ => true) + tb.cnt (fun _ => true) ≤ f) :
    tb.cnt (fun own => own == o) + sh f ta 0 tb 0 = tb.cnt (fun _ => true) := by
  rw [sh_law hF f ta tb 0 0 [] [] [] hf ra rb hA hB (by cases ta <;> simp [End]) (by cases tb <;> simp [End]) (Or.inl rfl) (fun h => by omega)]
  exact cnt_split (fun own => own == o) tb

end Go.Proofs.YtbihlmkjoplkoaaGreatDoor
