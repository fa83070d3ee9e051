/-
  The walk of the statement HandleOnce.
-/
import Derived.Test.YtenmgjmbiamhcaaLaw34
namespace Go.Proofs.Ytenmgjmbiamhcaa
open Go.RowKit
set_option linter.unusedVariables false

/-- what the walk knows between two steps -/
structure Onc (w wr : World) (base g bm rm last : Nat) (D : DataW Unit) (f : Int → Option Int) (n : Nat) (p : Option Addr) (m c : Nat) (ks : List Int) : Prop where
  tb : Tb wr g bm rm last D f n
  own : wr.ownsRow base 3 1 (.slice p m c) m (ks.map iv)
  lows : ∀ x ∈ ks, x ≤ (last : Int)
  below : Below w.heap.size w wr
  fits : base ≤ wr.heap.size
  gl : g < base
  bl : bm < base
  gw : w.heap.size ≤ g
  bw : w.heap.size ≤ bm

theorem Onc.step {w wr w' : World} {base g bm rm last n m c : Nat} {D : DataW Unit} {f : Int → Option Int} {p : Option Addr} {ks : List Int} (h : Onc w wr base g bm rm last D f n p m c ks) (k : Below wr.heap.size wr w') : Onc w w' base g bm rm last D f n p m c ks :=
  ⟨h.tb.step k, own_exc h.own (exc_below k []) (fun _ _ hm => by cases hm), h.lows, Below.step h.below k, Nat.le_trans h.fits k.size, h.gl, h.bl, h.gw, h.bw⟩
theorem Onc.drewN {w wr : World} {base g bm rm last n m c : Nat} {D : DataW Unit} {f : Int → Option Int} {p : Option Addr} {ks : List Int} (h : Onc w wr base g bm rm last D f n p m c ks) (z : Nat) : Onc w (wr.drewN z) base g bm rm last D f n p m c ks :=
  ⟨h.tb.drewN z, own_block h.own (fun _ _ => rfl), h.lows, below_drewN h.below z, h.fits, h.gl, h.bl, h.gw, h.bw⟩
theorem Onc.turn {w wr w' : World} {base g bm rm last last' n n' m c : Nat} {D D' : DataW Unit} {f f' : Int → Option Int} {p : Option Addr} {ks : List Int} (h : Onc w wr base g bm rm last D f n p m c ks) (ht : Tb w' g bm rm last' D' f' n') (hX : Exc [g, bm] wr w') (hl : last ≤ last') :
    Onc w w' base g bm rm last' D' f' n' p m c ks := by
  have h1 := h.gl
  have h2 := h.bl
  have h3 := h.gw
  have h4 := h.bw
  refine ⟨ht, own_exc' h.own hX (fun x hx => ?_), fun x hx => ?_, hX.below h.below (fun x hx => ?_) h.below.size, Nat.le_trans h.fits hX.size, h1, h2, h3, h4⟩
  · simp at hx; omega
  · have := h.lows x hx; omega
  · simp at hx; omega

theorem wpList_append_int2 {w0 : World} {ops : Array Oper} {rest : List Oper} {o : Oper} {a : Act} {Q : Exit → Act → World → Prop} (hgd : o.guard = none) (s x : Operand)
    (ho : o.op = .call { callee := .builtin .append, args := #[s, x], argTypes := #[28, 28] })
    (b : Int) (base : Nat) (p : Option Addr) (k cap : Nat) (l : List Int) (hs : a.eval s = .slice p k cap) (hx : a.eval x = .slice (some ⟨w0.heap.size, 0, none⟩) 1 1)
    (hown : w0.ownsRow base 3 1 (.slice p k cap) k (l.map iv)) (hk : k ≤ 4096) (hbase : base ≤ w0.heap.size)
    (h : ∀ p' cap' w', w'.ownsRow base 3 1 (.slice p' (k + 1) cap') (k + 1) ((l ++ [b]).map iv) → Below base w0 w' → (∀ i, i < w0.heap.size → (Value.slice p k cap).ownBlock ≠ some i → w'.heap[i]? = w0.heap[i]?) →
      wpList Try.prog ops Q rest (a.put o.dst (.slice p' (k + 1) cap')) w') : wpList Try.prog ops Q (o :: rest) a (w0.alloc (.cells #[.int .i64 b] 3)) := by
  obtain ⟨i0, hi, hz0, hz1, hz2⟩ := info_parts info3
  have hownA : (w0.alloc (.cells #[.int .i64 b] 3)).ownsRow base 3 1 (.slice p k cap) k (l.map iv) := hown.alloc _
  refine wpList_append_lies _ hgd s x 28 ho base 3 i0 (.int .i64 0) 1 8 Try.underlying28 hi hz0 hz1 hz2 rfl (by decide) _ k _ hs hownA ⟨w0.heap.size, 0, none⟩ 1 1 [.int .i64 b] hx rfl (World.news_of_block (heap_alloc_new w0 _)) (by intro z hz; rcases List.mem_cons.1 hz with rfl | hz; rfl; cases hz) (by decide) (by unfold maxLen; omega) (by omega) (by rw [World.size_alloc]; omega) _ rfl ?_
  intro bx cap2 w2 hown2 hgrow _ _
  refine h _ _ w2 ?_ ?_ ?_
  · rw [List.map_append]; exact hown2
  · exact ((Below.refl base w0).alloc (o := .cells #[.int .i64 b] 3) hbase).grown hgrow (by rw [World.size_alloc]; omega) (fun k hk => (own_lt hownA k hk).1)
  · intro i hi hne
    rw [hgrow.block i (by rw [World.size_alloc]; omega) (fun e => hne e.symm), Below.heap_alloc _ _ _ hi]

theorem Onc.grew {w wr w' : World} {base g bm rm last n m c m' c' : Nat} {D : DataW Unit} {f : Int → Option Int} {p p' : Option Addr} {ks ks' : List Int} (h : Onc w wr base g bm rm last D f n p m c ks) (k : Below base wr w') (ho : w'.ownsRow base 3 1 (.slice p' m' c') m' (ks'.map iv)) (hl : ∀ x ∈ ks', x ≤ (last : Int)) (hbw : w.heap.size ≤ base) :
    Onc w w' base g bm rm last D f n p' m' c' ks' := by
  have h1 := h.gl
  have h2 := h.bl
  refine ⟨⟨(k.block g h1).trans h.tb.row, h.tb.map.same (k.block bm h2), h.tb.ne, h.tb.room1, h.tb.room2, h.tb.le, h.tb.low⟩, ho, hl, h.below.trans (k.mono hbw), Nat.le_trans h.fits k.size, h1, h2, h.gw, h.bw⟩

theorem own_int {w : World} {base : Nat} {p : Option Addr} {n cap : Nat} {l : List Int} (h : w.ownsRow base 3 1 (.slice p n cap) n (l.map iv)) (i : Nat) (b : Int) (hb : l[i]? = some b) :
    ∃ blk, p = some ⟨blk, 0, none⟩ ∧ i < n ∧ n ≤ cap ∧ w.cell? ⟨blk, i, none⟩ = some (.int .i64 b) := by
  have hl := h.1
  have hi := (List.getElem?_eq_some_iff.1 hb).1
  rw [List.length_map] at hl
  rcases h.2 with ⟨e, e2⟩ | ⟨g, cap', cur, e, _, _, hc, _⟩
  · omega
  · cases e
    refine ⟨g, rfl, by omega, hc, ?_⟩
    rw [h.cellAt i (by omega), List.getElem?_map, hb]
    rfl

set_option maxRecDepth 100000 in
set_option maxHeartbeats 6400000 in
theorem once_walk (r : Nat) (p : Option Addr) (n c : Nat) (w : World) (ss : List Stp3) (hr : r < 256) (w0 : RawS3 w p n c ss) :
    Calls Try.prog 4 #[.int .u8 r, .slice p n c] w fun e w' => e = .returned (.bool true) ∧ Below w.heap.size w w' := by
  have hcap := w0.cap
  have hbig := w0.big
  have HRS := Lib.hid w0
  have hnot : ∀ (x : Bool) (w : World), (Op.unary .not (.bool x)).run Try.prog w = .ok (.bool (!x)) w := fun _ _ => rfl
  clear w0
  obtain ⟨k1, hk1, hk1n, hk1b⟩ : ∃ k1 : Nat, (if (80 : Int) < (n : Int) then (80 : Int) else (n : Int)) = (k1 : Int) ∧ k1 ≤ n ∧ k1 ≤ 80 := by
    by_cases h : n ≤ 80
    · exact ⟨n, by rw [if_neg (by omega)], by omega, h⟩
    · exact ⟨80, by rw [if_pos (by omega)]; rfl, by omega, by omega⟩
  have HK1 := Lib.hid hk1
  clear hk1
  obtain ⟨rm, hrm⟩ : ∃ rm, rm = r + 1 := ⟨_, rfl⟩
  have q0 : IntKind.i64.wrap (r : Int) = (r : Int) := IntWalk.i64_in _ (by omega)
  have q1 : IntKind.i64.wrap ((r : Int) + 1) = (rm : Int) := by rw [IntWalk.i64_in _ (by omega)]; omega
  have hrm2 : 1 ≤ rm ∧ rm ≤ 256 := by omega
  clear hrm
  go_enter Try.func4, Try.ntmps4
  go_wp2_with fail
  refine (new6_yes rm w ⟨by omega, by omega⟩).mono ?_
  rintro e W0 ⟨rfl, hT, hB⟩
  obtain ⟨g, hg⟩ : ∃ g, g = w.heap.size + 1 := ⟨_, rfl⟩
  obtain ⟨bm, hbm⟩ : ∃ bm, bm = w.heap.size := ⟨_, rfl⟩
  have HO0 : Hid (Onc w W0 W0.heap.size g bm rm 0 (.map []) (fun _ => none) 0 none 0 0 []) := by
    have hgl := hT.lt
    have hbl := hT.map.own.lt
    exact ⟨by rw [hg, hbm]; exact hT, World.ownsRow_nil _ _ _ _, by simp, hB, Nat.le_refl _, by omega, by omega, by omega, by omega⟩
  rw [← hg]
  clear hT hB hg hbm
  go_wp2_with (refine wpList_min rfl _ _ 3 (by rfl) n 80 k1 (by rfl) (by rfl) HK1.out ?_; refine stop ?_)
  refine unhid ?_
  have hmz : (0 : Int) ≤ (k1 : Int) := by omega
  have hmc : (k1 : Int) ≤ (c : Int) := by omega
  go_wp2_with fail
  go_loopw [7, 39] (fun u t wr => ∃ (k last : Nat) (D : DataW Unit) (f : Int → Option Int) (nn : Nat) (pg : Option Addr) (m cg : Nat) (ks : List Int), u = .slice pg m cg ∧ t = .int .i64 k ∧ k ≤ k1 ∧ last ≤ k ∧ m ≤ k ∧ Hid (Onc w wr W0.heap.size g bm rm last D f nn pg m cg ks)) (fun _ t _ => k1 - (intOf t).toNat)
  case atStart => exact ⟨0, 0, _, _, _, _, _, _, _, rfl, rfl, by omega, by omega, by omega, HO0⟩
  case round =>
    clear HO0
    obtain ⟨k, last, D, f, nn, pg, m, cg, ks, rfl, rfl, hk, hlk, hmk, hinv⟩ := hrel
    by_cases hlt : k < k1
    · obtain ⟨bs, o, rfl, hc⟩ := HRS.out.cells (by omega)
      obtain ⟨⟨sd, sh, sx⟩, hst⟩ : ∃ s, ss[k]? = some s := ⟨ss[k]'(by rw [HRS.out.len]; omega), List.getElem?_eq_getElem (by rw [HRS.out.len]; omega)⟩
      obtain ⟨g0', g1, g2⟩ := hc k _ hst
      obtain ⟨sm1, smh, _⟩ := HRS.out.small _ (List.mem_of_getElem? hst)
      simp only at g0' g1 g2 sm1 smh
      have hbl : bs < w.heap.size := block_lt_of_cell g0'
      rw [← hinv.out.below.cell (p := ⟨bs, _, none⟩) hbl] at g0' g1 g2
      have d0 : decide ((k : Int) < (k1 : Int)) = true := by simp; omega
      have SMH := Lib.hid smh
      obtain ⟨b8, hb8⟩ : ∃ b8, b8 = wr.heap.size := ⟨_, rfl⟩
      obtain ⟨W2, hW2⟩ : ∃ W2, W2 = wr.alloc (.cells #[.int .u8 sd, .int .i64 sh, .int .i64 sx] 35) := ⟨_, rfl⟩
      have I2 : Hid (Onc w W2 W0.heap.size g bm rm last D f nn pg m cg ks) := by show Onc _ _ _ _ _ _ _ _ _ _ _ _ _ _; rw [hW2]; exact hinv.out.step ((Below.refl _ _).alloc (Nat.le_refl _) _)
      have c0 : W2.cell? ⟨b8, 0, none⟩ = some (.int .u8 sd) := by rw [hW2, hb8]; exact (Var.new rfl rfl).cell
      have c1 : W2.cell? ⟨b8, 1, none⟩ = some (.int .i64 sh) := by rw [hW2, hb8]; exact (Var.new rfl rfl).cell
      have c2 : W2.cell? ⟨b8, 2, none⟩ = some (.int .i64 sx) := by rw [hW2, hb8]; exact (Var.new rfl rfl).cell
      have hb8l : W0.heap.size ≤ b8 := by have := hinv.out.fits; omega
      have hb8w : b8 < W2.heap.size := block_lt_of_cell c0
      have HB8L : Hid (W0.heap.size ≤ b8) := hb8l
      have HB8W : Hid (b8 < W2.heap.size) := hb8w
      have HNB : Hid (∀ q, (Value.slice pg m cg).ownBlock = some q → q ≠ b8) := fun q hq e => by have := (own_lt hinv.out.own q hq).2; omega
      have HWB : Hid (w.heap.size ≤ W0.heap.size) := by show _ ≤ _; have := hinv.out.gw; have := hinv.out.gl; omega
      have HW2 := Lib.hid hW2
      have HB8 := Lib.hid hb8
      clear hc hst hW2 hinv hb8 hb8l hb8w smh
      have hc8 : ∀ j v w', W2.cell? ⟨b8, j, none⟩ = some v → Exc [g, bm] W2 w' → w'.cell? ⟨b8, j, none⟩ = some v := fun j v w' h1 h2 => h2.cell h1 (fun hm => by have := I2.out.gl; have := I2.out.bl; have := HB8L.out; simp at hm; omega)
      have HC8 := Lib.hid hc8
      clear hc8
      by_cases hev : (sd : Int) % 2 = 0
      · have e0 : ((sd : Int) % 2 == 0) = true := by simp [hev]
        clear hev
        go_wp2_with (rw [← HW2.out, ← HB8.out])
        refine (drop11 I2.out.tb sh SMH.out).mono ?_
        rintro e w3 ⟨v, D', n', rfl, hv, hT, hX⟩
        clear hv
        have hX' : Exc [g, bm] W2 w3 := hX.wide (fun x hx => by simp at hx; subst hx; simp)
        have k1' := HC8.out 1 _ w3 c1 hX'
        have I3 := Lib.hid (I2.out.turn hT hX' (Nat.le_refl _))
        clear hT hX hX' c0 c1 c2
        go_wp2_with fail
        refine (get16_none I3.out.tb sh SMH.out (updI_at _ _ _)).mono ?_
        rintro e w4 ⟨rfl, hB4⟩
        have I4 := Lib.hid (I3.out.step hB4)
        clear hB4 k1'
        go_wp2_with fail
        go_roundw
        case rel => exact ⟨k + 1, last, _, _, _, _, _, _, _, rfl, by go_num, by omega, by omega, by omega, I4⟩
        case measure => simp [intOf]; omega
      · have e0 : ((sd : Int) % 2 == 0) = false := by simp [hev]
        clear hev
        by_cases hfull : nn = rm
        · subst hfull
          go_wp2_with (rw [← HW2.out, ← HB8.out])
          refine (add13_full I2.out.tb sx).mono ?_
          rintro e w3 ⟨rfl, z, hw3⟩
          have I3 : Hid (Onc w w3 W0.heap.size g bm nn last D f nn pg m cg ks) := by show Onc _ _ _ _ _ _ _ _ _ _ _ _ _ _; rw [hw3]; exact I2.out.drewN z
          clear hw3 c0 c1 c2
          go_wp2_with fail
          go_roundw
          case rel => exact ⟨k + 1, last, _, _, _, _, _, _, _, rfl, by go_num, by omega, by omega, by omega, I3⟩
          case measure => simp [intOf]; omega
        · have hnl : nn < rm := by have := I2.out.tb.le; omega
          clear hfull
          go_wp2_with (rw [← HW2.out, ← HB8.out])
          refine (add13_yes I2.out.tb sx hnl (by omega)).mono ?_
          rintro e w3 ⟨rfl, ⟨D', hT⟩, hX⟩
          have I3 := Lib.hid (I2.out.turn hT hX (by omega))
          have k2' := HC8.out 2 _ w3 c2 hX
          have hb8w3 : Hid (b8 < w3.heap.size) := block_lt_of_cell k2'
          clear hT hX c0 c1 c2 hnl
          have HLOW : Hid (∀ x ∈ ks, x ≤ (last : Int)) := I2.out.lows
          have hown := I3.out.own
          have hmk3 := hown.1
          rw [List.length_map] at hmk3
          have HOWN := Lib.hid hown
          have HMK := Lib.hid hmk3
          have ql : IntKind.i64.wrap ((last : Int) + 1 + 1) = (last : Int) + 2 := by rw [IntWalk.i64_in _ (by omega)]; omega
          clear hown hmk3
          go_wp2_with fail
          go_loop [71] (fun t => ∃ j : Nat, t = .int .i64 j ∧ j ≤ m) (fun t => m - (intOf t).toNat)
          case atStart => exact ⟨0, rfl, by omega⟩
          case round =>
            obtain ⟨j, rfl, hj⟩ := hrel
            by_cases hlj : j < m
            · obtain ⟨x, hx⟩ : ∃ x, ks[j]? = some x := ⟨ks[j]'(by have := HMK.out; omega), List.getElem?_eq_getElem (by have := HMK.out; omega)⟩
              obtain ⟨blk, hpg, _, hmcg, cj⟩ := own_int HOWN.out j x hx
              subst hpg
              have hxl := HLOW.out x (List.mem_of_getElem? hx)
              have dj : decide ((j : Int) < (m : Int)) = true := by simp; omega
              have b0 : (0 : Int) ≤ (j : Int) := by omega
              have b1 : (j : Int) < (m : Int) := by omega
              have dx : decide ((last : Int) + 1 ≤ x) = false := by simp; omega
              clear hx hxl
              go_wp2_with fail
              go_round
              case rel => exact ⟨j + 1, by go_num, by omega⟩
              case measure => simp [intOf]; omega
            · obtain rfl : j = m := by omega
              have dj : decide ((j : Int) < (j : Int)) = false := by simp
              go_wp2_with (at_builtin; refine stop ?_)
              refine unhid ?_
              refine wpList_append_int2 rfl _ _ (by rfl) ((last : Int) + 1) W0.heap.size pg j cg ks (by rfl) (by rfl) HOWN.out (by omega) I3.out.fits ?_
              intro pg2 cg2 w4 hO4 hB4 hkeep
              have k4 : w4.cell? ⟨b8, 2, none⟩ = some (.int .i64 sx) := by
                rw [World.cell?_of_block (w := w3) (hkeep b8 hb8w3.out (fun e => HNB.out b8 e rfl))]; exact k2'
              have I4 := Lib.hid (I3.out.grew hB4 hO4 (fun x hx => by
                rcases List.mem_append.1 hx with h | h
                · have := HLOW.out x h; push_cast; omega
                · simp at h; rw [h]; push_cast; omega) HWB.out)
              have hb8w4 : b8 < w4.heap.size := block_lt_of_cell k4
              clear hO4 hB4 hkeep k2'
              go_wp2_with fail
              refine (get16_some I4.out.tb ((last : Int) + 1) sx ⟨by omega, by omega⟩ (updI_at _ _ _)).mono ?_
              rintro e w5 ⟨rfl, hB5⟩
              have I5 := Lib.hid (I4.out.step hB5)
              have k5 : w5.cell? ⟨b8, 2, none⟩ = some (.int .i64 sx) := (hB5.cell (p := ⟨b8, 2, none⟩) hb8w4).trans k4
              have hx0 : (sx != sx) = false := by simp
              clear hB5 k4
              go_wp2_with fail
              refine (last17 I5.out.tb).mono ?_
              rintro e w' ⟨rfl, hw'⟩
              rw [hw']; clear hw' w'
              have hl0 : (((last + 1 : Nat) : Int) != (last : Int) + 1) = false := by simp
              go_wp2_with fail
              refine (get16_none I5.out.tb ((last : Int) + 2) ⟨by omega, by omega⟩ (by
                cases hq : updI f ((last : Int) + 1) (some sx) ((last : Int) + 2) with
                | none => rfl
                | some y => have := (I5.out.tb.low ((last : Int) + 2) (by rw [hq]; rfl)).2; push_cast at this; omega)).mono ?_
              rintro e w6 ⟨rfl, hB6⟩
              have I6 := Lib.hid (I5.out.step hB6)
              clear hB6 k5
              go_wp2_with fail
              go_roundw
              case rel => exact ⟨k + 1, last + 1, _, _, _, _, _, _, _, rfl, by go_num, by omega, by omega, by omega, I6⟩
              case measure => simp [intOf]; omega
    · obtain rfl : k = k1 := by omega
      have d0 : decide ((k : Int) < (k : Int)) = false := by simp
      have hle := hinv.out.tb.le
      have qs : IntKind.i64.wrap ((nn : Int) + ((rm : Int) - (nn : Int))) = (rm : Int) := by rw [IntWalk.i64_in _ (by omega)]; omega
      have r1 : ((rm : Int) == (rm : Int)) = true := by simp
      have r2 : ((nn : Int) == (nn : Int)) = true := by simp
      go_wp2_with fail
      refine (len18 hinv.out.tb).mono ?_
      rintro e w' ⟨rfl, hw'⟩
      rw [hw']; clear hw' w'
      go_wp2_with fail
      refine (free19 hinv.out.tb).mono ?_
      rintro e w3 ⟨rfl, z, hw3⟩
      have I3 : Hid (Onc w w3 W0.heap.size g bm rm last D f nn pg m cg ks) := by show Onc _ _ _ _ _ _ _ _ _ _ _ _ _ _; rw [hw3]; exact hinv.out.drewN z
      clear hw3
      go_wp2_with fail
      refine (handles20 I3.out.tb).mono ?_
      rintro e w4 ⟨p4, c4, ks4, rfl, _, _, _, _, _, hB4⟩
      have I4 := Lib.hid (I3.out.step hB4)
      clear hB4
      go_wp2_with fail
      refine (len18 I4.out.tb).mono ?_
      rintro e w' ⟨rfl, hw'⟩
      rw [hw']; clear hw' w'
      go_wp2_with fail
      refine (alive8 _).mono ?_; rintro e w' ⟨rfl, hbel⟩
      have HX := Lib.hid (Below.step I4.out.below hbel)
      clear hbel
      go_wp2_with fail
      go_ret
      exact ⟨rfl, HX.out⟩

theorem walkHandleOnce (r : Int) (p : Option Addr) (n c : Nat) (w : World) (e0 : (Lit.int .u8 r).wf = true) (w0 : ∃ ss, RawS3 w p n c ss) :
    Calls Try.prog 4 #[.int .u8 r, .slice p n c] w fun e w' => e = .returned (.bool true) ∧ Below w.heap.size w w' := by
  obtain ⟨ss, h1⟩ := w0
  simp [Lit.wf, IntKind.min, IntKind.max, IntKind.signed, IntKind.bits] at e0
  obtain ⟨rn, rfl⟩ := Int.eq_ofNat_of_zero_le (show 0 ≤ r by omega)
  exact once_walk rn p n c w ss (by omega) h1

end Go.Proofs.Ytenmgjmbiamhcaa
