/-
  The table: the walk of Handles.
-/
import Derived.Test.YtenmgjmbiamhcaaTab5
namespace Go.Proofs.Ytenmgjmbiamhcaa
open Go.RowKit Go.Sort Go.Maps
set_option linter.unusedVariables false

theorem exc_iter {w w' : World} {r : Nat} (h : w.grownBy w' (some r)) : Exc [r] w w' :=
  ⟨h.os, h.tape, h.output, h.size, fun k hk hS => h.block k hk (fun e => hS (by simpa using e))⟩

theorem own_exc' {w w' : World} {S : List Nat} {base : Nat} {e : TypeId} {size : Nat} {v : Value} {n : Nat} {xs : List Value} (h : w.ownsRow base e size v n xs) (k : Exc S w w') (hS : ∀ x ∈ S, x < base) : w'.ownsRow base e size v n xs :=
  own_exc h k (fun g hg hm => by have := (own_lt h g hg).1; have := hS g hm; omega)

theorem ranges_same {w w' : World} {b r n : Nat} {D : DataW Unit} {left : Lit → Bool} {cnt : Nat} (h : w.ranges Try.prog 3 entE b r n D left cnt) (e1 : w'.heap[b]? = w.heap[b]?) (e2 : w'.heap[r]? = w.heap[r]?) : w'.ranges Try.prog 3 entE b r n D left cnt := by
  obtain ⟨es, clock, since, seen, c0, hb, F, hs, hD, hr, rest⟩ := h
  exact ⟨es, clock, since, seen, c0, e1.trans hb, F, hs, hD, e2.trans hr, rest⟩

theorem sortedI (ks : List Int) : (ks.mergeSort fun x y => decide (x ≤ y)).Pairwise (fun a b => a ≤ b) := by
  have h := List.pairwise_mergeSort (le := fun x y : Int => decide (x ≤ y)) (fun a b c h1 h2 => by simp at *; omega) (fun a b => by simp; omega) ks
  exact h.imp (fun hh => by simpa using hh)

set_option maxRecDepth 100000 in
set_option maxHeartbeats 3200000 in
theorem handles20 {w : World} {g bm room last n : Nat} {D : DataW Unit} {f : Int → Option Int} (h : Tb w g bm room last D f n) :
    Calls Try.prog 20 #[.pointer (some ⟨g, 0, none⟩)] w (HOut w f n) := by
  have H := Lib.hid (ok23 g room w h.c0 (by have := h.room1; omega))
  have HT := Lib.hid h
  have hnot : ∀ (x : Bool) (w : World), (Op.unary .not (.bool x)).run Try.prog w = .ok (.bool (!x)) w := fun _ _ => rfl
  have c2 := h.c2
  have r2 := h.room2
  have hle := h.le
  have HSZ := Lib.hid h.map.size
  clear h
  go_enter Try.func20, Try.ntmps20
  go_wp2_with fail
  refine H.out.mono ?_; rintro e w' ⟨rfl, hw'⟩
  rw [hw']; clear hw' w'
  go_wp2_with (at_range; refine stop ?_)
  refine unhid ?_
  refine wpList_range_own _ rfl _ 49 rfl 3 55 keyed3 Try.underlying49 entE bm n D rfl HT.out.map.own ?_
  intro w1 hrg hgr hsz
  have HRG : Hid (w1.ranges Try.prog 3 entE bm w.heap.size n D (Maps.has D) n) := by
    show World.ranges _ _ _ _ _ _ _ _ _ _
    rw [HSZ.out] at hrg; exact hrg
  have HB1 : Hid (Below w.heap.size w w1) := ⟨hgr.os, hgr.tape, hgr.output, hgr.size, fun k hk => hgr.block k hk (by simp)⟩
  have HS1 : Hid (w.heap.size + 1 ≤ w1.heap.size) := by show _ ≤ _; omega
  obtain ⟨r, hr⟩ : ∃ r, r = w.heap.size := ⟨_, rfl⟩
  have HR := Lib.hid hr
  rw [← hr] at HRG ⊢
  clear hrg hgr hsz hr
  go_frame
  go_wp2_with fail
  go_loopw [3] (fun u wr => ∃ (ks : List Int) (p : Option Addr) (m c cnt : Nat) (left : Lit → Bool), u = .slice p m c ∧ m + cnt ≤ n ∧ Hid (wr.ownsRow (w.heap.size + 1) 3 1 (.slice p m c) m (ks.map iv)) ∧ Hid (wr.ranges Try.prog 3 entE bm r n D left cnt) ∧ Hid (Coll D left ks) ∧ Hid (Below w.heap.size w wr) ∧ Hid (w.heap.size + 1 ≤ wr.heap.size)) (fun _ wr => wr.rangeLeft bm r)
  case atStart => exact ⟨[], none, 0, 0, n, _, rfl, by omega, World.ownsRow_nil _ _ _ _, HRG, Coll.start D, HB1, HS1⟩
  case round =>
    clear HRG HB1 HS1
    obtain ⟨ks, p, m, c, cnt, left, rfl, hmc, HOW, HRG, HC, HB, HS⟩ := hrel
    go_wp2_with (at_next; refine stop ?_)
    refine unhid ?_
    refine wpList_next_ranges _ rfl _ rfl 3 keyed3 entE (Value.int .i64) (fun x : Int => .agg #[.int .i64 x]) (fun key kl hk => by obtain ⟨x, hx, _⟩ := Maps.keyOf_int_inv Try.underlying3 hk; exact ⟨x, hx⟩) (fun v y hv => by obtain ⟨x, hx, _⟩ := entE_inv hv; exact ⟨x, hx⟩) bm r n D left cnt rfl HRG.out ?_ ?_
    · intro hc0 hl0
      subst hc0
      have hlen := HC.out.len HT.out.map.own hl0
      rw [HSZ.out] at hlen
      have hol := HOW.out.1
      rw [List.length_map] at hol
      obtain rfl : m = n := by omega
      have hmem : ∀ x, x ∈ ks ↔ (f x).isSome = true := fun x => by rw [HC.out.mem x, hl0, HT.out.map.has x]; simp
      have HM := Lib.hid hmem
      have HLEN := Lib.hid hlen
      clear hl0 hlen hol hmem
      go_wp2_with fail
      by_cases h0 : m = 0
      · subst h0
        refine (Try.slices_Sort_int_none p c wr).mono ?_
        rintro e w' ⟨rfl, hw'⟩
        rw [hw']; clear hw' w'
        go_wp2_with fail
        go_returns
        have hks : ks = [] := List.eq_nil_of_length_eq_zero HLEN.out
        exact ⟨p, c, ks, rfl, HLEN.out, HOW.out, by rw [hks]; exact List.Pairwise.nil, HC.out.nodup, HM.out, HB.out⟩
      · rcases HOW.out.2 with ⟨e1, _⟩ | ⟨g2, cap, cur, e1, hbase, hb, h1, h2, h3, h4⟩
        · cases e1; omega
        · cases e1
          have hH : Holds (Value.int .i64) wr g2 0 ks.toArray := holds_ints hb (by rw [HLEN.out]; simpa using h4)
          have hg2 : g2 < wr.heap.size := (Array.getElem?_eq_some_iff.1 hb).1
          have hsort := Try.slices_Sort_int g2 0 c ks wr hH hg2 (by rw [HLEN.out]; omega)
          rw [HLEN.out] at hsort
          refine hsort.mono ?_
          rintro e w' ⟨rfl, nn, os, hw'⟩
          have hperm := List.mergeSort_perm ks (fun x y => decide (x ≤ y))
          obtain ⟨ts, hts⟩ : ∃ ts, ts = ks.mergeSort fun x y => decide (x ≤ y) := ⟨_, rfl⟩
          rw [← hts] at hw' hperm
          have hl2 : ts.length = ks.length := hperm.length_eq
          have hsr : ts.Pairwise (fun a b => a ≤ b) := by rw [hts]; exact sortedI ks
          have ho2 := own_sortedI (w := wr) (n := nn) (os := os) (ts := ts) hl2 hbase hb (by rw [HLEN.out]; exact h1) h2 (by simpa using h3)
          have hx2 := exc_sortedI (w := wr) (g := g2) (n := nn) (os := os) ts.toArray
          rw [← hw', HLEN.out] at ho2
          rw [← hw'] at hx2
          have HO2 := Lib.hid ho2
          have HB2 : Hid (Below w.heap.size w w') := hx2.below HB.out (fun x hx => by simp at hx; omega) HB.out.size
          have HP := Lib.hid hperm
          have HL2 := Lib.hid hl2
          have HSR := Lib.hid hsr
          clear hw' hts ho2 hx2 hH hg2 hsort hb h1 h2 h3 h4 hperm hl2 hsr
          go_wp2_with fail
          go_returns
          exact ⟨_, _, ts, rfl, HL2.out.trans HLEN.out, HO2.out, HSR.out, HP.out.nodup_iff.2 HC.out.nodup, fun x => (HP.out.mem_iff).trans (HM.out x), HB2.out⟩
    · intro x c1 kl y w2 cnt2 hkey hlk hv hat hrg2 hlt hg2 hs2 hen
      obtain ⟨x', ex, rfl, _⟩ := Maps.keyOf_int_inv Try.underlying3 hkey
      cases ex
      have HC2 := Lib.hid (HC.out.step hlk hat)
      have HRG2 := Lib.hid hrg2
      have HO2 : Hid (w2.ownsRow (w.heap.size + 1) 3 1 (.slice p m c) m (ks.map iv)) := own_exc' HOW.out (exc_iter hg2) (fun x hx => by simp at hx; have := HR.out; omega)
      have HB2 : Hid (Below w.heap.size w w2) := (exc_iter hg2).below HB.out (fun x hx => by simp at hx; have := HR.out; omega) HB.out.size
      have HS2 : Hid (w.heap.size + 1 ≤ w2.heap.size) := by show _ ≤ _; have := HS.out; omega
      have HLE := Lib.hid HRG.out.left_eq
      clear hrg2 hg2 hs2 hlk hat hv hkey HRG HOW HB HS HC
      go_wp2_with (at_builtin; refine stop ?_)
      refine unhid ?_
      refine wpList_append_int rfl _ _ (by rfl) x (w.heap.size + 1) p m c ks (by rfl) (by rfl) HO2.out (by omega) HS2.out ?_
      intro p3 c3 w3 hO3 hB3
      have hbm : bm < w.heap.size + 1 := by have := HT.out.map.own.lt; omega
      have HRG3 : Hid (w3.ranges Try.prog 3 entE bm r n D (fun z => left z && !z.sameKey (.int .i64 x)) cnt2) := ranges_same HRG2.out (hB3.block bm hbm) (hB3.block r (by have := HR.out; omega))
      have HO3 := Lib.hid hO3
      have HB3 : Hid (Below w.heap.size w w3) := HB2.out.trans (hB3.mono (by omega))
      have HS3 : Hid (w.heap.size + 1 ≤ w3.heap.size) := by show _ ≤ _; have := HS2.out; have := hB3.size; omega
      clear hO3 hB3 hen
      go_wp2_with fail
      go_roundw
      case rel => exact ⟨ks ++ [x], p3, m + 1, c3, cnt2, _, rfl, by omega, HO3, HRG3, HC2, HB3, HS3⟩
      case measure => rw [HRG3.out.left_eq, HLE.out]; exact hlt

end Go.Proofs.Ytenmgjmbiamhcaa
