/-
  Contracts of And and Less of package bits. No condition beyond those that each theorem states.
-/
import Derived.Test.YtccccbkllplojaaDoorOr
import Derived.Laws.BitsAllLaws
import Derived.Deep.Onto
namespace Go.Proofs.YtccccbkllplojaaDoor
open Go.RowKit
set_option linter.unusedSimpArgs false
set_option linter.unusedVariables false

def wdiff (x y : Nat) : Nat := x &&& (18446744073709551615 - y)
theorem wdiff_bit (x y j : Nat) (hy : y < 18446744073709551616) (hj : j < 64) : (wdiff x y).testBit j = (x.testBit j && !y.testBit j) := by
  unfold wdiff
  rw [Nat.testBit_and, show 18446744073709551615 - y = 2 ^ 64 - (y + 1) from by omega, Nat.testBit_two_pow_sub_succ (by omega)]
  simp [hj]
theorem wdiff_zero (x : Nat) (hx : x < 18446744073709551616) : wdiff x 0 = x := by
  refine word_ext (Nat.lt_of_le_of_lt Nat.and_le_left hx) hx fun j hj => ?_
  rw [wdiff_bit x 0 j (by omega) hj]
  simp
theorem zero_wdiff (y : Nat) : wdiff 0 y = 0 := by simp [wdiff]
theorem wdiff_lt (x y : Nat) (hx : x < 18446744073709551616) : wdiff x y < 18446744073709551616 := Nat.lt_of_le_of_lt Nat.and_le_left hx

theorem and_ok (w : World) (u v : Value) (l m : List Nat) (hu0 : Words w u l) (hv0 : Words w v m) (hl : l.length ≤ 1024) (hm : m.length ≤ 1024) (fl : Fit l) (fm : Fit m) :
    Calls Tryd.prog 22 #[u, v] w fun e w' => ∃ v' t, e = .returned v' ∧ Own w.heap.size w' v' t ∧ t.length ≤ 1024 ∧ Tidy t ∧ Fit t ∧ (∀ i, t.getD i 0 = l.getD i 0 &&& m.getD i 0) ∧ Below w.heap.size w w' := by
  have s1 := seen_n w u l hu0 hl
  have s2 := seen_n w v m hv0 hm
  have e1 := seen_le l
  have e2 := seen_le m
  obtain ⟨a, n, cap, rfl, -⟩ := Words.wn hu0
  obtain ⟨b, n', cap', rfl, -⟩ := Words.wn hv0
  obtain ⟨i0, hi, hz0, hz1, hz2⟩ := info_parts info41
  have f1 := seen_fit fl
  have f2 := seen_fit fm
  have Hq := (show Hid ((∀ i, l.getD i 0 = (seenl l).getD i 0) ∧ (∀ i, m.getD i 0 = (seenl m).getD i 0)) from ⟨fun i => (seen_getD l i).symm, fun i => (seen_getD m i).symm⟩)
  generalize seenl l = l1 at *
  generalize seenl m = m1 at *
  go_enter Tryd.func22, Tryd.ntmps22
  go_wp2_with fail
  refine s1.mono ?_
  rintro e w' ⟨a1, k, cap1, rfl, h1, rfl⟩
  go_wp2_with fail
  refine s2.mono ?_
  rintro e w' ⟨b1, k', cap2, rfl, h2, rfl⟩
  clear s1 s2
  have hk1 : k ≤ 1024 := by have := h1.len.out; omega
  have hk2 : k' ≤ 1024 := by have := h2.len.out; omega
  clear e1 e2
  go_upto_region 2 with fail
  go_cut [7] (fun s7 wc => ∃ N, s7 = .slice (some ⟨w.heap.size, 0, none⟩) N N ∧ N ≤ k ∧ N ≤ k' ∧ (N = k ∨ N = k') ∧ wc.ownsRow w.heap.size 41 1 (.slice (some ⟨w.heap.size, 0, none⟩) N N) N ((List.replicate N 0).map word) ∧ Below w.heap.size w wc)
  case first =>
    rcases Nat.lt_or_ge k' k with hkk | hkk
    all_goals
      go_wp2_with (at_make; refine wpList_make_full _ rfl _ _ 23 rfl w.heap.size 41 i0 (.int .u64 0) 1 Tryd.underlying23 hi hz0 hz1 _ _ _ _ _ rfl rfl rfl rfl (by rw [hz2]; omega) (by unfold maxLen; omega) (Nat.le_refl _) ?_; intro w1 hown1 hgrow1; rw [words_made] at hown1)
      go_meet
      case rel => exact ⟨_, rfl, by omega, by omega, by omega, hown1, (Below.refl _ _).grown hgrow1 (Nat.le_refl _) (fun k hk => by cases hk)⟩
  case rest =>
    obtain ⟨N, rfl, hN1, hN2, hN4, hown, hb1⟩ := hcut
    have HN := (show Hid _ from hN4)
    clear hN4
    go_wp2_with fail
    go_loopg [21] N (fun g n0 W => ∃ (q : Nat) (t : List Nat), n0 = .int .i64 q ∧ g + q = N ∧ t.length = N ∧ W.ownsRow w.heap.size 41 1 (.slice (some ⟨w.heap.size, 0, none⟩) N N) N (t.map word) ∧ Hid (∀ j, t.getD j 0 = (if j < q then l1.getD j 0 &&& m1.getD j 0 else 0)) ∧ Below w.heap.size w W)
    case atStart =>
      refine ⟨0, List.replicate N 0, rfl, by omega, by simp, hown, fun j => ?_, hb1⟩
      simp only [List.getD_eq_getElem?_getD, List.getElem?_replicate]
      split <;> simp
    case round =>
      clear hown hb1
      obtain ⟨q, t, rfl, hq, ht, hown, Ht, hb⟩ := hrel
      by_cases hqn : q < N
      · obtain ⟨b2, o2, rfl, hc⟩ := (h2.below hb).at_ q (by omega)
        obtain ⟨b1, o1, rfl, hd⟩ := (h1.below hb).at_ q (by omega)
        have hcell := row_cell hown ht q (by omega)
        have hfz := World.ownsRow.frozenAt hown q
        have hand := bits_and_u64_nat (l1.getD q 0) (m1.getD q 0) (f1.getD q) (f2.getD q)
        have Ht' : Hid (∀ j, (t.set q (l1.getD q 0 &&& m1.getD q 0)).getD j 0 = (if j < q + 1 then l1.getD j 0 &&& m1.getD j 0 else 0)) := by
          intro j
          rw [getD_set t q _ j (by omega)]
          by_cases hj : j = q
          · subst hj; rw [if_pos rfl, if_pos (by omega)]
          · rw [if_neg hj, Ht.out j]
            by_cases h : j < q
            · rw [if_pos h, if_pos (by omega)]
            · rw [if_neg h, if_neg (by omega)]
        have Hsl : (t.set q (l1.getD q 0 &&& m1.getD q 0)).length = N := by rw [List.length_set]; exact ht
        have hst := fun (W : World) (h : W.ownsRow w.heap.size 41 1 (.slice (some ⟨w.heap.size, 0, none⟩) N N) N (t.map word)) => row_set h q (l1.getD q 0 &&& m1.getD q 0)
        generalize t.set q (l1.getD q 0 &&& m1.getD q 0) = t' at hst Ht' Hsl
        generalize l1.getD q 0 = x at hd hand hst
        generalize m1.getD q 0 = y at hc hand hst
        generalize x &&& y = z at hand hst
        have HS := (show Hid _ from And.intro hst (And.intro hown hb))
        clear hown ht Ht hst hb
        go_wp2_with fail
        go_region
        all_goals
          go_wp2_with fail
          go_roundg (gk - 1)
          case measure => omega
          case rel => exact ⟨q + 1, t', by go_num, by omega, Hsl, HS.out.1 _ HS.out.2.1, Ht', (HS.out.2.2.setCell (Nat.le_refl _) _).drew⟩
      · obtain rfl : q = N := by omega
        have hW : Words wr (.slice (some ⟨w.heap.size, 0, none⟩) q q) t := by
          have : Own w.heap.size wr (.slice (some ⟨w.heap.size, 0, none⟩) q q) t := by unfold Own; rw [ht]; exact hown
          exact this.words
        have htd := tidy_ok wr _ t hW (by omega)
        go_wp2_with fail
        refine htd.mono ?_
        rintro e w2 ⟨v', rfl, ho, hb2⟩
        go_wp2_with fail
        go_ret
        have e1 := h1.len.out
        have e2 := h2.len.out
        obtain ⟨q1, q2⟩ := Hq.out
        have hget : ∀ i, t.getD i 0 = l1.getD i 0 &&& m1.getD i 0 := by
          intro i
          rw [Ht.out i]
          by_cases h : i < q
          · rw [if_pos h]
          · rw [if_neg h]
            rcases HN.out with h' | h'
            · rw [getD_ge l1 i (by omega)]; simp
            · rw [getD_ge m1 i (by omega)]; simp
        refine ⟨_, seenl t, rfl, World.ownsRow.mono ho hb.size, Nat.le_trans (seen_le t) (by omega), seen_tidy t, seen_fit (fit_of_getD fun i => ?_), fun i => by rw [seen_getD, hget, q1, q2], hb.trans (hb2.mono hb.size)⟩
        rw [hget]
        exact Nat.lt_of_le_of_lt Nat.and_le_left (f1.getD i)
theorem less_ok (w : World) (u v : Value) (l m : List Nat) (hu0 : Words w u l) (hv0 : Words w v m) (hl : l.length ≤ 1024) (hm : m.length ≤ 1024) (fl : Fit l) (fm : Fit m) :
    Calls Tryd.prog 23 #[u, v] w fun e w' => ∃ v' t, e = .returned v' ∧ Own w.heap.size w' v' t ∧ t.length ≤ 1024 ∧ Tidy t ∧ Fit t ∧ (∀ i, t.getD i 0 = wdiff (l.getD i 0) (m.getD i 0)) ∧ Below w.heap.size w w' := by
  have s1 := tidy_at w u l hu0 hl
  have e1 := seen_le l
  have e2 := seen_le m
  have f1 := seen_fit fl
  have f2 := seen_fit fm
  have Hq := (show Hid ((∀ i, l.getD i 0 = (seenl l).getD i 0) ∧ (∀ i, m.getD i 0 = (seenl m).getD i 0)) from ⟨fun i => (seen_getD l i).symm, fun i => (seen_getD m i).symm⟩)
  have S2 := (show Hid (∀ W, Below w.heap.size w W → Calls Tryd.prog 24 #[v] W fun e w' => ∃ a n cap, e = .returned (.slice a n cap) ∧ Wn W a n cap (seenl m) ∧ Hid (∀ W, Words W v m → Wn W a n cap (seenl m)) ∧ W = w') from fun W hb => seen_w W v m (Words.below hv0 hb) hm)
  obtain ⟨a, n, cap, rfl, -⟩ := Words.wn hu0
  obtain ⟨b, n', cap', rfl, -⟩ := Words.wn hv0
  generalize seenl l = l1 at *
  generalize seenl m = m1 at *
  go_enter Tryd.func23, Tryd.ntmps23
  go_wp2_with fail
  refine s1.mono ?_
  rintro e w1 ⟨N, rfl, hN, hown, hb1⟩
  clear s1
  have s2 := S2.out w1 hb1
  go_wp2_with fail
  refine s2.mono ?_
  rintro e w' ⟨b1, k', cap2, rfl, h2, hall, rfl⟩
  clear s2 S2
  have hk1 : N ≤ 1024 := by have := hN.out; omega
  have hk2 : k' ≤ 1024 := by have := h2.len.out; omega
  clear e1 e2
  go_wp2_with fail
  go_loopg [13] k' (fun g n0 W => ∃ (q : Nat) (t : List Nat), n0 = .int .i64 q ∧ g + q = k' ∧ t.length = N ∧ W.ownsRow w.heap.size 41 1 (.slice (some ⟨w.heap.size, 0, none⟩) N N) N (t.map word) ∧ Hid (∀ j, t.getD j 0 = (if j < q then wdiff (l1.getD j 0) (m1.getD j 0) else l1.getD j 0)) ∧ Below w.heap.size w W ∧ Wn W b1 k' cap2 m1)
  case atStart => exact ⟨0, l1, rfl, by omega, hN.out, hown, fun j => by simp, hb1, h2⟩
  case round =>
    clear hown hb1 h2
    obtain ⟨q, t, rfl, hq, ht, hown, Ht, hb, h2⟩ := hrel
    by_cases hqn : q < k'
    · obtain ⟨b2, o2, rfl, hc⟩ := h2.at_ q (by omega)
      by_cases hqN : q < N
      · have hcell := row_cell hown ht q (by omega)
        have hfz := World.ownsRow.frozenAt hown q
        have htq : t.getD q 0 = l1.getD q 0 := by rw [Ht.out q, if_neg (Nat.lt_irrefl q)]
        have hdf := u64_andNot_nat (t.getD q 0) (m1.getD q 0) (by rw [htq]; exact f1.getD q) (f2.getD q)
        have hst := row_set hown q (wdiff (t.getD q 0) (m1.getD q 0))
        have hgrow : Below w.heap.size w (wr.setCell ⟨w.heap.size, q, none⟩ (.int .u64 ((wdiff (t.getD q 0) (m1.getD q 0) : Nat) : Int))) := hb.setCell (Nat.le_refl _) _
        have hkeep : Wn (wr.setCell ⟨w.heap.size, q, none⟩ (.int .u64 ((wdiff (t.getD q 0) (m1.getD q 0) : Nat) : Int))) (some ⟨b2, o2, none⟩) k' cap2 m1 := hall.out _ (Words.below hv0 hgrow)
        have Ht' : Hid (∀ j, (t.set q (wdiff (t.getD q 0) (m1.getD q 0))).getD j 0 = (if j < q + 1 then wdiff (l1.getD j 0) (m1.getD j 0) else l1.getD j 0)) := by
          intro j
          rw [getD_set t q _ j (by omega)]
          by_cases hj : j = q
          · subst hj; rw [if_pos rfl, htq, if_pos (by omega)]
          · rw [if_neg hj, Ht.out j]
            by_cases h : j < q
            · rw [if_pos h, if_pos (by omega)]
            · rw [if_neg h, if_neg (by omega)]
        have Hsl : (t.set q (wdiff (t.getD q 0) (m1.getD q 0))).length = N := by rw [List.length_set]; exact ht
        generalize t.set q (wdiff (t.getD q 0) (m1.getD q 0)) = t' at hst Ht' Hsl
        clear htq
        unfold wdiff at hst hgrow hkeep
        generalize t.getD q 0 = x at hcell hdf hst hgrow hkeep
        generalize m1.getD q 0 = y at hc hdf hst hgrow hkeep
        generalize x &&& (18446744073709551615 - y) = z at hdf hst hgrow hkeep
        clear hown ht Ht
        go_wp2_with fail
        go_roundg (gk - 1)
        case measure => omega
        case rel => exact ⟨q + 1, t', by go_num, by omega, Hsl, hst, Ht', hgrow, hkeep⟩
      · go_wp2_with fail
        go_roundg (gk - 1)
        case measure => omega
        case rel =>
          refine ⟨q + 1, t, by go_num, by omega, ht, hown, fun j => ?_, hb, h2⟩
          rw [Ht.out j]
          by_cases h : j < q
          · rw [if_pos h, if_pos (by omega)]
          · rw [if_neg h]
            split
            · rw [getD_ge l1 j (by have := hN.out; omega), zero_wdiff]
            · rfl
    · obtain rfl : q = k' := by omega
      have hW : Words wr (.slice (some ⟨w.heap.size, 0, none⟩) N N) t := by
        have : Own w.heap.size wr (.slice (some ⟨w.heap.size, 0, none⟩) N N) t := by unfold Own; rw [ht]; exact hown
        exact this.words
      have htd := tidy_ok wr _ t hW (by omega)
      go_wp2_with fail
      refine htd.mono ?_
      rintro e w2 ⟨v', rfl, ho, hb2⟩
      go_wp2_with fail
      go_ret
      have e2 := h2.len.out
      obtain ⟨q1, q2⟩ := Hq.out
      have hget : ∀ i, t.getD i 0 = wdiff (l1.getD i 0) (m1.getD i 0) := by
        intro i
        rw [Ht.out i]
        by_cases h : i < q
        · rw [if_pos h]
        · rw [if_neg h, getD_ge m1 i (by omega), wdiff_zero _ (f1.getD i)]
      refine ⟨_, seenl t, rfl, World.ownsRow.mono ho hb.size, Nat.le_trans (seen_le t) (by omega), seen_tidy t, seen_fit (fit_of_getD fun i => ?_), fun i => by rw [seen_getD, hget, q1, q2], hb.trans (hb2.mono hb.size)⟩
      rw [hget]
      exact wdiff_lt _ _ (f1.getD i)
end Go.Proofs.YtccccbkllplojaaDoor
