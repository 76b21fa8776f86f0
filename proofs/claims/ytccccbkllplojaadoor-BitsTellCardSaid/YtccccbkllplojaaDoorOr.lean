/-
  Contract of Or of package bits. No condition beyond those that each theorem states.
-/
import Derived.Test.YtccccbkllplojaaDoorTidy
namespace Go.Proofs.YtccccbkllplojaaDoor
open Go.RowKit
set_option linter.unusedSimpArgs false
set_option linter.unusedVariables false

theorem pad_getD (l : List Nat) (n : Nat) : Hid (∀ j, (l ++ List.replicate n 0).getD j 0 = l.getD j 0) := by
  intro j
  simp only [List.getD_eq_getElem?_getD, List.getElem?_append]
  split
  · rfl
  · rename_i h
    rw [List.getElem?_eq_none (by omega : l.length ≤ j), List.getElem?_replicate]
    split <;> rfl
theorem pad_splice (l : List Nat) (N : Nat) (h : l.length ≤ N) : splice ((List.replicate N 0).map word) 0 (l.map word) = (l ++ List.replicate (N - l.length) 0).map word := by
  simp [splice]
theorem Wn.copyable {w : World} {a : Option Addr} {n cap : Nat} {l : List Nat} (h : Wn w a n cap l) (hpos : 0 < (l.map word).length) : ∃ ad, a = some ad ∧ ∀ j u, (l.map word)[j]? = some u → w.cell? (ad.add j) = some u := by
  have hl : l.length = n := h.len
  have hm : 0 < l.length := by simpa using hpos
  obtain ⟨b, off, rfl, _⟩ := h.at_ 0 (by omega)
  refine ⟨_, rfl, fun j u hu => ?_⟩
  have hj : j < l.length := by have := (List.getElem?_eq_some_iff.1 hu).1; simpa using this
  obtain ⟨b', off', e, hc⟩ := h.at_ j (by omega)
  cases e
  rw [getD_lt l j hj] at hc
  have hu' : u = .int .u64 (l[j] : Nat) := by simp [hj, word] at hu; exact hu.symm
  have ha : (⟨b, off, none⟩ : Addr).add j = ⟨b, off + j, none⟩ := by
    unfold Addr.add
    split
    · rename_i h0; subst h0; rfl
    · rfl
  rw [hu', ha]
  exact hc
theorem row_cell {w : World} {B g N cap : Nat} {t : List Nat} (h : w.ownsRow B 41 1 (.slice (some ⟨g, 0, none⟩) N cap) N (t.map word)) (ht : t.length = N) (q : Nat) (hq : q < N) : w.cell? ⟨g, q, none⟩ = some (.int .u64 ((t.getD q 0 : Nat) : Int)) := by
  rw [World.ownsRow.cellAt h q (by omega), getD_lt t q (by omega)]
  simp [word, show q < t.length from by omega]
theorem row_set {w : World} {B g N cap : Nat} {t : List Nat} (h : w.ownsRow B 41 1 (.slice (some ⟨g, 0, none⟩) N cap) N (t.map word)) (q x : Nat) : (w.setCell ⟨g, q, none⟩ (.int .u64 ((x : Nat) : Int))).ownsRow B 41 1 (.slice (some ⟨g, 0, none⟩) N cap) N ((t.set q x).map word) := by
  have := (World.ownsRow.stored h q (.int .u64 ((x : Nat) : Int))).1
  rwa [show (t.set q x).map word = (t.map word).set q (.int .u64 ((x : Nat) : Int)) from by rw [List.map_set]; rfl]
theorem getD_set (t : List Nat) (q x j : Nat) (hq : q < t.length) : (t.set q x).getD j 0 = if j = q then x else t.getD j 0 := by
  simp only [List.getD_eq_getElem?_getD, List.getElem?_set]
  by_cases h : q = j
  · subst h; simp [hq]
  · rw [if_neg h, if_neg (fun e => h e.symm)]

theorem fit_of_getD {t : List Nat} (h : ∀ i, t.getD i 0 < 18446744073709551616) : Fit t := by
  intro x hx
  obtain ⟨i, hi, rfl⟩ := List.getElem_of_mem hx
  have := h i
  rwa [getD_lt t i hi] at this
theorem or_ok (w : World) (u v : Value) (l m : List Nat) (hu0 : Words w u l) (hv0 : Words w v m) (hl : l.length ≤ 1024) (hm : m.length ≤ 1024) (fl : Fit l) (fm : Fit m) :
    Calls Tryd.prog 21 #[u, v] w fun e w' => ∃ v' t, e = .returned v' ∧ Own w.heap.size w' v' t ∧ t.length ≤ 1024 ∧ Tidy t ∧ Fit t ∧ (∀ i, t.getD i 0 = l.getD i 0 ||| m.getD i 0) ∧ Below w.heap.size w w' := by
  have s1 := seen_n w u l hu0 hl
  have s2 := seen_n w v m hv0 hm
  have e1 := seen_le l
  have e2 := seen_le m
  obtain ⟨a, n, cap, rfl, -⟩ := Words.wn hu0
  obtain ⟨b, n', cap', rfl, -⟩ := Words.wn hv0
  obtain ⟨i0, hi, hz0, hz1, hz2⟩ := info_parts info41
  have f1 := seen_fit fl
  have f2 := seen_fit fm
  have Hq := (show Hid ((∀ i, l.getD i 0 = (seenl l).getD i 0) ∧ (∀ i, m.getD i 0 = (seenl m).getD i 0) ∧ Tidy (seenl l) ∧ Tidy (seenl m)) from ⟨fun i => (seen_getD l i).symm, fun i => (seen_getD m i).symm, seen_tidy l, seen_tidy m⟩)
  generalize seenl l = l1 at *
  generalize seenl m = m1 at *
  go_enter Tryd.func21, Tryd.ntmps21
  go_wp2_with fail
  refine s1.mono ?_
  rintro e w' ⟨a1, k, cap1, rfl, h1, rfl⟩
  go_wp2_with fail
  refine s2.mono ?_
  rintro e w' ⟨b1, k', cap2, rfl, h2, rfl⟩
  clear s1 s2
  have hk1 : k ≤ 1024 := by have := h1.len.out; omega
  have hk2 : k' ≤ 1024 := by have := h2.len.out; omega
  clear e1 e2
  go_upto_region 2 with fail
  go_cut [7] (fun s7 wc => ∃ N, s7 = .slice (some ⟨w.heap.size, 0, none⟩) N N ∧ k ≤ N ∧ k' ≤ N ∧ N ≤ 1024 ∧ (N = k ∨ N = k') ∧ wc.ownsRow w.heap.size 41 1 (.slice (some ⟨w.heap.size, 0, none⟩) N N) N ((List.replicate N 0).map word) ∧ Below w.heap.size w wc)
  case first =>
    rcases Nat.lt_or_ge k k' with hkk | hkk
    all_goals
      go_wp2_with (at_make; refine wpList_make_full _ rfl _ _ 23 rfl w.heap.size 41 i0 (.int .u64 0) 1 Tryd.underlying23 hi hz0 hz1 _ _ _ _ _ rfl rfl rfl rfl (by rw [hz2]; omega) (by unfold maxLen; omega) (Nat.le_refl _) ?_; intro w1 hown1 hgrow1; rw [words_made] at hown1)
      go_meet
      case rel => exact ⟨_, rfl, by omega, by omega, by omega, by omega, hown1, (Below.refl _ _).grown hgrow1 (Nat.le_refl _) (fun k hk => by cases hk)⟩
  case rest =>
    obtain ⟨N, rfl, hN1, hN2, hN3, hN4, hown, hb1⟩ := hcut
    have hz := (own_heap hown).1
    have HN := (show Hid _ from hN4)
    clear hown hN4
    have hcp : 0 < (l1.map word).length → ∃ ad, a1 = some ad ∧ ∀ j u, (l1.map word)[j]? = some u → wc.cell? (ad.add j) = some u := fun h => (h1.below hb1).copyable h
    have hlen1 : (l1.map word).length = k := by rw [List.length_map]; exact h1.len.out
    go_wp2_with (with_reducible refine wpList_copy_splice rfl _ _ 23 23 rfl 41 Tryd.underlying23 size41 _ _ _ _ _ _ rfl rfl w.heap.size 0 _ 41 hz (l1.map word) (by rw [hlen1]; simp [Nat.min_eq_left hN1]) (fun h => ⟨rfl, hcp h⟩) (by rw [hlen1]; simp; omega) (words_one l1) w.heap.size w hb1 (Nat.le_refl _) ?_; intro w2 hh2 hb2; clear hz hcp hb1)
    have hst : ∃ t : List Nat, t.length = N ∧ Hid (∀ j, t.getD j 0 = l1.getD j 0) ∧ w2.ownsRow w.heap.size 41 1 (.slice (some ⟨w.heap.size, 0, none⟩) N N) N (t.map word) := by
      refine ⟨l1 ++ List.replicate (N - k) 0, by have := h1.len.out; simp; omega, pad_getD _ _, ?_⟩
      refine heap_own (hh2.out.trans ?_) (Nat.le_refl _) (by have := h1.len.out; simp; omega) (by unfold maxLen; omega)
      rw [pad_splice _ _ (by rw [h1.len.out]; exact hN1), h1.len.out]
    clear hh2
    obtain ⟨t, ht, Ht, hown⟩ := hst
    clear hlen1
    go_wp2_with fail
    go_loopg [25] k' (fun g n0 W => ∃ (q : Nat) (t : List Nat), n0 = .int .i64 q ∧ g + q = k' ∧ t.length = N ∧ W.ownsRow w.heap.size 41 1 (.slice (some ⟨w.heap.size, 0, none⟩) N N) N (t.map word) ∧ Hid (∀ j, t.getD j 0 = l1.getD j 0 ||| (if j < q then m1.getD j 0 else 0)) ∧ Below w.heap.size w W)
    case atStart => exact ⟨0, t, rfl, by omega, ht, hown, fun j => by rw [Ht.out]; simp, hb2⟩
    case round =>
      clear Ht ht hown hb2 t
      obtain ⟨q, t, rfl, hq, ht, hown, Ht, hb⟩ := hrel
      by_cases hqn : q < k'
      · obtain ⟨b2, o2, rfl, hc⟩ := (h2.below hb).at_ q hqn
        have hcell := row_cell hown ht q (by omega)
        have hfz := World.ownsRow.frozenAt hown q
        have htq : t.getD q 0 = l1.getD q 0 := by rw [Ht.out q, if_neg (Nat.lt_irrefl q), Nat.or_zero]
        have hor := bits_or_u64_nat (t.getD q 0) (m1.getD q 0) (by rw [htq]; exact f1.getD q) (f2.getD q)
        have hst := row_set hown q (t.getD q 0 ||| m1.getD q 0)
        have hgrow : Below w.heap.size w (wr.setCell ⟨w.heap.size, q, none⟩ (.int .u64 ((t.getD q 0 ||| m1.getD q 0 : Nat) : Int))) := hb.setCell (Nat.le_refl _) _
        have Ht' : Hid (∀ j, (t.set q (t.getD q 0 ||| m1.getD q 0)).getD j 0 = l1.getD j 0 ||| (if j < q + 1 then m1.getD j 0 else 0)) := by
          intro j
          rw [getD_set t q _ j (by omega)]
          by_cases hj : j = q
          · subst hj; rw [if_pos rfl, htq, if_pos (by omega)]
          · rw [if_neg hj, Ht.out j]
            by_cases h : j < q
            · rw [if_pos h, if_pos (by omega)]
            · rw [if_neg h, if_neg (by omega)]
        have Hsl : (t.set q (t.getD q 0 ||| m1.getD q 0)).length = N := by rw [List.length_set]; exact ht
        generalize t.set q (t.getD q 0 ||| m1.getD q 0) = t' at hst Ht' Hsl
        clear htq
        generalize t.getD q 0 = x at hcell hor hst hgrow
        generalize m1.getD q 0 = y at hc hor hst hgrow
        generalize x ||| y = z at hor hst hgrow
        clear hown ht Ht
        go_wp2_with fail
        go_roundg (gk - 1)
        case measure => omega
        case rel => exact ⟨q + 1, t', by go_num, by omega, Hsl, hst, Ht', hgrow⟩
      · obtain rfl : q = k' := by omega
        go_wp2_with fail
        go_ret
        have e1 := h1.len.out
        have e2 := h2.len.out
        obtain ⟨q1, q2, q3, q4⟩ := Hq.out
        have hget : ∀ i, t.getD i 0 = l1.getD i 0 ||| m1.getD i 0 := by
          intro i
          rw [Ht.out i]
          by_cases h : i < q
          · rw [if_pos h]
          · rw [if_neg h, getD_ge m1 i (by omega)]
        refine ⟨_, t, rfl, ?_, by omega, ?_, ?_, fun i => by rw [hget, q1, q2], hb⟩
        · unfold Own; rw [ht]; exact hown
        · unfold Tidy
          rw [hget, ht]
          rcases HN.out with h | h
          · rw [h, ← e1]
            rcases q3 with h' | h'
            · left; exact h'
            · right; intro h0; exact h' (Nat.or_eq_zero_iff.1 h0).1
          · rw [h, ← e2]
            rcases q4 with h' | h'
            · left; exact h'
            · right; intro h0; exact h' (Nat.or_eq_zero_iff.1 h0).2
        · apply fit_of_getD
          intro i
          rw [hget]
          exact Nat.or_lt_two_pow (n := 64) (f1.getD i) (f2.getD i)
end Go.Proofs.YtccccbkllplojaaDoor
