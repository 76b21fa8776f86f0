/-
  The walk of BitsWalk: it tells true. No condition beyond those that the theorem states.
-/
import Derived.Test.YtccccbkllplojaaDoorTellFacts
import Derived.Deep.RegionHeld3
namespace Go.Proofs.YtccccbkllplojaaDoor
open Go.RowKit Go.Maps
set_option linter.unusedSimpArgs false
set_option linter.unusedVariables false

/-- the number at a place of the list, or -1 behind it -/
def nthOf (L : List Nat) (q : Nat) : Int := if q < L.length then ((L.getD q 0 : Nat) : Int) else -1
/-- how long the key is, by the number ahead of a place -/
def longOf (L : List Nat) (q : Nat) : Int := if q = 0 then 0 else (((L.getD (q - 1) 0) / 64 * 8 + 8 : Nat) : Int)
theorem next_first {a : List Nat} {r : Int} (h : IsNext a (-5) r) : r = nthOf (lst a) 0 := by
  refine next_one h ?_
  unfold nthOf
  by_cases h0 : 0 < (lst a).length
  · rw [if_pos h0]
    have hm : (lst a).getD 0 0 ∈ lst a := by rw [getD_lt _ _ h0]; exact List.getElem_mem _
    refine Or.inr ⟨_, rfl, (mem_lst a _).1 hm, by omega, fun k hk _ => ?_⟩
    obtain ⟨i, hi, e⟩ := List.getElem_of_mem ((mem_lst a k).2 hk)
    rcases Nat.eq_zero_or_pos i with rfl | hp
    · rw [getD_lt _ _ h0, e]; exact Nat.le_refl _
    · have := List.pairwise_iff_getElem.1 (lst_sorted a) 0 i h0 hi hp
      rw [getD_lt _ _ h0]; omega
  · rw [if_neg h0]
    refine Or.inl ⟨rfl, fun m hm => ?_⟩
    have := List.length_pos_of_mem ((mem_lst a m).2 hm)
    omega
theorem next_succ {a : List Nat} {q : Nat} (hq : q < (lst a).length) {r : Int} (h : IsNext a (((lst a).getD q 0 : Nat) + 1) r) : r = nthOf (lst a) (q + 1) := by
  refine next_one h ?_
  have hs := lst_sorted a
  unfold nthOf
  by_cases h0 : q + 1 < (lst a).length
  · rw [if_pos h0]
    have hm : (lst a).getD (q + 1) 0 ∈ lst a := by rw [getD_lt _ _ h0]; exact List.getElem_mem _
    have hlt := List.pairwise_iff_getElem.1 hs q (q + 1) hq h0 (by omega)
    refine Or.inr ⟨_, rfl, (mem_lst a _).1 hm, by rw [getD_lt _ _ h0, getD_lt _ _ hq]; omega, fun k hk hn => ?_⟩
    obtain ⟨i, hi, e⟩ := List.getElem_of_mem ((mem_lst a k).2 hk)
    rw [getD_lt _ _ hq] at hn
    rw [getD_lt _ _ h0]
    rcases Nat.lt_trichotomy i (q + 1) with h1 | rfl | h1
    · have : i ≤ q := by omega
      rcases Nat.lt_or_ge i q with h2 | h2
      · have := List.pairwise_iff_getElem.1 hs i q hi hq h2; omega
      · have : i = q := by omega
        subst this; omega
    · omega
    · have := List.pairwise_iff_getElem.1 hs (q + 1) i h0 hi h1; omega
  · rw [if_neg h0]
    refine Or.inl ⟨rfl, fun k hk => ?_⟩
    obtain ⟨i, hi, e⟩ := List.getElem_of_mem ((mem_lst a k).2 hk)
    rw [getD_lt _ _ hq]
    rcases Nat.lt_or_ge i q with h2 | h2
    · have := List.pairwise_iff_getElem.1 hs i q hi hq h2; omega
    · have : i = q := by omega
      subst this; omega
theorem bit_of_word {x : Nat} (h0 : x ≠ 0) (h : x < 18446744073709551616) : ∃ j, j < 64 ∧ x.testBit j = true := ⟨_, (ctz_bits x h0 h).1, (ctz_bits x h0 h).2.1⟩
theorem lst_last {a : List Nat} {k : Nat} (hk : k ∈ lst a) : k ≤ (lst a).getD ((lst a).length - 1) 0 := by
  obtain ⟨i, hi, rfl⟩ := List.getElem_of_mem hk
  rw [getD_lt _ _ (by omega)]
  rcases Nat.lt_or_ge i ((lst a).length - 1) with h | h
  · have := List.pairwise_iff_getElem.1 (lst_sorted a) i ((lst a).length - 1) hi (by omega) h; omega
  · have : i = (lst a).length - 1 := by omega
    subst this; exact Nat.le_refl _
/-- the key's length -/
theorem key_long {a : List Nat} (fa : Fit a) : ((keyOf' a).size : Int) = longOf (lst a) (lst a).length := by
  have hk : (keyOf' a).size = 8 * (seenl a).length := by
    show (keyb (seenl a)).toArray.size = _
    rw [List.size_toArray, keyb_len]
  rw [hk]
  unfold longOf
  have hst := seen_tidy a
  have hh : ∀ n, has (seenl a) n = has a n := seen_has a
  have ft := seen_fit fa
  generalize seenl a = t at *
  have hbit : t.length ≠ 0 → ∃ j, j < 64 ∧ 64 * (t.length - 1) + j ∈ lst a := by
    intro h0
    rcases hst with h | h
    · omega
    · obtain ⟨j, hj, hb⟩ := bit_of_word h (ft.getD _)
      rw [← has_at _ _ _ hj, hh] at hb
      exact ⟨j, hj, (mem_lst a _).2 hb⟩
  by_cases h0 : (lst a).length = 0
  · rw [if_pos h0]
    by_cases ht : t.length = 0
    · rw [ht]; rfl
    · obtain ⟨j, _, hm⟩ := hbit ht
      have := List.length_pos_of_mem hm
      omega
  · rw [if_neg h0]
    have hm : (lst a).getD ((lst a).length - 1) 0 ∈ lst a := by rw [getD_lt _ _ (by omega)]; exact List.getElem_mem _
    have hlt : (lst a).getD ((lst a).length - 1) 0 < 64 * t.length := by
      have := (mem_lst a _).1 hm
      rw [← hh] at this
      exact has_lt this
    obtain ⟨j, hj, hm2⟩ := hbit (by omega)
    have := lst_last hm2
    generalize (lst a).getD ((lst a).length - 1) 0 = m at *
    omega

set_option maxRecDepth 100000 in
set_option maxHeartbeats 1000000 in
theorem bitsWalk_walk (w : World) (u : Value) (a : List Nat) (hu0 : Words w u a) (fa : Fit a) (hT : Tab 0 w) :
    Calls Tryd.prog 3 #[u] w fun e w' => e = .returned (.bool true) ∧ Below w.heap.size w w' := by
  obtain ⟨au, n1, cap1, rfl, wu⟩ := Words.wn hu0
  by_cases hbig : 30 < n1
  · clear wu hu0
    go_enter Tryd.func3, Tryd.ntmps3
    go_wp2_with fail
    go_ret
    exact ⟨rfl, Below.refl _ _⟩
  have hla : Hid (a.length ≤ 30) := by have := wu.len.out; exact (show a.length ≤ 30 by omega)
  have hu : St w (.slice au n1 cap1) a := ⟨hu0, by have := hla.out; omega, fa⟩
  clear wu hu0
  have HL := (show Hid ((∀ m, m ∈ lst a ↔ has a m = true) ∧ (lst a).length ≤ 1920 ∧ (∀ m ∈ lst a, m < 65536)) from
    ⟨mem_lst a, Nat.le_trans (List.length_filter_le _ _) (by have := hla.out; simp; omega), fun m hm => by have := has_lt ((mem_lst a m).1 hm); have := hla.out; omega⟩)
  have HK := (show Hid (((keyOf' a).size : Int) = longOf (lst a) (lst a).length) from key_long fa)
  have HN := (show Hid ((∀ r, IsNext a (-5) r → r = nthOf (lst a) 0) ∧ ∀ q r, q < (lst a).length → IsNext a (((lst a).getD q 0 : Nat) + 1) r → r = nthOf (lst a) (q + 1)) from ⟨fun r h => next_first h, fun q r hq h => next_succ hq h⟩)
  have cc := count_s hu
  have c1 := list_s hu hT
  have CC := (show Hid (∀ W, Below w.heap.size w W → Calls Tryd.prog 12 #[.slice au n1 cap1] W fun e w' => e = .returned (.int .i64 ((lst a).length : Nat)) ∧ W = w') from fun W hb => count_s (hu.below hb))
  clear cc fa
  generalize lst a = L at *
  go_enter Tryd.func3, Tryd.ntmps3
  go_wp2_with fail
  refine c1.mono ?_
  rintro e w1 ⟨v3, rfl, ho, B1⟩
  clear c1
  have c2 := next_s (hu.below B1) (hT.below B1) (-5) (by omega)
  go_wp2_with fail
  refine c2.mono ?_
  rintro e w' ⟨r0, rfl, hr0, rfl⟩
  clear c2
  obtain rfl := HN.out.1 r0 hr0
  clear hr0
  obtain ⟨a3, cap3, hs3⟩ := ishape ho
  subst hs3
  generalize hLn : L.length = N at *
  have HLn := (show Hid _ from hLn)
  have hN2 : N ≤ 1920 := HL.out.2.1
  have hRow := ho
  clear hLn
  have Hho := (show Hid (OwnI w.heap.size w1 (.slice a3 N cap3) L) from ho)
  clear ho hRow
  go_wp2_with fail
  go_loopg [4, 5, 6] N (fun g s4 s5 s6 W => ∃ q : Nat, s6 = .int .i64 (q : Int) ∧ s4 = .int .i64 (nthOf L q) ∧ s5 = .int .i64 (longOf L q) ∧ g + q = N ∧ Below w1.heap.size w1 W)
  case atStart => exact ⟨0, rfl, rfl, rfl, by omega, Below.refl _ _⟩
  case round =>
    obtain ⟨q, rfl, rfl, rfl, hq, hb⟩ := hrel
    by_cases hqn : q < N
    · have hqL : Hid (q < L.length) := by have := HLn.out; exact (show q < L.length by omega)
      obtain ⟨g3, rfl, hc⟩ := icell (Hho.out.below hb) q hqL.out
      have hxr : L.getD q 0 < 65536 := HL.out.2.2 _ (by rw [getD_lt L q hqL.out]; exact List.getElem_mem _)
      have hnth : nthOf L q = ((L.getD q 0 : Nat) : Int) := by unfold nthOf; rw [if_pos hqL.out]
      rw [hnth]
      have BB := B1.trans (hb.mono B1.size)
      have C3 := (show Hid (∀ W, Below wr.heap.size wr W → Calls Tryd.prog 8 #[.slice au n1 cap1, .int .i64 (((L.getD q 0 : Nat) : Int) + 1)] W fun e w' => e = .returned (.int .i64 (nthOf L (q + 1))) ∧ w' = W) from
        fun W hW => (next_s (hu.below (BB.trans (hW.mono BB.size))) (hT.below (BB.trans (hW.mono BB.size))) _ (by omega)).mono (by
          rintro e w' ⟨r, rfl, hr, rfl⟩
          obtain rfl := HN.out.2 q r (by have := HLn.out; omega) hr
          exact ⟨rfl, rfl⟩))
      have hlg : longOf L (q + 1) = ((L.getD q 0 : Nat) : Int) / 64 * 8 + 8 := by unfold longOf; rw [if_neg (by omega), Nat.add_sub_cancel]; omega
      have Hlg := (show Hid _ from hlg)
      clear hlg hnth
      generalize L.getD q 0 = x at hc hxr C3 Hlg ⊢
      go_upto_region 10 with fail
      have hwr : IntKind.i64.wrap ((x : Int) + 1) = (x : Int) + 1 := IntWalk.i64_in _ (by omega)
      go_quiet (first | (go_at_call 8; (try simp only [hwr]); refine Calls.quiet_of_same (C3.out _ ?_); exact drewN_below _ _ _))
      all_goals
        go_wp2_with fail
        go_roundg (gk - 1)
        case measure => omega
        case rel => exact ⟨q + 1, by go_num, rfl, by rw [Hlg.out], by omega, hb.trans (drewN_below _ _ _)⟩
    · obtain rfl : q = N := by omega
      have hnth : nthOf L q = -1 := by unfold nthOf; rw [if_neg (by have := HLn.out; omega)]
      have hkl := HK.out
      have BB := B1.trans (hb.mono B1.size)
      have hI := Hho.out.below hb
      have su := hu.below BB
      have hTr := hT.below BB
      have d1 := of_s hI (by have := HLn.out; omega) (fun x hx => HL.out.2.2 x hx)
      rw [← hkl, hnth]
      clear hnth hkl HK HN
      go_wp2_with fail
      refine d1.mono ?_
      rintro e x1 ⟨y1, t1, rfl, h1, T1, G1, C1⟩
      clear d1
      have hsame : ∀ k, has t1 k = has a k := fun k => Bool.eq_iff_iff.2 (by rw [G1.out, HL.out.1])
      have d2 := same_true h1 (su.below C1) hsame
      go_wp2_with fail
      refine d2.mono ?_
      rintro e w' ⟨rfl, rfl⟩
      clear d2
      have d3 := key_s h1
      have hkk : keyOf' t1 = keyOf' a := (key_iff h1.fit su.fit).2 ((seen_eq_iff h1.fit su.fit).2 hsame)
      rw [hkk] at d3
      go_wp2_with fail
      refine d3.mono ?_
      rintro e x2 ⟨rfl, C2⟩
      clear d3 hkk hsame G1 T1 h1
      have E2 := C1.trans (C2.mono C1.size)
      have d4 := key_s (su.below E2)
      go_wp2_with fail
      refine d4.mono ?_
      rintro e x3 ⟨rfl, C3⟩
      clear d4
      have E3 := E2.trans (C3.mono E2.size)
      have d5 := key_s (su.below E3)
      go_wp2_with fail
      refine d5.mono ?_
      rintro e x4 ⟨rfl, C4⟩
      clear d5
      have E4 := E3.trans (C4.mono E3.size)
      have d6 := CC.out x4 (BB.trans (E4.mono BB.size))
      go_wp2_with fail
      refine d6.mono ?_
      rintro e w' ⟨rfl, rfl⟩
      clear d6
      have d7 := works_ok x4 (hTr.below E4)
      go_wp2_with fail
      refine d7.mono ?_
      rintro e x5 ⟨rfl, C5⟩
      clear d7
      go_wp2_with fail
      go_ret
      exact ⟨by rfl, BB.trans ((E4.trans (C5.mono E4.size)).mono BB.size)⟩
end Go.Proofs.YtccccbkllplojaaDoor
