/-
  Contracts of Has, Same and Count of package bits, of the answer's Has, and of the law's is. No condition beyond those that each theorem states.
-/
import Derived.Test.YtccccbkllplojaaDoorTidy
namespace Go.Proofs.YtccccbkllplojaaDoor
open Go.RowKit
set_option linter.unusedSimpArgs false
set_option linter.unusedVariables false

theorem bit_and (x k : Nat) (hx : x < 18446744073709551616) : (bits BinOp.and IntKind.u64 ((x : Int) / 2 ^ k) 1 == 1) = x.testBit k := by
  have e : (x : Int) / 2 ^ k = ((x / 2 ^ k : Nat) : Int) := by simp
  have h : x / 2 ^ k < 18446744073709551616 := Nat.lt_of_le_of_lt (Nat.div_le_self _ _) hx
  have hb := bits_and_u64_nat (x / 2 ^ k) 1 h (by omega)
  rw [e, show (1 : Int) = ((1 : Nat) : Int) from rfl, hb, Nat.and_one_is_mod, Nat.testBit_eq_decide_div_mod_eq]
  rcases Nat.mod_two_eq_zero_or_one (x / 2 ^ k) with h | h <;> simp [h]
theorem bit_rem (x k : Nat) : (((x : Int) / 2 ^ k).tmod 2 == 1) = x.testBit k := by
  have e : (x : Int) / 2 ^ k = ((x / 2 ^ k : Nat) : Int) := by simp
  rw [e, Nat.testBit_eq_decide_div_mod_eq]
  generalize x / 2 ^ k = y
  rw [Int.tmod_eq_emod_of_nonneg (by omega)]
  rcases Nat.mod_two_eq_zero_or_one y with h | h
  · have : ((y : Int)) % 2 = 0 := by omega
    simp [h, this]
  · have : ((y : Int)) % 2 = 1 := by omega
    simp [h, this]

theorem has_ok (w : World) (v : Value) (l : List Nat) (n : Int) (hv : Words w v l) (hl : l.length ≤ 1024) (hf : Fit l) :
    Calls Tryd.prog 17 #[v, .int .i64 n] w fun e w' => e = .returned (.bool (decide (0 ≤ n ∧ n < 65536) && has l n.toNat)) ∧ w = w' := by
  have hm := may_ok n w
  obtain ⟨a, cap, rfl, h1, h2, h3⟩ := hv
  by_cases hr : 0 ≤ n ∧ n < 65536
  · rw [decide_eq_true hr] at hm
    rw [decide_eq_true hr, Bool.true_and]
    obtain ⟨m, rfl⟩ : ∃ m : Nat, n = m := ⟨n.toNat, by omega⟩
    rw [Int.toNat_natCast]
    by_cases hb : m / 64 < l.length
    · obtain ⟨b, off, rfl, hc⟩ := h3 (m / 64) hb
      clear h3
      go_enter Tryd.func17, Tryd.ntmps17
      go_wp2_with (go_at_call 26; refine hm.mono ?_; rintro e w' ⟨rfl, rfl⟩)
      go_ret
      refine ⟨?_, rfl⟩
      rw [bit_and _ _ (hf _ (List.getElem_mem _)), has, getD_lt _ _ hb]; rfl
    · rw [has_ge l m (by omega)]
      clear h3
      go_enter Tryd.func17, Tryd.ntmps17
      go_wp2_with (go_at_call 26; refine hm.mono ?_; rintro e w' ⟨rfl, rfl⟩)
      go_ret
      exact ⟨rfl, rfl⟩
  · rw [decide_eq_false hr] at hm
    rw [decide_eq_false hr, Bool.false_and]
    clear h3
    go_enter Tryd.func17, Tryd.ntmps17
    go_wp2_with (go_at_call 26; refine hm.mono ?_; rintro e w' ⟨rfl, rfl⟩)
    go_ret
    exact ⟨rfl, rfl⟩
theorem rhas_ok (w : World) (v : Value) (l : List Nat) (n : Int) (hv : Words w v l) (hl : l.length ≤ 1024) (hf : Fit l) :
    Calls Tryd.prog 18 #[v, .int .i64 n] w fun e w' => e = .returned (.bool (decide (0 ≤ n ∧ n < 65536) && has l n.toNat)) ∧ w = w' := by
  obtain ⟨a, cap, rfl, h1, h2, h3⟩ := hv
  by_cases hr : 0 ≤ n ∧ n < 65536
  · rw [decide_eq_true hr, Bool.true_and]
    obtain ⟨m, rfl⟩ : ∃ m : Nat, n = m := ⟨n.toNat, by omega⟩
    rw [Int.toNat_natCast]
    by_cases hb : m / 64 < l.length
    · obtain ⟨b, off, rfl, hc⟩ := h3 (m / 64) hb
      clear h3
      go_enter Tryd.func18, Tryd.ntmps18
      go_wp2_with fail
      go_ret
      refine ⟨?_, rfl⟩
      rw [bit_rem _ _, has, getD_lt _ _ hb]; rfl
    · rw [has_ge l m (by omega)]
      clear h3
      go_enter Tryd.func18, Tryd.ntmps18
      go_wp2_with fail
      go_ret
      exact ⟨rfl, rfl⟩
  · rw [decide_eq_false hr, Bool.false_and]
    clear h3
    by_cases h0 : 0 ≤ n
    · go_enter Tryd.func18, Tryd.ntmps18
      go_wp2_with fail
      go_ret
      exact ⟨rfl, rfl⟩
    · go_enter Tryd.func18, Tryd.ntmps18
      go_wp2_with fail
      go_ret
      exact ⟨rfl, rfl⟩

theorem is_ok (w : World) (u v : Value) (l m : List Nat) (hu0 : Words w u l) (hv0 : Words w v m) (hl : l.length ≤ 1024) :
    Calls Tryd.prog 15 #[u, v] w fun e w' => e = .returned (.bool (decide (l = m))) ∧ Below w.heap.size w w' := by
  obtain ⟨a, n, cap, rfl, hu⟩ := Words.wn hu0
  obtain ⟨b, n', cap', rfl, hv⟩ := Words.wn hv0
  have hn1 : n ≤ 1024 := by have := hu.len.out; omega
  by_cases he : n = n'
  · subst he
    have he := (show Hid (l.length = m.length) from hu.len.out.trans hv.len.out.symm)
    have hll := hu.len
    clear hl
    go_enter Tryd.func15, Tryd.ntmps15
    go_wp2_with fail
    go_loopg [5] n (fun g n0 W => ∃ q : Nat, n0 = .int .i64 q ∧ g + q = n ∧ Hid (∀ j, j < q → l.getD j 0 = m.getD j 0) ∧ Below w.heap.size w W)
    case atStart => exact ⟨0, rfl, by omega, fun j hj => by omega, Below.refl _ _⟩
    case round =>
      obtain ⟨q, rfl, hq, hpre, hb⟩ := hrel
      by_cases hqn : q < n
      · obtain ⟨b1, o1, rfl, hc⟩ := (hu.below hb).at_ q hqn
        obtain ⟨b2, o2, rfl, hk⟩ := (hv.below hb).at_ q hqn
        by_cases hx : l.getD q 0 = m.getD q 0
        · rw [hx] at hc
          have hpre' : Hid (∀ j, j < q + 1 → l.getD j 0 = m.getD j 0) := fun j hj => by
            rcases Nat.lt_or_ge j q with h | h
            · exact hpre.out j h
            · obtain rfl : j = q := by omega
              exact hx
          clear hx hpre
          generalize m.getD q 0 = x at hc hk
          go_wp2_with fail
          go_quiet (fail)
          all_goals
            go_wp2_with fail
            go_roundg (gk - 1)
            case measure => omega
            case rel => exact ⟨q + 1, by go_num, by omega, hpre', hb.trans (drewN_below _ _ _)⟩
        · have hx' : ((l.getD q 0 : Nat) : Int) ≠ ((m.getD q 0 : Nat) : Int) := by omega
          have hne : l ≠ m := fun h => hx (by rw [h])
          clear hx
          generalize m.getD q 0 = x at hk hx'
          generalize l.getD q 0 = y at hc hx'
          go_wp2_with fail
          go_quiet (fail)
          all_goals
            go_wp2_with fail
            go_ret
            refine ⟨?_, hb.trans (drewN_below _ _ _)⟩
            rw [decide_eq_false hne]
            rfl
      · go_wp2_with fail
        go_ret
        refine ⟨?_, hb⟩
        rw [decide_eq_true (getD_ext he.out fun i hi => hpre.out i (by have := hll.out; omega))]
        rfl
    
  · rw [decide_eq_false (fun h => he (by rw [← hu.len.out, ← hv.len.out, h]))]
    clear hu hv
    go_enter Tryd.func15, Tryd.ntmps15
    go_wp2_with fail
    go_ret
    exact ⟨rfl, Below.refl _ _⟩

theorem same_ok (w : World) (u v : Value) (l m : List Nat) (hu0 : Words w u l) (hv0 : Words w v m) (hl : l.length ≤ 1024) (hm : m.length ≤ 1024) :
    Calls Tryd.prog 10 #[u, v] w fun e w' => e = .returned (.bool (decide (seenl l = seenl m))) ∧ w = w' := by
  have s1 := seen_n w u l hu0 hl
  have s2 := seen_n w v m hv0 hm
  have e1 := seen_le l
  have e2 := seen_le m
  obtain ⟨a, n, cap, rfl, -⟩ := Words.wn hu0
  obtain ⟨b, n', cap', rfl, -⟩ := Words.wn hv0
  generalize seenl l = l1 at *
  generalize seenl m = m1 at *
  go_enter Tryd.func10, Tryd.ntmps10
  go_wp2_with fail
  refine s1.mono ?_
  rintro e w' ⟨a1, k, cap1, rfl, h1, rfl⟩
  go_wp2_with fail
  refine s2.mono ?_
  rintro e w' ⟨b1, k', cap2, rfl, h2, rfl⟩
  clear s1 s2
  have hk1 : k ≤ 1024 := by have := h1.len.out; omega
  by_cases he : k = k'
  · subst he
    have he := (show Hid (l1.length = m1.length) from h1.len.out.trans h2.len.out.symm)
    have hll := h1.len
    clear hl hm e1 e2
    go_wp2_with fail
    go_loopg [20] k (fun g n0 W => ∃ q : Nat, n0 = .int .i64 q ∧ g + q = k ∧ Hid (∀ j, j < q → l1.getD j 0 = m1.getD j 0) ∧ W = w)
    case atStart => exact ⟨0, rfl, by omega, fun j hj => by omega, rfl⟩
    case round =>
      obtain ⟨q, rfl, hq, hpre, rfl⟩ := hrel
      by_cases hqn : q < k
      · obtain ⟨b1, o1, rfl, hc⟩ := h1.at_ q hqn
        obtain ⟨b2, o2, rfl, hd⟩ := h2.at_ q hqn
        by_cases hx : l1.getD q 0 = m1.getD q 0
        · rw [hx] at hc
          have hpre' : Hid (∀ j, j < q + 1 → l1.getD j 0 = m1.getD j 0) := fun j hj => by
            rcases Nat.lt_or_ge j q with h | h
            · exact hpre.out j h
            · obtain rfl : j = q := by omega
              exact hx
          clear hx hpre
          generalize m1.getD q 0 = x at hc hd
          go_wp2_with fail
          go_roundg (gk - 1)
          case measure => omega
          case rel => exact ⟨q + 1, by go_num, by omega, hpre', rfl⟩
        · have hx' : ((l1.getD q 0 : Nat) : Int) ≠ ((m1.getD q 0 : Nat) : Int) := by omega
          have hne : l1 ≠ m1 := fun h => hx (by rw [h])
          clear hx
          generalize m1.getD q 0 = x at hd hx'
          generalize l1.getD q 0 = y at hc hx'
          go_wp2_with fail
          go_ret
          refine ⟨?_, rfl⟩
          rw [decide_eq_false hne]
          rfl
      · go_wp2_with fail
        go_ret
        refine ⟨?_, rfl⟩
        rw [decide_eq_true (getD_ext he.out fun i hi => hpre.out i (by have := hll.out; omega))]
        rfl
  · have hne : l1 ≠ m1 := fun h => he (by rw [← h1.len.out, ← h2.len.out, h])
    clear h1 h2
    go_wp2_with fail
    go_ret
    refine ⟨?_, rfl⟩
    rw [decide_eq_false hne]
    rfl

theorem cnt_take (l : List Nat) (q : Nat) (h : q < l.length) : ((l.take (q + 1)).map pop).sum = ((l.take q).map pop).sum + pop (l.getD q 0) := by
  rw [getD_lt l q h, List.take_add_one, List.getElem?_eq_getElem h, List.map_append, List.sum_append]
  simp only [Option.toList_some, List.map_cons, List.map_nil, List.sum_cons, List.sum_nil, Nat.add_zero]
theorem pop_le (x : Nat) : pop x ≤ 64 := by
  rw [pop_len x 0, bl_filter]
  exact Nat.le_trans (List.length_filter_le _ _) (by simp)
theorem cnt_le (l : List Nat) : (l.map pop).sum ≤ 64 * l.length := by
  induction l with
  | nil => simp
  | cons x r ih => have := pop_le x; simp; omega
theorem count_ok (w : World) (v : Value) (l : List Nat) (hv : Words w v l) (hl : l.length ≤ 1024) (hf : Fit l) :
    Calls Tryd.prog 12 #[v] w fun e w' => e = .returned (.int .i64 ((lst l).length : Nat)) ∧ w = w' := by
  have s1 := seen_n w v l hv hl
  have e1 := seen_le l
  have hf1 := seen_fit hf
  rw [← lst_seen l, ← cnt_lst]
  obtain ⟨a, n, cap, rfl, -⟩ := Words.wn hv
  generalize seenl l = l1 at *
  go_enter Tryd.func12, Tryd.ntmps12
  go_wp2_with fail
  refine s1.mono ?_
  rintro e w' ⟨a1, k, cap1, rfl, h1, rfl⟩
  have hk : k ≤ 1024 := by have := h1.len.out; omega
  clear s1 e1 hl hv hf
  go_wp2_with fail
  go_loopg [3, 9] k (fun g c n0 W => ∃ q : Nat, n0 = .int .i64 q ∧ c = .int .i64 (((l1.take q).map pop).sum : Nat) ∧ g + q = k ∧ W = w)
  case atStart => exact ⟨0, rfl, by simp, by omega, rfl⟩
  case round =>
    obtain ⟨q, rfl, rfl, hq, rfl⟩ := hrel
    by_cases hqn : q < k
    · obtain ⟨b1, o1, rfl, hc⟩ := h1.at_ q hqn
      have ho := ones_ok (l1.getD q 0) (hf1.getD q) wr
      have hct := cnt_take l1 q (by have := h1.len.out; omega)
      have hle1 := cnt_le (l1.take q)
      have hle2 := pop_le (l1.getD q 0)
      have hle3 : (l1.take q).length ≤ 1024 := by simp; omega
      generalize l1.getD q 0 = x at hc ho hct hle2
      have hs : ((l1.take q).map pop).sum ≤ 65536 := by omega
      have HS := (show Hid _ from hct)
      generalize ((l1.take q).map pop).sum = s at HS hs hle1 ⊢
      clear hct hle1 hle3
      go_wp2_with fail
      refine ho.mono ?_
      rintro e w' ⟨rfl, rfl⟩
      go_wp2_with fail
      go_roundg (gk - 1)
      case measure => omega
      case rel => exact ⟨q + 1, by go_num, by rw [HS.out]; go_num, by omega, rfl⟩
    · have hqk : q = k := by omega
      subst hqk
      go_wp2_with fail
      go_ret
      refine ⟨?_, rfl⟩
      rw [List.take_of_length_le (by have := h1.len.out; omega)]
      rfl
end Go.Proofs.YtccccbkllplojaaDoor
