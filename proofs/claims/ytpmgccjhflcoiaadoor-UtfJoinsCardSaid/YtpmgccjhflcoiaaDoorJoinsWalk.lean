/-
  The walk of UtfJoins. No condition beyond those that each theorem states.
-/
import Derived.Test.YtpmgccjhflcoiaaDoorJoinsM
namespace Go.Proofs.YtpmgccjhflcoiaaDoor
open Go.RowKit
set_option linter.unusedSimpArgs false
set_option linter.unusedVariables false

set_option maxRecDepth 100000 in
theorem ujoins_big (a b : ByteArray) (w : World) (ha : a.size ≤ 9223372036854775807) (hb : b.size ≤ 9223372036854775807) (h : 500 < a.size ∨ 500 < b.size) :
    Calls Tryd.prog 8 #[.string a, .string b] w fun e w' => e = .returned (.bool true) ∧ Below w.heap.size w w' := by
  by_cases h0 : 500 < a.size
  · have h1 : (500 : Int) < a.size := by omega
    go_enter Tryd.func8, Tryd.ntmps8
    go_wp2_with fail
    go_ret
    exact ⟨rfl, Below.refl _ _⟩
  · have h1 : ¬ (500 : Int) < a.size := by omega
    have h2 : (500 : Int) < b.size := by omega
    go_enter Tryd.func8, Tryd.ntmps8
    go_wp2_with fail
    go_ret
    exact ⟨rfl, Below.refl _ _⟩
/-- what Items tells of a text whose items are counted -/
def ItemsN (s : ByteArray) (n : Nat) (w : World) (e : Ending) (w' : World) : Prop := ∃ (g cap : Nat) (a : Option Addr), e = .returned (.slice a n cap) ∧ (0 < n → a = some ⟨g, 0, none⟩) ∧ RowI s w' g n ∧ Below w.heap.size w w'
theorem items_n (s : ByteArray) (n : Nat) (hn : pos s n = s.size) (hs : s.size ≤ 1000000) (w : World) (hT : Tabs w) : Calls Tryd.prog 32 #[.string s] w (ItemsN s n w) := by
  refine (items_form s hs w hT).mono ?_
  rintro e w' ⟨k, g, cap, a, hk, rfl, h1, h2, h3⟩
  obtain rfl := pos_inj s (hk.trans hn.symm)
  exact ⟨g, cap, a, rfl, h1, h2, h3⟩
set_option maxRecDepth 100000 in
set_option maxHeartbeats 4000000 in
theorem ujoins_in (a b : ByteArray) (w : World) (hT : Tabs w ∧ Deb w) (ha : a.size ≤ 500) (hb : b.size ≤ 500) :
    Calls Tryd.prog 8 #[.string a, .string b] w fun e w' => e = .returned (.bool true) ∧ Below w.heap.size w w' := by
  have h1 : ¬ (500 : Int) < a.size := by omega
  have h2 : ¬ (500 : Int) < b.size := by omega
  have hadd : ¬ 9223372036854775807 < a.size + b.size := by omega
  have hz : (a ++ b).size = a.size + b.size := ByteArray.size_append
  have HT := (show Hid (∀ W, Below w.heap.size w W → Tabs W ∧ Deb W) from fun W h => ⟨Utf8Tabs_below hT.1 h, hT.2.below h⟩)
  have hwork := (show Hid (∀ W, Below w.heap.size w W → Calls Tryd.prog 22 #[] W fun e w' => e = .returned (.bool true) ∧ Below W.heap.size W w') from fun W h => works1_ok W (HT.out W h).1 (HT.out W h).2)
  obtain ⟨m, hm⟩ := count_some a
  obtain ⟨n, hn⟩ := count_some b
  obtain ⟨q, hq⟩ := count_some (a ++ b)
  have hm5 : (m : Int) ≤ 500 := by have := pos_ge a m; omega
  have hn5 : (n : Int) ≤ 500 := by have := pos_ge b n; omega
  have hq5 : (q : Int) ≤ 1000 := by have := pos_ge (a ++ b) q; omega
  have C1 := items_n a m hm (by omega) w hT.1
  have C2 := (show Hid (∀ W, Below w.heap.size w W → Calls Tryd.prog 32 #[.string b] W (ItemsN b n W)) from fun W h => items_n b n hn (by omega) W (HT.out W h).1)
  have C3 := (show Hid (∀ W, Below w.heap.size w W → Calls Tryd.prog 32 #[.string (a ++ b)] W (ItemsN (a ++ b) q W)) from fun W h => items_n (a ++ b) q hq (by omega) W (HT.out W h).1)
  have CC := (show Hid (∀ W, Below w.heap.size w W → Calls Tryd.prog 33 #[.string (a ++ b), .int .i64 a.size] W fun e w' => e = .returned (.bool (caretN (a ++ b) a.size)) ∧ Below W.heap.size W w') from fun W h => by
    rw [← caretI_nat (a ++ b) a.size (by omega)]
    exact ucaret_ok (a ++ b) a.size (by omega) W (HT.out W h).1)
  clear hT hz
  cases hc : caretN (a ++ b) a.size with
  | false =>
    have hlt := joins_no a b m n q hm hn hq hc
    have hbq : ((q : Int) == (m : Int) + (n : Int)) = false := by rw [beq_eq_false_iff_ne]; omega
    have hbq2 : ¬ (q : Int) = (m : Int) + (n : Int) := by omega
    rw [hc] at CC
    clear hm hn hq hc
    go_enter Tryd.func8, Tryd.ntmps8
    go_wp2_with fail
    refine C1.mono ?_
    rintro e w1 ⟨g1, cap1, A1, rfl, _, _, hb1⟩
    have HB1 := Lib.hid hb1
    clear C1 hb1
    go_wp2_with fail
    refine (C2.out _ HB1.out).mono ?_
    rintro e w2 ⟨g2, cap2, A2, rfl, _, _, hb2⟩
    have HB2 := Lib.hid (HB1.out.trans (hb2.mono HB1.out.size))
    clear hb2
    go_wp2_with fail
    refine (C3.out _ HB2.out).mono ?_
    rintro e w3 ⟨g3, cap3, A3, rfl, _, _, hb3⟩
    have HB3 := Lib.hid (HB2.out.trans (hb3.mono HB2.out.size))
    clear hb3
    go_wp2_with fail
    refine (CC.out _ HB3.out).mono ?_
    rintro e w4 ⟨rfl, hb4⟩
    have HB4 := Lib.hid (HB3.out.trans (hb4.mono HB3.out.size))
    clear hb4
    go_wp2_with fail
    go_loopg [9, 10] 0 (fun gh s9 s10 W => s9 = .int .i64 0 ∧ W = w4)
    case atStart => exact ⟨rfl, rfl⟩
    case round =>
      obtain ⟨rfl, rfl⟩ := hrel
      go_wp2_with fail
      refine (hwork.out _ HB4.out).mono ?_
      rintro e w5 ⟨rfl, hb5⟩
      have HB5 := Lib.hid (HB4.out.trans (hb5.mono HB4.out.size))
      clear hb5
      go_wp2_with fail
      go_ret
      exact ⟨rfl, HB5.out⟩
  | true =>
    have hqe := joins_yes a b m n q hm hn hq hc
    have hbq : ((q : Int) == (m : Int) + (n : Int)) = true := by rw [beq_iff_eq]; omega
    have hbq2 : (q : Int) = (m : Int) + (n : Int) := by omega
    have HL := (show Hid (∀ (W : World) g k, RowI (a ++ b) W g q → k < m → _) from fun W g k h hk => row_left (n := n) (by rw [← hqe]; exact h) hc hm hk)
    have HR := (show Hid (∀ (W : World) g j, RowI (a ++ b) W g q → j < n → _) from fun W g j h hj => row_right (by rw [← hqe]; exact h) hc hm hn hj)
    have HP := (show Hid (∀ j, pos b j ≤ 500 → True) from fun _ _ => trivial)
    rw [hc] at CC
    have HPB := (show Hid (∀ j, j < n → pos b j ≤ 500) from fun j h => by have := (pos_below b hn).1 h; omega)
    have HQ := Lib.hid hqe
    clear hm hn hq hc hqe
    go_enter Tryd.func8, Tryd.ntmps8
    go_wp2_with fail
    refine C1.mono ?_
    rintro e w1 ⟨g1, cap1, A1, rfl, ha1, hr1, hb1⟩
    have HA1 := Lib.hid ha1
    have HB1 := Lib.hid hb1
    have HR1 := Lib.hid hr1
    clear C1 hb1 ha1 hr1
    go_wp2_with fail
    refine (C2.out _ HB1.out).mono ?_
    rintro e w2 ⟨g2, cap2, A2, rfl, ha2, hr2, hb2⟩
    have HA2 := Lib.hid ha2
    have HR12 := Lib.hid (HR1.out.later hb2)
    have HR2 := Lib.hid hr2
    have HB2 := Lib.hid (HB1.out.trans (hb2.mono HB1.out.size))
    clear hb2 ha2 hr2
    go_wp2_with fail
    refine (C3.out _ HB2.out).mono ?_
    rintro e w3 ⟨g3, cap3, A3, rfl, ha3, hr3, hb3⟩
    have HA3 := Lib.hid ha3
    have HR13 := Lib.hid (HR12.out.later hb3)
    have HR23 := Lib.hid (HR2.out.later hb3)
    have HR3 := Lib.hid hr3
    have HB3 := Lib.hid (HB2.out.trans (hb3.mono HB2.out.size))
    clear hb3 ha3 hr3
    go_wp2_with fail
    refine (CC.out _ HB3.out).mono ?_
    rintro e w4 ⟨rfl, hb4⟩
    have HR14 := HR13.out.later hb4
    have HR24 := HR23.out.later hb4
    have HR34 := HR3.out.later hb4
    have HB4 := HB3.out.trans (hb4.mono HB3.out.size)
    clear hb4
    go_wp2_with fail
    go_loopg [9, 10] q (fun gh s9 s10 W => ∃ k : Nat, s9 = .int .i64 (k : Int) ∧ k ≤ q ∧ q ≤ gh + k ∧ RowI a W g1 m ∧ RowI b W g2 n ∧ RowI (a ++ b) W g3 q ∧ Below w.heap.size w W)
    case atStart => exact ⟨0, rfl, Nat.zero_le _, Nat.le_refl _, HR14, HR24, HR34, HB4⟩
    case round =>
      clear HR14 HR24 HR34 HB4
      obtain ⟨k, rfl, hkq, hg, hr1, hr2, hr3, hb⟩ := hrel
      by_cases hlt : k < q
      · obtain rfl := HA3.out (by omega)
        have hk1 : (k : Int) < (q : Int) := by omega
        have x1 : decide ((q : Int) ≤ (k : Int)) = false := by simp; omega
        have x2 : decide (q ≤ k) = false := by simp; omega
        by_cases hkm : k < m
        · obtain rfl := HA1.out (by omega)
          have hk2 : (k : Int) < (m : Int) := by omega
          have x3 : decide ((m : Int) ≤ (k : Int)) = false := by simp; omega
          have x4 : decide (m ≤ k) = false := by simp; omega
          obtain ⟨c0, c1, c2, c3⟩ := hr1 k hkm
          obtain ⟨d0, d1, d2, d3⟩ := HL.out wr g3 k hr3 hkm
          have y1 := World.block_lt_of_cell? wr _ c0
          have y3 := World.block_lt_of_cell? wr _ d0
          have HR1' := Lib.hid hr1
          have HR2' := Lib.hid hr2
          have HR3' := Lib.hid hr3
          have HB := Lib.hid hb
          clear hr1 hr2 hr3 hb
          generalize runeI a (pos a k) = ri at *
          generalize wid a (pos a k) = zi at *
          generalize okAt a (pos a k) = oi at *
          generalize pos a k = pk at *
          go_wp2_with fail
          go_quiet (fail)
          go_wp2_with fail
          go_roundg (gk - 1)
          case measure => omega
          case rel => exact ⟨k + 1, by go_num, by omega, by omega, fun k' hk' => HR1'.out k' hk', fun k' hk' => HR2'.out k' hk', fun k' hk' => HR3'.out k' hk', Below.drawnU HB.out _⟩
        · obtain ⟨j, hj⟩ : ∃ j, k = m + j := ⟨k - m, by omega⟩
          have hjn : j < n := by have := HQ.out; omega
          obtain rfl := HA2.out (by omega)
          have hk2 : ¬ (k : Int) < (m : Int) := by omega
          have hkj : (k : Int) - (m : Int) = (j : Int) := by omega
          have hjn2 : (j : Int) < (n : Int) := by omega
          have x3 : decide ((n : Int) ≤ (j : Int)) = false := by simp; omega
          have x4 : decide (n ≤ j) = false := by simp; omega
          have hwj : IntKind.i64.wrap (j : Int) = (j : Int) := by unfold IntKind.wrap; simp [IntKind.bits, IntKind.signed]; omega
          obtain ⟨c0, c1, c2, c3⟩ := hr2 j hjn
          obtain ⟨d0, d1, d2, d3⟩ := HR.out wr g3 j hr3 hjn
          rw [← hj] at d0 d1 d2 d3
          have y1 := World.block_lt_of_cell? wr _ c0
          have y3 := World.block_lt_of_cell? wr _ d0
          have hpb := HPB.out j hjn
          have HR1' := Lib.hid hr1
          have HR2' := Lib.hid hr2
          have HR3' := Lib.hid hr3
          have HB := Lib.hid hb
          have HJ := Lib.hid hj
          clear hr1 hr2 hr3 hb hj
          generalize runeI b (pos b j) = ri at *
          generalize wid b (pos b j) = zi at *
          generalize okAt b (pos b j) = oi at *
          generalize pos b j = pk at *
          have hp5 : (pk : Int) ≤ 500 := by omega
          go_wp2_with fail
          go_quiet (fail)
          go_wp2_with fail
          go_roundg (gk - 1)
          case measure => omega
          case rel => exact ⟨k + 1, by go_num, by omega, by omega, fun k' hk' => HR1'.out.later ((Below.refl wr.heap.size wr).alloc (Nat.le_refl _) (.cells #[.int .i64 ((pk : Int) + (a.size : Int)), .int .i64 (zi : Int), .int .i32 ri, .bool oi] 35)) k' hk', fun k' hk' => HR2'.out.later ((Below.refl wr.heap.size wr).alloc (Nat.le_refl _) (.cells #[.int .i64 ((pk : Int) + (a.size : Int)), .int .i64 (zi : Int), .int .i32 ri, .bool oi] 35)) k' hk', fun k' hk' => HR3'.out.later ((Below.refl wr.heap.size wr).alloc (Nat.le_refl _) (.cells #[.int .i64 ((pk : Int) + (a.size : Int)), .int .i64 (zi : Int), .int .i32 ri, .bool oi] 35)) k' hk', Below.drawnU (HB.out.alloc HB.out.size _) _⟩
      · obtain rfl : k = q := by omega
        have hk1 : ¬ (k : Int) < (k : Int) := by omega
        have HB := Lib.hid hb
        clear hr1 hr2 hr3 hb
        go_wp2_with fail
        refine (hwork.out _ HB.out).mono ?_
        rintro e w5 ⟨rfl, hb5⟩
        have HB5 := Lib.hid (HB.out.trans (hb5.mono HB.out.size))
        clear hb5
        go_wp2_with fail
        go_ret
        exact ⟨rfl, HB5.out⟩
theorem utfJoins_walk (a b : ByteArray) (w : World) (hT : Tabs w ∧ Deb w) (ha : a.size ≤ 9223372036854775807) (hb : b.size ≤ 9223372036854775807) :
    Calls Tryd.prog 8 #[.string a, .string b] w fun e w' => e = .returned (.bool true) ∧ Below w.heap.size w w' := by
  by_cases h : 500 < a.size ∨ 500 < b.size
  · exact ujoins_big a b w ha hb h
  · exact ujoins_in a b w hT (by omega) (by omega)
end Go.Proofs.YtpmgccjhflcoiaaDoor
