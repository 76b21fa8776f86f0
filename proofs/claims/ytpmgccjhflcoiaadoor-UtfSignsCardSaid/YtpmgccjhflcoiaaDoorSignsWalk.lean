/-
  The walk of UtfSigns. No condition beyond those that each theorem states.
-/
import Derived.Test.YtpmgccjhflcoiaaDoorRShow
import Derived.Test.YtpmgccjhflcoiaaDoorUBackWalk
namespace Go.Proofs.YtpmgccjhflcoiaaDoor
open Go.RowKit
set_option linter.unusedSimpArgs false
set_option linter.unusedVariables false

set_option maxRecDepth 100000 in
theorem renc_neg (r : Int) (h : r < 0) (hr : -2147483648 ≤ r) (w : World) : Calls Tryd.prog 18 #[.int .i64 r] w fun e w' => e = .returned (.string (bytesOf [])) ∧ Below w.heap.size w w' := by
  go_enter Tryd.func18, Tryd.ntmps18
  go_wp2_with fail
  all_goals
    go_ret
    exact ⟨rfl, Below.refl _ _⟩
theorem enc_none (r : Int) (h : ¬ isSign r) : encN r.toNat = [] ∨ r < 0 := by
  unfold isSign at h
  rcases Int.lt_or_le r 0 with h0 | h0
  · exact Or.inr h0
  · left
    unfold encN
    rw [if_pos (by omega)]
theorem renc_no (r : Int) (h : ¬ isSign r) (hr : -2147483648 ≤ r ∧ r ≤ 2147483647) (w : World) : Calls Tryd.prog 18 #[.int .i64 r] w fun e w' => e = .returned (.string ⟨#[]⟩) ∧ Below w.heap.size w w' := by
  rcases Int.lt_or_le r 0 with h0 | h0
  · exact renc_neg r h0 hr.1 w
  · rcases enc_none r h with h1 | h1
    · have := renc_ok r.toNat (by omega) w
      rw [h1, show ((r.toNat : Nat) : Int) = r from by omega] at this
      exact this
    · omega
theorem not_nil {B : ByteArray} (h : B ≠ ⟨#[]⟩) : ¬ B.toList = [] := by
  intro e
  apply h
  rw [ByteArray.toList_eq] at e
  exact ByteArray.ext (Array.toList_inj.1 e)
/-- a sign's bytes, by both, and whether there are any -/
theorem enc_both (r : Int) (hr : -2147483648 ≤ r ∧ r ≤ 2147483647) : ∃ (B : ByteArray) (k : Bool), (if k then B ≠ ⟨#[]⟩ else B = ⟨#[]⟩) ∧
    (∀ w : World, Calls Tryd.prog 17 #[.int .i32 r] w fun e w' => e = .returned (.tuple #[.string B, .bool k]) ∧ w = w') ∧
    (∀ w : World, Calls Tryd.prog 18 #[.int .i64 r] w fun e w' => e = .returned (.string B) ∧ Below w.heap.size w w') := by
  by_cases h : isSign r
  · obtain ⟨n, rfl⟩ : ∃ n : Nat, r = n := ⟨r.toNat, by have := h.1; omega⟩
    refine ⟨bytesOf (encN n), true, ?_, uenc_yes n h, renc_ok n (by omega)⟩
    rw [if_pos rfl]
    intro he
    have h1 := wid_enc n h ⟨#[]⟩
    have h2 := (wid_pos (bytesOf (encN n) ++ ⟨#[]⟩) 0).1
    rw [h1, he] at h2
    exact absurd h2 (by decide)
  · exact ⟨⟨#[]⟩, false, by simp, uenc_no r h, renc_no r h hr⟩
theorem shows_both (s : ByteArray) (hs : s.size ≤ 1000000) : ∃ X : ByteArray,
    (∀ w : World, Tabs w → Deb w → Calls Tryd.prog 20 #[.string s] w fun e w' => e = .returned (.string X) ∧ Below w.heap.size w w') ∧
    (∀ w : World, Calls Tryd.prog 21 #[.string s] w fun e w' => e = .returned (.string X) ∧ Below w.heap.size w w') := by
  obtain ⟨N, hN⟩ := count_some s
  refine ⟨txt (shownL s N), fun w hT hD => ?_, fun w => ?_⟩
  · refine (show_ok s hs w hT hD).mono ?_
    rintro e w' ⟨n, rfl, hn, hb⟩
    obtain rfl := pos_inj s (hn.trans hN.symm)
    exact ⟨rfl, hb⟩
  · refine (rshow_ok s hs w).mono ?_
    rintro e w' ⟨n, rfl, hn, hb⟩
    obtain rfl := pos_inj s (hn.trans hN.symm)
    exact ⟨rfl, hb⟩
set_option maxRecDepth 100000 in
theorem usigns_big (r : Int) (s : ByteArray) (i : Int) (w : World) (hs : s.size ≤ 9223372036854775807) (h : 2000 < s.size) :
    Calls Tryd.prog 4 #[.int .i32 r, .string s, .int .i64 i] w fun e w' => e = .returned (.bool true) ∧ Below w.heap.size w w' := by
  have h1 : (2000 : Int) < s.size := by omega
  go_enter Tryd.func4, Tryd.ntmps4
  go_wp2_with fail
  go_ret
  exact ⟨rfl, Below.refl _ _⟩
set_option maxRecDepth 100000 in
set_option maxHeartbeats 2000000 in
theorem usigns_out (r : Int) (s : ByteArray) (i : Int) (w : World) (hT : Tabs w ∧ Deb w) (hs : s.size ≤ 2000) (hr : -2147483648 ≤ r ∧ r ≤ 2147483647) (hi : i < 0 ∨ (s.size : Int) ≤ i) (hi2 : -9223372036854775808 ≤ i ∧ i ≤ 9223372036854775807) :
    Calls Tryd.prog 4 #[.int .i32 r, .string s, .int .i64 i] w fun e w' => e = .returned (.bool true) ∧ Below w.heap.size w w' := by
  have hs' : ¬ (2000 : Int) < s.size := by omega
  have HT := (show Hid (∀ W, Below w.heap.size w W → Tabs W ∧ Deb W) from fun W h => ⟨Utf8Tabs_below hT.1 h, hT.2.below h⟩)
  have hwork := (show Hid (∀ W, Below w.heap.size w W → Calls Tryd.prog 22 #[] W fun e w' => e = .returned (.bool true) ∧ Below W.heap.size W w') from fun W h => works1_ok W (HT.out W h).1 (HT.out W h).2)
  obtain ⟨X, CS0, CR0⟩ := shows_both s (by omega)
  have CS := (show Hid (∀ W, Below w.heap.size w W → Calls Tryd.prog 20 #[.string s] W fun e w' => e = .returned (.string X) ∧ Below W.heap.size W w') from fun W h => CS0 W (HT.out W h).1 (HT.out W h).2)
  have CR := Lib.hid CR0
  clear CS0 CR0 hT
  obtain ⟨B, k, hBk, C17, C18⟩ := enc_both r hr
  have CAt := (show Hid (∀ W, Below w.heap.size w W → Calls Tryd.prog 19 #[.string s, .int .i64 i] W fun e w' => e = .returned (.agg #[.int .i64 0, .int .i64 0, .int .i32 0, .bool false]) ∧ Below W.heap.size W w') from fun W h => at_out s i hi (by omega) W)
  rcases Int.lt_or_le i 0 with hi0 | hi0
  · clear hi
    cases k with
    | false =>
      obtain rfl : B = ⟨#[]⟩ := hBk
      go_enter Tryd.func4, Tryd.ntmps4
      go_wp2_with fail
      refine (C17 _).mono ?_
      rintro e w1 ⟨rfl, rfl⟩
      clear C17
      go_wp2_with fail
      refine (C18 _).mono ?_
      rintro e w2 ⟨rfl, hb2⟩
      have HB2 := Lib.hid hb2
      clear C18 hb2
      go_wp2_with fail
      refine (CAt.out _ HB2.out).mono ?_
      rintro e w3 ⟨rfl, hb3⟩
      have HB3 := Lib.hid ((HB2.out.trans (hb3.mono HB2.out.size)).alloc (HB2.out.trans (hb3.mono HB2.out.size)).size (.cells #[.int .i64 0, .int .i64 0, .int .i32 0, .bool false] 35))
      have hblk := blk_new w3 (.cells #[.int .i64 0, .int .i64 0, .int .i32 0, .bool false] 35)
      have d0 := blk_cell hblk (i := 0) rfl
      have d1 := blk_cell hblk (i := 1) rfl
      have d2 := blk_cell hblk (i := 2) rfl
      have d3 := blk_cell hblk (i := 3) rfl
      clear hb3 hblk
      go_wp2_with fail
      refine (CS.out _ HB3.out).mono ?_
      rintro e w4 ⟨rfl, hb4⟩
      have HB4 := Lib.hid (HB3.out.trans (hb4.mono HB3.out.size))
      have e0 := later_cell hb4 d0
      have e1 := later_cell hb4 d1
      have e2 := later_cell hb4 d2
      have e3 := later_cell hb4 d3
      clear hb4 d0 d1 d2 d3
      go_wp2_with fail
      refine (CR.out _).mono ?_
      rintro e w5 ⟨rfl, hb5⟩
      have HB5 := Lib.hid (HB4.out.trans (hb5.mono HB4.out.size))
      have d0 := later_cell hb5 e0
      have d1 := later_cell hb5 e1
      have d2 := later_cell hb5 e2
      have d3 := later_cell hb5 e3
      clear hb5 e0 e1 e2 e3
      go_wp2_with fail
      refine (hwork.out _ HB5.out).mono ?_
      rintro e w7 ⟨rfl, hb7⟩
      have HB7 := Lib.hid (HB5.out.trans (hb7.mono HB5.out.size))
      clear hb7
      go_wp2_with fail
      go_ret
      exact ⟨rfl, HB7.out⟩
    | true =>
      have hne : ¬ B = ⟨#[]⟩ := hBk
      have hnl : ¬ B.toList = [] := not_nil hne
      have hnl2 : B.toList.isEmpty = false := by rw [List.isEmpty_eq_false_iff]; exact hnl
      clear hBk hne
      go_enter Tryd.func4, Tryd.ntmps4
      go_wp2_with fail
      refine (C17 _).mono ?_
      rintro e w1 ⟨rfl, rfl⟩
      clear C17
      go_wp2_with fail
      refine (C18 _).mono ?_
      rintro e w2 ⟨rfl, hb2⟩
      have HB2 := Lib.hid hb2
      clear C18 hb2
      go_wp2_with fail
      refine (CAt.out _ HB2.out).mono ?_
      rintro e w3 ⟨rfl, hb3⟩
      have HB3 := Lib.hid ((HB2.out.trans (hb3.mono HB2.out.size)).alloc (HB2.out.trans (hb3.mono HB2.out.size)).size (.cells #[.int .i64 0, .int .i64 0, .int .i32 0, .bool false] 35))
      have hblk := blk_new w3 (.cells #[.int .i64 0, .int .i64 0, .int .i32 0, .bool false] 35)
      have d0 := blk_cell hblk (i := 0) rfl
      have d1 := blk_cell hblk (i := 1) rfl
      have d2 := blk_cell hblk (i := 2) rfl
      have d3 := blk_cell hblk (i := 3) rfl
      clear hb3 hblk
      go_wp2_with fail
      refine (CS.out _ HB3.out).mono ?_
      rintro e w4 ⟨rfl, hb4⟩
      have HB4 := Lib.hid (HB3.out.trans (hb4.mono HB3.out.size))
      have e0 := later_cell hb4 d0
      have e1 := later_cell hb4 d1
      have e2 := later_cell hb4 d2
      have e3 := later_cell hb4 d3
      clear hb4 d0 d1 d2 d3
      go_wp2_with fail
      refine (CR.out _).mono ?_
      rintro e w5 ⟨rfl, hb5⟩
      have HB5 := Lib.hid (HB4.out.trans (hb5.mono HB4.out.size))
      have d0 := later_cell hb5 e0
      have d1 := later_cell hb5 e1
      have d2 := later_cell hb5 e2
      have d3 := later_cell hb5 e3
      clear hb5 e0 e1 e2 e3
      go_wp2_with fail
      refine (hwork.out _ HB5.out).mono ?_
      rintro e w7 ⟨rfl, hb7⟩
      have HB7 := Lib.hid (HB5.out.trans (hb7.mono HB5.out.size))
      clear hb7
      go_wp2_with fail
      go_ret
      exact ⟨rfl, HB7.out⟩
  · have hi1 : (s.size : Int) ≤ i := by omega
    have hi0' : ¬ i < 0 := by omega
    clear hi hi0
    cases k with
    | false =>
      obtain rfl : B = ⟨#[]⟩ := hBk
      go_enter Tryd.func4, Tryd.ntmps4
      go_wp2_with fail
      refine (C17 _).mono ?_
      rintro e w1 ⟨rfl, rfl⟩
      clear C17
      go_wp2_with fail
      refine (C18 _).mono ?_
      rintro e w2 ⟨rfl, hb2⟩
      have HB2 := Lib.hid hb2
      clear C18 hb2
      go_wp2_with fail
      refine (CAt.out _ HB2.out).mono ?_
      rintro e w3 ⟨rfl, hb3⟩
      have HB3 := Lib.hid ((HB2.out.trans (hb3.mono HB2.out.size)).alloc (HB2.out.trans (hb3.mono HB2.out.size)).size (.cells #[.int .i64 0, .int .i64 0, .int .i32 0, .bool false] 35))
      have hblk := blk_new w3 (.cells #[.int .i64 0, .int .i64 0, .int .i32 0, .bool false] 35)
      have d0 := blk_cell hblk (i := 0) rfl
      have d1 := blk_cell hblk (i := 1) rfl
      have d2 := blk_cell hblk (i := 2) rfl
      have d3 := blk_cell hblk (i := 3) rfl
      clear hb3 hblk
      go_wp2_with fail
      refine (CS.out _ HB3.out).mono ?_
      rintro e w4 ⟨rfl, hb4⟩
      have HB4 := Lib.hid (HB3.out.trans (hb4.mono HB3.out.size))
      have e0 := later_cell hb4 d0
      have e1 := later_cell hb4 d1
      have e2 := later_cell hb4 d2
      have e3 := later_cell hb4 d3
      clear hb4 d0 d1 d2 d3
      go_wp2_with fail
      refine (CR.out _).mono ?_
      rintro e w5 ⟨rfl, hb5⟩
      have HB5 := Lib.hid (HB4.out.trans (hb5.mono HB4.out.size))
      have d0 := later_cell hb5 e0
      have d1 := later_cell hb5 e1
      have d2 := later_cell hb5 e2
      have d3 := later_cell hb5 e3
      clear hb5 e0 e1 e2 e3
      go_wp2_with fail
      refine (hwork.out _ HB5.out).mono ?_
      rintro e w7 ⟨rfl, hb7⟩
      have HB7 := Lib.hid (HB5.out.trans (hb7.mono HB5.out.size))
      clear hb7
      go_wp2_with fail
      go_ret
      exact ⟨rfl, HB7.out⟩
    | true =>
      have hne : ¬ B = ⟨#[]⟩ := hBk
      have hnl : ¬ B.toList = [] := not_nil hne
      have hnl2 : B.toList.isEmpty = false := by rw [List.isEmpty_eq_false_iff]; exact hnl
      clear hBk hne
      go_enter Tryd.func4, Tryd.ntmps4
      go_wp2_with fail
      refine (C17 _).mono ?_
      rintro e w1 ⟨rfl, rfl⟩
      clear C17
      go_wp2_with fail
      refine (C18 _).mono ?_
      rintro e w2 ⟨rfl, hb2⟩
      have HB2 := Lib.hid hb2
      clear C18 hb2
      go_wp2_with fail
      refine (CAt.out _ HB2.out).mono ?_
      rintro e w3 ⟨rfl, hb3⟩
      have HB3 := Lib.hid ((HB2.out.trans (hb3.mono HB2.out.size)).alloc (HB2.out.trans (hb3.mono HB2.out.size)).size (.cells #[.int .i64 0, .int .i64 0, .int .i32 0, .bool false] 35))
      have hblk := blk_new w3 (.cells #[.int .i64 0, .int .i64 0, .int .i32 0, .bool false] 35)
      have d0 := blk_cell hblk (i := 0) rfl
      have d1 := blk_cell hblk (i := 1) rfl
      have d2 := blk_cell hblk (i := 2) rfl
      have d3 := blk_cell hblk (i := 3) rfl
      clear hb3 hblk
      go_wp2_with fail
      refine (CS.out _ HB3.out).mono ?_
      rintro e w4 ⟨rfl, hb4⟩
      have HB4 := Lib.hid (HB3.out.trans (hb4.mono HB3.out.size))
      have e0 := later_cell hb4 d0
      have e1 := later_cell hb4 d1
      have e2 := later_cell hb4 d2
      have e3 := later_cell hb4 d3
      clear hb4 d0 d1 d2 d3
      go_wp2_with fail
      refine (CR.out _).mono ?_
      rintro e w5 ⟨rfl, hb5⟩
      have HB5 := Lib.hid (HB4.out.trans (hb5.mono HB4.out.size))
      have d0 := later_cell hb5 e0
      have d1 := later_cell hb5 e1
      have d2 := later_cell hb5 e2
      have d3 := later_cell hb5 e3
      clear hb5 e0 e1 e2 e3
      go_wp2_with fail
      refine (hwork.out _ HB5.out).mono ?_
      rintro e w7 ⟨rfl, hb7⟩
      have HB7 := Lib.hid (HB5.out.trans (hb7.mono HB5.out.size))
      clear hb7
      go_wp2_with fail
      go_ret
      exact ⟨rfl, HB7.out⟩
set_option maxRecDepth 100000 in
set_option maxHeartbeats 2000000 in
theorem usigns_in (r : Int) (s : ByteArray) (i : Nat) (w : World) (hT : Tabs w ∧ Deb w) (hs : s.size ≤ 2000) (hr : -2147483648 ≤ r ∧ r ≤ 2147483647) (hi : i < s.size) :
    Calls Tryd.prog 4 #[.int .i32 r, .string s, .int .i64 i] w fun e w' => e = .returned (.bool true) ∧ Below w.heap.size w w' := by
  have hs' : ¬ (2000 : Int) < s.size := by omega
  have HT := (show Hid (∀ W, Below w.heap.size w W → Tabs W ∧ Deb W) from fun W h => ⟨Utf8Tabs_below hT.1 h, hT.2.below h⟩)
  have hwork := (show Hid (∀ W, Below w.heap.size w W → Calls Tryd.prog 22 #[] W fun e w' => e = .returned (.bool true) ∧ Below W.heap.size W w') from fun W h => works1_ok W (HT.out W h).1 (HT.out W h).2)
  obtain ⟨X, CS0, CR0⟩ := shows_both s (by omega)
  have CS := (show Hid (∀ W, Below w.heap.size w W → Calls Tryd.prog 20 #[.string s] W fun e w' => e = .returned (.string X) ∧ Below W.heap.size W w') from fun W h => CS0 W (HT.out W h).1 (HT.out W h).2)
  have CR := Lib.hid CR0
  clear CS0 CR0 hT
  obtain ⟨B, k, hBk, C17, C18⟩ := enc_both r hr
  have hi1 : (i : Int) < (s.size : Int) := by omega
  have CAt := (show Hid (∀ W, Below w.heap.size w W → Calls Tryd.prog 19 #[.string s, .int .i64 i] W fun e w' => e = .returned (itemAt s i) ∧ Below W.heap.size W w') from fun W h => at_in s i hi (by omega) W (HT.out W h).1)
  have CRA := (show Hid (∀ W : World, Calls Tryd.prog 23 #[.string s, .int .i64 i] W fun e w' => e = .returned (.tuple #[.int .i64 (runeAt s i), .int .i64 (wid s i : Nat)]) ∧ Below W.heap.size W w') from fun W => rat_dec s i hi (by omega) W)
  obtain ⟨b1, b2, b3⟩ := dec_bounds s i
  unfold itemAt itemV at CAt
  unfold runeAt wid at CRA
  generalize (dec s i).1 = u at *
  generalize (dec s i).2 = z at *
  cases hok : okAt s i with
  | false =>
    simp only [hok, Bool.false_eq_true, if_false] at CAt CRA
    clear hok b1 b2 b3
    cases k with
    | false =>
      obtain rfl : B = ⟨#[]⟩ := hBk
      go_enter Tryd.func4, Tryd.ntmps4
      go_wp2_with fail
      refine (C17 _).mono ?_
      rintro e w1 ⟨rfl, rfl⟩
      clear C17
      go_wp2_with fail
      refine (C18 _).mono ?_
      rintro e w2 ⟨rfl, hb2⟩
      have HB2 := Lib.hid hb2
      clear C18 hb2
      go_wp2_with fail
      refine (CAt.out _ HB2.out).mono ?_
      rintro e w3 ⟨rfl, hb3⟩
      have HB3 := Lib.hid ((HB2.out.trans (hb3.mono HB2.out.size)).alloc (HB2.out.trans (hb3.mono HB2.out.size)).size (.cells #[.int .i64 i, .int .i64 1, .int .i32 65533, .bool false] 35))
      have hblk := blk_new w3 (.cells #[.int .i64 i, .int .i64 1, .int .i32 65533, .bool false] 35)
      have d0 := blk_cell hblk (i := 0) rfl
      have d1 := blk_cell hblk (i := 1) rfl
      have d2 := blk_cell hblk (i := 2) rfl
      have d3 := blk_cell hblk (i := 3) rfl
      clear hb3 hblk
      go_wp2_with fail
      refine (CS.out _ HB3.out).mono ?_
      rintro e w4 ⟨rfl, hb4⟩
      have HB4 := Lib.hid (HB3.out.trans (hb4.mono HB3.out.size))
      have e0 := later_cell hb4 d0
      have e1 := later_cell hb4 d1
      have e2 := later_cell hb4 d2
      have e3 := later_cell hb4 d3
      clear hb4 d0 d1 d2 d3
      go_wp2_with fail
      refine (CR.out _).mono ?_
      rintro e w5 ⟨rfl, hb5⟩
      have HB5 := Lib.hid (HB4.out.trans (hb5.mono HB4.out.size))
      have d0 := later_cell hb5 e0
      have d1 := later_cell hb5 e1
      have d2 := later_cell hb5 e2
      have d3 := later_cell hb5 e3
      clear hb5 e0 e1 e2 e3
      go_wp2_with fail
      refine (CRA.out _).mono ?_
      rintro e w6 ⟨rfl, hb6⟩
      have HB6 := Lib.hid (HB5.out.trans (hb6.mono HB5.out.size))
      have e0 := later_cell hb6 d0
      have e1 := later_cell hb6 d1
      have e2 := later_cell hb6 d2
      have e3 := later_cell hb6 d3
      clear hb6 d0 d1 d2 d3
      go_wp2_with fail
      refine (hwork.out _ HB6.out).mono ?_
      rintro e w7 ⟨rfl, hb7⟩
      have HB7 := Lib.hid (HB6.out.trans (hb7.mono HB6.out.size))
      clear hb7
      go_wp2_with fail
      go_ret
      exact ⟨rfl, HB7.out⟩
    | true =>
      have hne : ¬ B = ⟨#[]⟩ := hBk
      have hnl : ¬ B.toList = [] := not_nil hne
      have hnl2 : B.toList.isEmpty = false := by rw [List.isEmpty_eq_false_iff]; exact hnl
      clear hBk hne
      go_enter Tryd.func4, Tryd.ntmps4
      go_wp2_with fail
      refine (C17 _).mono ?_
      rintro e w1 ⟨rfl, rfl⟩
      clear C17
      go_wp2_with fail
      refine (C18 _).mono ?_
      rintro e w2 ⟨rfl, hb2⟩
      have HB2 := Lib.hid hb2
      clear C18 hb2
      go_wp2_with fail
      refine (CAt.out _ HB2.out).mono ?_
      rintro e w3 ⟨rfl, hb3⟩
      have HB3 := Lib.hid ((HB2.out.trans (hb3.mono HB2.out.size)).alloc (HB2.out.trans (hb3.mono HB2.out.size)).size (.cells #[.int .i64 i, .int .i64 1, .int .i32 65533, .bool false] 35))
      have hblk := blk_new w3 (.cells #[.int .i64 i, .int .i64 1, .int .i32 65533, .bool false] 35)
      have d0 := blk_cell hblk (i := 0) rfl
      have d1 := blk_cell hblk (i := 1) rfl
      have d2 := blk_cell hblk (i := 2) rfl
      have d3 := blk_cell hblk (i := 3) rfl
      clear hb3 hblk
      go_wp2_with fail
      refine (CS.out _ HB3.out).mono ?_
      rintro e w4 ⟨rfl, hb4⟩
      have HB4 := Lib.hid (HB3.out.trans (hb4.mono HB3.out.size))
      have e0 := later_cell hb4 d0
      have e1 := later_cell hb4 d1
      have e2 := later_cell hb4 d2
      have e3 := later_cell hb4 d3
      clear hb4 d0 d1 d2 d3
      go_wp2_with fail
      refine (CR.out _).mono ?_
      rintro e w5 ⟨rfl, hb5⟩
      have HB5 := Lib.hid (HB4.out.trans (hb5.mono HB4.out.size))
      have d0 := later_cell hb5 e0
      have d1 := later_cell hb5 e1
      have d2 := later_cell hb5 e2
      have d3 := later_cell hb5 e3
      clear hb5 e0 e1 e2 e3
      go_wp2_with fail
      refine (CRA.out _).mono ?_
      rintro e w6 ⟨rfl, hb6⟩
      have HB6 := Lib.hid (HB5.out.trans (hb6.mono HB5.out.size))
      have e0 := later_cell hb6 d0
      have e1 := later_cell hb6 d1
      have e2 := later_cell hb6 d2
      have e3 := later_cell hb6 d3
      clear hb6 d0 d1 d2 d3
      go_wp2_with fail
      refine (hwork.out _ HB6.out).mono ?_
      rintro e w7 ⟨rfl, hb7⟩
      have HB7 := Lib.hid (HB6.out.trans (hb7.mono HB6.out.size))
      clear hb7
      go_wp2_with fail
      go_ret
      exact ⟨rfl, HB7.out⟩
  | true =>
    simp only [hok, if_true] at CAt CRA
    clear hok
    have u0 : ¬ (u : Int) < 0 := by omega
    have u1 : (0 : Int) ≤ (u : Int) := by omega
    have u2 : IntKind.i32.wrap (u : Int) = (u : Int) := by unfold IntKind.wrap; simp [IntKind.bits, IntKind.signed]; omega
    cases k with
    | false =>
      obtain rfl : B = ⟨#[]⟩ := hBk
      go_enter Tryd.func4, Tryd.ntmps4
      go_wp2_with fail
      refine (C17 _).mono ?_
      rintro e w1 ⟨rfl, rfl⟩
      clear C17
      go_wp2_with fail
      refine (C18 _).mono ?_
      rintro e w2 ⟨rfl, hb2⟩
      have HB2 := Lib.hid hb2
      clear C18 hb2
      go_wp2_with fail
      refine (CAt.out _ HB2.out).mono ?_
      rintro e w3 ⟨rfl, hb3⟩
      have HB3 := Lib.hid ((HB2.out.trans (hb3.mono HB2.out.size)).alloc (HB2.out.trans (hb3.mono HB2.out.size)).size (.cells #[.int .i64 i, .int .i64 z, .int .i32 u, .bool true] 35))
      have hblk := blk_new w3 (.cells #[.int .i64 i, .int .i64 z, .int .i32 u, .bool true] 35)
      have d0 := blk_cell hblk (i := 0) rfl
      have d1 := blk_cell hblk (i := 1) rfl
      have d2 := blk_cell hblk (i := 2) rfl
      have d3 := blk_cell hblk (i := 3) rfl
      clear hb3 hblk
      go_wp2_with fail
      refine (CS.out _ HB3.out).mono ?_
      rintro e w4 ⟨rfl, hb4⟩
      have HB4 := Lib.hid (HB3.out.trans (hb4.mono HB3.out.size))
      have e0 := later_cell hb4 d0
      have e1 := later_cell hb4 d1
      have e2 := later_cell hb4 d2
      have e3 := later_cell hb4 d3
      clear hb4 d0 d1 d2 d3
      go_wp2_with fail
      refine (CR.out _).mono ?_
      rintro e w5 ⟨rfl, hb5⟩
      have HB5 := Lib.hid (HB4.out.trans (hb5.mono HB4.out.size))
      have d0 := later_cell hb5 e0
      have d1 := later_cell hb5 e1
      have d2 := later_cell hb5 e2
      have d3 := later_cell hb5 e3
      clear hb5 e0 e1 e2 e3
      go_wp2_with fail
      refine (CRA.out _).mono ?_
      rintro e w6 ⟨rfl, hb6⟩
      have HB6 := Lib.hid (HB5.out.trans (hb6.mono HB5.out.size))
      have e0 := later_cell hb6 d0
      have e1 := later_cell hb6 d1
      have e2 := later_cell hb6 d2
      have e3 := later_cell hb6 d3
      clear hb6 d0 d1 d2 d3
      go_wp2_with fail
      refine (hwork.out _ HB6.out).mono ?_
      rintro e w7 ⟨rfl, hb7⟩
      have HB7 := Lib.hid (HB6.out.trans (hb7.mono HB6.out.size))
      clear hb7
      go_wp2_with fail
      go_ret
      exact ⟨rfl, HB7.out⟩
    | true =>
      have hne : ¬ B = ⟨#[]⟩ := hBk
      have hnl : ¬ B.toList = [] := not_nil hne
      have hnl2 : B.toList.isEmpty = false := by rw [List.isEmpty_eq_false_iff]; exact hnl
      clear hBk hne
      go_enter Tryd.func4, Tryd.ntmps4
      go_wp2_with fail
      refine (C17 _).mono ?_
      rintro e w1 ⟨rfl, rfl⟩
      clear C17
      go_wp2_with fail
      refine (C18 _).mono ?_
      rintro e w2 ⟨rfl, hb2⟩
      have HB2 := Lib.hid hb2
      clear C18 hb2
      go_wp2_with fail
      refine (CAt.out _ HB2.out).mono ?_
      rintro e w3 ⟨rfl, hb3⟩
      have HB3 := Lib.hid ((HB2.out.trans (hb3.mono HB2.out.size)).alloc (HB2.out.trans (hb3.mono HB2.out.size)).size (.cells #[.int .i64 i, .int .i64 z, .int .i32 u, .bool true] 35))
      have hblk := blk_new w3 (.cells #[.int .i64 i, .int .i64 z, .int .i32 u, .bool true] 35)
      have d0 := blk_cell hblk (i := 0) rfl
      have d1 := blk_cell hblk (i := 1) rfl
      have d2 := blk_cell hblk (i := 2) rfl
      have d3 := blk_cell hblk (i := 3) rfl
      clear hb3 hblk
      go_wp2_with fail
      refine (CS.out _ HB3.out).mono ?_
      rintro e w4 ⟨rfl, hb4⟩
      have HB4 := Lib.hid (HB3.out.trans (hb4.mono HB3.out.size))
      have e0 := later_cell hb4 d0
      have e1 := later_cell hb4 d1
      have e2 := later_cell hb4 d2
      have e3 := later_cell hb4 d3
      clear hb4 d0 d1 d2 d3
      go_wp2_with fail
      refine (CR.out _).mono ?_
      rintro e w5 ⟨rfl, hb5⟩
      have HB5 := Lib.hid (HB4.out.trans (hb5.mono HB4.out.size))
      have d0 := later_cell hb5 e0
      have d1 := later_cell hb5 e1
      have d2 := later_cell hb5 e2
      have d3 := later_cell hb5 e3
      clear hb5 e0 e1 e2 e3
      go_wp2_with fail
      refine (CRA.out _).mono ?_
      rintro e w6 ⟨rfl, hb6⟩
      have HB6 := Lib.hid (HB5.out.trans (hb6.mono HB5.out.size))
      have e0 := later_cell hb6 d0
      have e1 := later_cell hb6 d1
      have e2 := later_cell hb6 d2
      have e3 := later_cell hb6 d3
      clear hb6 d0 d1 d2 d3
      go_wp2_with fail
      refine (hwork.out _ HB6.out).mono ?_
      rintro e w7 ⟨rfl, hb7⟩
      have HB7 := Lib.hid (HB6.out.trans (hb7.mono HB6.out.size))
      clear hb7
      go_wp2_with fail
      go_ret
      exact ⟨rfl, HB7.out⟩
theorem utfSigns_walk (r : Int) (s : ByteArray) (i : Int) (w : World) (hT : Tabs w ∧ Deb w) (hr : -2147483648 ≤ r ∧ r ≤ 2147483647) (hs : s.size ≤ 9223372036854775807) (hi : -9223372036854775808 ≤ i ∧ i ≤ 9223372036854775807) :
    Calls Tryd.prog 4 #[.int .i32 r, .string s, .int .i64 i] w fun e w' => e = .returned (.bool true) ∧ Below w.heap.size w w' := by
  by_cases h : 2000 < s.size
  · exact usigns_big r s i w hs h
  · by_cases h1 : 0 ≤ i ∧ i < s.size
    · obtain ⟨n, rfl⟩ : ∃ n : Nat, i = n := ⟨i.toNat, by omega⟩
      exact usigns_in r s n w hT (by omega) hr (by omega)
    · exact usigns_out r s i w hT (by omega) hr (by omega) hi
end Go.Proofs.YtpmgccjhflcoiaaDoor
