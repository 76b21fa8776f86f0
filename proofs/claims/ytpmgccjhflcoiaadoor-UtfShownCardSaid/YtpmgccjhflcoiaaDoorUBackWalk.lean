/-
  The walk of UtfBack. No condition beyond those that each theorem states.
-/
import Derived.Test.YtpmgccjhflcoiaaDoorItemsWalk
import Derived.Test.YtpmgccjhflcoiaaDoorJoinM
namespace Go.Proofs.YtpmgccjhflcoiaaDoor
open Go.RowKit
set_option linter.unusedSimpArgs false
set_option linter.unusedVariables false

theorem count_some (s : ByteArray) : ∃ m, pos s m = s.size := (caret_iff s s.size (Nat.le_refl _)).1 (caret_end2 s)
theorem pos_tail2 (a b : ByteArray) (m : Nat) (hm : pos b m = b.size) (j : Nat) (hj : j ≤ m) : posF (a ++ b) a.size j = a.size + pos b j := by
  induction j with
  | zero => rfl
  | succ j ih =>
    have h1 := ih (by omega)
    have h2 := (pos_below b hm).1 (show j < m by omega)
    have e1 : posF (a ++ b) a.size (j + 1) = posF (a ++ b) a.size j + wid (a ++ b) (posF (a ++ b) a.size j) := rfl
    have e2 : pos b (j + 1) = pos b j + wid b (pos b j) := rfl
    rw [e1, e2, h1, (item_tail a b (pos b j) h2).2.1]
    omega
theorem wid_enc (r : Nat) (hr : isSign r) (s : ByteArray) : wid (bytesOf (encN r) ++ s) 0 = (bytesOf (encN r)).size := by
  obtain ⟨h1, h2⟩ := enc_first r hr s
  unfold wid
  rw [if_pos h1, h2, enc_size]
theorem pos_enc (r : Nat) (hr : isSign r) (s : ByteArray) (m : Nat) (hm : pos s m = s.size) (j : Nat) (hj : j ≤ m) : pos (bytesOf (encN r) ++ s) (1 + j) = (bytesOf (encN r)).size + pos s j := by
  have h0 : pos (bytesOf (encN r) ++ s) 1 = (bytesOf (encN r)).size := by
    have e : pos (bytesOf (encN r) ++ s) 1 = 0 + wid (bytesOf (encN r) ++ s) 0 := rfl
    rw [e, wid_enc r hr s, Nat.zero_add]
  rw [← pos_tail2 _ s m hm j hj, ← h0, posF_pos]
theorem right_enc (r : Nat) (hr : isSign r) (s : ByteArray) (m : Nat) (hm : pos s m = s.size) : rightB (bytesOf (encN r) ++ s) = rightB s := by
  have hz : (bytesOf (encN r) ++ s).size = (bytesOf (encN r)).size + s.size := ByteArray.size_append
  have ht := pos_enc r hr s m hm m (Nat.le_refl _)
  rw [hm, ← hz] at ht
  rw [right_is s m hm, right_is _ (1 + m) ht, Bool.eq_iff_iff, rightK_iff, rightK_iff]
  constructor
  · intro h j hj
    have := h (1 + j) (by omega)
    rw [pos_enc r hr s m hm j (by omega), (item_tail _ s _ ((pos_below s hm).1 hj)).1] at this
    exact this
  · intro h j hj
    cases j with
    | zero => exact (enc_first r hr s).1
    | succ j =>
      rw [show j + 1 = 1 + j from by omega, pos_enc r hr s m hm j (by omega), (item_tail _ s _ ((pos_below s hm).1 (by omega))).1]
      exact h j (by omega)
theorem encN_len (r : Nat) : (encN r).length ≤ 4 := by
  unfold encN
  repeat' split
  all_goals simp
theorem caret_neg (s : ByteArray) : caretI s (-1) = false := by
  unfold caretI
  rw [decide_eq_false (by omega), Bool.false_and]
theorem caret_past (s : ByteArray) : caretI s ((s.size : Int) + 1) = false := by
  unfold caretI
  rw [decide_eq_false (by omega), Bool.false_and]
theorem caret_pos (s : ByteArray) (k : Nat) (h : pos s k ≤ s.size) : caretI s (pos s k : Nat) = true := by
  rw [caretI_nat s _ h]
  exact (caret_iff s _ h).2 ⟨k, rfl⟩
/-- what Items tells, in one form -/
def ItemsForm (s : ByteArray) (w : World) (e : Ending) (w' : World) : Prop := ∃ (n g cap : Nat) (a : Option Addr), pos s n = s.size ∧ e = .returned (.slice a n cap) ∧ (0 < n → a = some ⟨g, 0, none⟩) ∧ RowI s w' g n ∧ Below w.heap.size w w'
theorem items_form (s : ByteArray) (hs : s.size ≤ 1000000) (w : World) (hT : Tabs w) : Calls Tryd.prog 32 #[.string s] w (ItemsForm s w) := by
  refine (items_ok s hs w hT).mono ?_
  rintro e w' ⟨n, g, cap, hn, rfl, hr, hb⟩
  by_cases h : n = 0
  · subst h
    exact ⟨0, g, 0, none, hn, rfl, fun h => by omega, hr, hb⟩
  · rw [if_neg h]
    exact ⟨n, g, cap, _, hn, rfl, fun _ => rfl, hr, hb⟩
set_option maxRecDepth 100000 in
theorem uback_big (r : Int) (s : ByteArray) (w : World) (hs : s.size ≤ 9223372036854775807) (h : 1000 < s.size) :
    Calls Tryd.prog 13 #[.int .i32 r, .string s] w fun e w' => e = .returned (.bool true) ∧ Below w.heap.size w w' := by
  have h1 : (1000 : Int) < s.size := by omega
  go_enter Tryd.func13, Tryd.ntmps13
  go_wp2_with fail
  go_ret
  exact ⟨rfl, Below.refl _ _⟩
set_option maxRecDepth 100000 in
set_option maxHeartbeats 2000000 in
theorem uback_in (r : Int) (s : ByteArray) (w : World) (hT : Tabs w ∧ Deb w) (hs : s.size ≤ 1000) (hr : -2147483648 ≤ r ∧ r ≤ 2147483647) :
    Calls Tryd.prog 13 #[.int .i32 r, .string s] w fun e w' => e = .returned (.bool true) ∧ Below w.heap.size w w' := by
  have hs' : ¬ (1000 : Int) < s.size := by omega
  have HT := (show Hid (∀ W, Below w.heap.size w W → Tabs W ∧ Deb W) from fun W h => ⟨Utf8Tabs_below hT.1 h, hT.2.below h⟩)
  have hwork := (show Hid (∀ W, Below w.heap.size w W → Calls Tryd.prog 22 #[] W fun e w' => e = .returned (.bool true) ∧ Below W.heap.size W w') from fun W h => works1_ok W (HT.out W h).1 (HT.out W h).2)
  have CI := (show Hid (∀ W, Below w.heap.size w W → Calls Tryd.prog 32 #[.string s] W (ItemsForm s W)) from fun W h => items_form s (by omega) W (HT.out W h).1)
  have CC := (show Hid (∀ i W, Below w.heap.size w W → Calls Tryd.prog 33 #[.string s, .int .i64 i] W fun e w' => e = .returned (.bool (caretI s i)) ∧ Below W.heap.size W w') from fun i W h => ucaret_ok s i (by omega) W (HT.out W h).1)
  clear hT
  have hB0 := Lib.hid (Below.refl w.heap.size w)
  by_cases hsg : isSign r
  · obtain ⟨r, rfl⟩ : ∃ n : Nat, r = n := ⟨r.toNat, by have := hsg.1; omega⟩
    have c1 := uenc_yes r hsg w
    have hz : (bytesOf (encN r) ++ s).size = (bytesOf (encN r)).size + s.size := ByteArray.size_append
    have hz4 : (bytesOf (encN r)).size ≤ 4 := by rw [enc_size]; exact encN_len r
    have hz1 : 1 ≤ (bytesOf (encN r)).size := by
      have := wid_pos (bytesOf (encN r) ++ s) 0
      rw [wid_enc r hsg s] at this
      exact this.1
    have hitem : itemAt (bytesOf (encN r) ++ s) 0 = .agg #[.int .i64 0, .int .i64 ((bytesOf (encN r)).size : Nat), .int .i32 (r : Nat), .bool true] := by
      obtain ⟨e1, e2⟩ := enc_first r hsg s
      unfold itemAt itemV
      rw [if_pos e1, e2, enc_size]
      rfl
    have CAt := (show Hid (∀ W, Below w.heap.size w W → Calls Tryd.prog 19 #[.string (bytesOf (encN r) ++ s), .int .i64 0] W fun e w' => e = .returned (.agg #[.int .i64 0, .int .i64 ((bytesOf (encN r)).size : Nat), .int .i32 (r : Nat), .bool true]) ∧ Below W.heap.size W w') from fun W h => by
      rw [← hitem]
      exact at_in _ 0 (by omega) (by omega) W (HT.out W h).1)
    have CN1 := (show Hid (∀ W, Below w.heap.size w W → Calls Tryd.prog 37 #[.string s] W fun e w' => ∃ m : Nat, e = .returned (.int .i64 m) ∧ pos s m = s.size ∧ Below W.heap.size W w') from fun W h => ucount_ok s (by omega) W (HT.out W h).1)
    have CN2 := (show Hid (∀ W, Below w.heap.size w W → Calls Tryd.prog 37 #[.string (bytesOf (encN r) ++ s)] W fun e w' => ∃ m : Nat, e = .returned (.int .i64 (1 + (m : Int))) ∧ pos s m = s.size ∧ Below W.heap.size W w') from fun W h => by
      refine (ucount_ok (bytesOf (encN r) ++ s) (by omega) W (HT.out W h).1).mono ?_
      rintro e w' ⟨k, rfl, hk, hb⟩
      have hk0 : k ≠ 0 := by
        rintro rfl
        have : pos (bytesOf (encN r) ++ s) 0 = 0 := rfl
        omega
      obtain ⟨m, hm⟩ : ∃ m, pos s m = s.size := count_some s
      have h2 := pos_enc r hsg s m hm m (Nat.le_refl _)
      rw [hm, ← hz] at h2
      have := pos_inj _ (hk.trans h2.symm)
      subst this
      exact ⟨m, by congr 2, hm, hb⟩)
    have CR1 := (show Hid (∀ W, Below w.heap.size w W → Calls Tryd.prog 36 #[.string s] W fun e w' => e = .returned (.bool (rightB s)) ∧ Below W.heap.size W w') from fun W h => right_ok s W (by omega) (HT.out W h).1)
    have CR2 := (show Hid (∀ W, Below w.heap.size w W → Calls Tryd.prog 36 #[.string (bytesOf (encN r) ++ s)] W fun e w' => e = .returned (.bool (rightB s)) ∧ Below W.heap.size W w') from fun W h => by
      obtain ⟨m, hm⟩ : ∃ m, pos s m = s.size := count_some s
      rw [← right_enc r hsg s m hm]
      exact right_ok _ W (by omega) (HT.out W h).1)
    generalize bytesOf (encN r) = B at *
    have hadd : ¬ 9223372036854775807 < B.size + s.size := by omega
    have z1 : (B.size : Int) ≤ 4 := by omega
    have HBZ := Lib.hid hz
    clear hz hitem
    go_enter Tryd.func13, Tryd.ntmps13
    go_wp2_with fail
    refine c1.mono ?_
    rintro e w' ⟨rfl, rfl⟩
    clear c1
    go_upto_if 19 with fail
    go_cut [7] (fun s7 wd => Below w.heap.size w wd)
    case first =>
      go_wp2_with fail
      refine (CAt.out _ hB0.out).mono ?_
      rintro e w2 ⟨rfl, hb2⟩
      have HB2 := Lib.hid (hb2.alloc hb2.size (.cells #[.int .i64 0, .int .i64 (B.size : Nat), .int .i32 (r : Nat), .bool true] 35))
      clear hb2
      go_wp2_with fail
      refine (CN2.out _ HB2.out).mono ?_
      rintro e w3 ⟨m, rfl, hm, hb3⟩
      have HB3 := Lib.hid (HB2.out.trans (hb3.mono HB2.out.size))
      have hmp := pos_ge s m
      have hm1 : (m : Int) ≤ 1000 := by omega
      have HM := Lib.hid hm
      clear hb3 hm hmp
      go_wp2_with fail
      refine (CN1.out _ HB3.out).mono ?_
      rintro e w4 ⟨m', rfl, hm', hb4⟩
      obtain rfl := pos_inj s (hm'.trans HM.out.symm)
      have HB4 := Lib.hid (HB3.out.trans (hb4.mono HB3.out.size))
      clear hb4 hm'
      go_wp2_with fail
      refine (CR2.out _ HB4.out).mono ?_
      rintro e w5 ⟨rfl, hb5⟩
      have HB5 := Lib.hid (HB4.out.trans (hb5.mono HB4.out.size))
      clear hb5
      go_wp2_with fail
      refine (CR1.out _ HB5.out).mono ?_
      rintro e w6 ⟨rfl, hb6⟩
      have HB6 := Lib.hid (HB5.out.trans (hb6.mono HB5.out.size))
      clear hb6
      go_wp2_with fail
      go_meet
      case rel => exact HB6.out
    case rest =>
      have hBx := Lib.hid hcut
      clear hcut
      go_wp2_with fail
      refine (CI.out _ hBx.out).mono ?_
      rintro e w7 ⟨n, g, cap, a, hn, rfl, ha, hrow, hb7⟩
      have HB7 := hBx.out.trans (hb7.mono hBx.out.size)
      have HN := Lib.hid hn
      have HA := Lib.hid ha
      have hnp := pos_ge s n
      have hn1 : n ≤ 1000 := by omega
      clear hb7 hn ha hnp
      go_wp2_with fail
      go_loopg [8, 10] n (fun gh s8 s10 W => ∃ k : Nat, s8 = .int .i64 (pos s k : Nat) ∧ s10 = .int .i64 (k : Int) ∧ k ≤ n ∧ n ≤ gh + k ∧ RowI s W g n ∧ Below w.heap.size w W)
      case atStart => exact ⟨0, rfl, rfl, Nat.zero_le _, Nat.le_refl _, hrow, HB7⟩
      case round =>
        clear hrow HB7
        obtain ⟨k, rfl, rfl, hkn, hg, hrow, hb⟩ := hrel
        by_cases hlt : k < n
        · obtain rfl := HA.out (by omega)
          have hlt' : (k : Int) < (n : Int) := by omega
          have hin := (pos_below s HN.out).1 hlt
          have hcells := hrow k hlt
          have hc0 := hcells.1
          have hc1 := hcells.2.1
          have cc := CC.out (pos s k : Nat) wr hb
          rw [caret_pos s k (by omega)] at cc
          have hw := wid_pos s (pos s k)
          have hwi := wid_in s (pos s k) hin
          have Hnx := (show Hid (pos s (k + 1) = pos s k + wid s (pos s k)) from rfl)
          have HROW := Lib.hid hrow
          clear hrow hcells
          generalize wid s (pos s k) = z at *
          generalize pos s k = q at *
          have hz1' : ¬ (z : Int) < 1 := by omega
          go_wp2_with fail
          refine cc.mono ?_
          rintro e w8 ⟨rfl, hb8⟩
          have hrw := Lib.hid (HROW.out.later hb8)
          have hd1 := later_cell hb8 hc1
          have HB8 := Lib.hid (hb.trans (hb8.mono hb.size))
          clear cc hb8 hc0 hc1
          go_wp2_with fail
          go_roundg (gk - 1)
          case measure => omega
          case rel => exact ⟨k + 1, by rw [Hnx.out]; go_num, by go_num, by omega, by omega, hrw.out, HB8.out⟩
        · obtain rfl : k = n := by omega
          have hps : pos s k = s.size := HN.out
          rw [hps]
          have hlt' : ¬ (k : Int) < (k : Int) := by omega
          have cc1 := CC.out (s.size : Nat) wr hb
          rw [show caretI s (s.size : Nat) = true from by rw [caretI_nat s _ (Nat.le_refl _)]; exact caret_end2 s] at cc1
          have CC2 := (show Hid (∀ W, Below w.heap.size w W → Calls Tryd.prog 33 #[.string s, .int .i64 (-1)] W fun e w' => e = .returned (.bool false) ∧ Below W.heap.size W w') from fun W h => by
            rw [← caret_neg s]; exact CC.out (-1) W h)
          have CC3 := (show Hid (∀ W, Below w.heap.size w W → Calls Tryd.prog 33 #[.string s, .int .i64 ((s.size : Int) + 1)] W fun e w' => e = .returned (.bool false) ∧ Below W.heap.size W w') from fun W h => by
            rw [← caret_past s]; exact CC.out _ W h)
          clear hrow hps
          go_wp2_with fail
          refine cc1.mono ?_
          rintro e w8 ⟨rfl, hb8⟩
          have HB8 := Lib.hid (hb.trans (hb8.mono hb.size))
          clear cc1 hb8
          go_wp2_with fail
          refine (CC2.out _ HB8.out).mono ?_
          rintro e w9 ⟨rfl, hb9⟩
          have HB9 := Lib.hid (HB8.out.trans (hb9.mono HB8.out.size))
          clear hb9
          go_wp2_with fail
          refine (CC3.out _ HB9.out).mono ?_
          rintro e w10 ⟨rfl, hb10⟩
          have HB10 := Lib.hid (HB9.out.trans (hb10.mono HB9.out.size))
          clear hb10
          go_wp2_with fail
          refine (hwork.out _ HB10.out).mono ?_
          rintro e w11 ⟨rfl, hb11⟩
          have HB11 := Lib.hid (HB10.out.trans (hb11.mono HB10.out.size))
          clear hb11
          go_wp2_with fail
          go_ret
          exact ⟨rfl, HB11.out⟩
  · have c1 := uenc_no r hsg w
    have hBx := hB0
    go_enter Tryd.func13, Tryd.ntmps13
    go_wp2_with fail
    refine c1.mono ?_
    rintro e w' ⟨rfl, rfl⟩
    clear c1
    go_wp2_with fail
    refine (CI.out _ hBx.out).mono ?_
    rintro e w7 ⟨n, g, cap, a, hn, rfl, ha, hrow, hb7⟩
    have HB7 := hBx.out.trans (hb7.mono hBx.out.size)
    have HN := Lib.hid hn
    have HA := Lib.hid ha
    have hnp := pos_ge s n
    have hn1 : n ≤ 1000 := by omega
    clear hb7 hn ha hnp
    go_wp2_with fail
    go_loopg [8, 10] n (fun gh s8 s10 W => ∃ k : Nat, s8 = .int .i64 (pos s k : Nat) ∧ s10 = .int .i64 (k : Int) ∧ k ≤ n ∧ n ≤ gh + k ∧ RowI s W g n ∧ Below w.heap.size w W)
    case atStart => exact ⟨0, rfl, rfl, Nat.zero_le _, Nat.le_refl _, hrow, HB7⟩
    case round =>
      clear hrow HB7
      obtain ⟨k, rfl, rfl, hkn, hg, hrow, hb⟩ := hrel
      by_cases hlt : k < n
      · obtain rfl := HA.out (by omega)
        have hlt' : (k : Int) < (n : Int) := by omega
        have hin := (pos_below s HN.out).1 hlt
        have hcells := hrow k hlt
        have hc0 := hcells.1
        have hc1 := hcells.2.1
        have cc := CC.out (pos s k : Nat) wr hb
        rw [caret_pos s k (by omega)] at cc
        have hw := wid_pos s (pos s k)
        have hwi := wid_in s (pos s k) hin
        have Hnx := (show Hid (pos s (k + 1) = pos s k + wid s (pos s k)) from rfl)
        have HROW := Lib.hid hrow
        clear hrow hcells
        generalize wid s (pos s k) = z at *
        generalize pos s k = q at *
        have hz1' : ¬ (z : Int) < 1 := by omega
        go_wp2_with fail
        refine cc.mono ?_
        rintro e w8 ⟨rfl, hb8⟩
        have hrw := Lib.hid (HROW.out.later hb8)
        have hd1 := later_cell hb8 hc1
        have HB8 := Lib.hid (hb.trans (hb8.mono hb.size))
        clear cc hb8 hc0 hc1
        go_wp2_with fail
        go_roundg (gk - 1)
        case measure => omega
        case rel => exact ⟨k + 1, by rw [Hnx.out]; go_num, by go_num, by omega, by omega, hrw.out, HB8.out⟩
      · obtain rfl : k = n := by omega
        have hps : pos s k = s.size := HN.out
        rw [hps]
        have hlt' : ¬ (k : Int) < (k : Int) := by omega
        have cc1 := CC.out (s.size : Nat) wr hb
        rw [show caretI s (s.size : Nat) = true from by rw [caretI_nat s _ (Nat.le_refl _)]; exact caret_end2 s] at cc1
        have CC2 := (show Hid (∀ W, Below w.heap.size w W → Calls Tryd.prog 33 #[.string s, .int .i64 (-1)] W fun e w' => e = .returned (.bool false) ∧ Below W.heap.size W w') from fun W h => by
          rw [← caret_neg s]; exact CC.out (-1) W h)
        have CC3 := (show Hid (∀ W, Below w.heap.size w W → Calls Tryd.prog 33 #[.string s, .int .i64 ((s.size : Int) + 1)] W fun e w' => e = .returned (.bool false) ∧ Below W.heap.size W w') from fun W h => by
          rw [← caret_past s]; exact CC.out _ W h)
        clear hrow hps
        go_wp2_with fail
        refine cc1.mono ?_
        rintro e w8 ⟨rfl, hb8⟩
        have HB8 := Lib.hid (hb.trans (hb8.mono hb.size))
        clear cc1 hb8
        go_wp2_with fail
        refine (CC2.out _ HB8.out).mono ?_
        rintro e w9 ⟨rfl, hb9⟩
        have HB9 := Lib.hid (HB8.out.trans (hb9.mono HB8.out.size))
        clear hb9
        go_wp2_with fail
        refine (CC3.out _ HB9.out).mono ?_
        rintro e w10 ⟨rfl, hb10⟩
        have HB10 := Lib.hid (HB9.out.trans (hb10.mono HB9.out.size))
        clear hb10
        go_wp2_with fail
        refine (hwork.out _ HB10.out).mono ?_
        rintro e w11 ⟨rfl, hb11⟩
        have HB11 := Lib.hid (HB10.out.trans (hb11.mono HB10.out.size))
        clear hb11
        go_wp2_with fail
        go_ret
        exact ⟨rfl, HB11.out⟩
theorem utfBack_walk (r : Int) (s : ByteArray) (w : World) (hT : Tabs w ∧ Deb w) (hr : -2147483648 ≤ r ∧ r ≤ 2147483647) (hs : s.size ≤ 9223372036854775807) :
    Calls Tryd.prog 13 #[.int .i32 r, .string s] w fun e w' => e = .returned (.bool true) ∧ Below w.heap.size w w' := by
  by_cases h : 1000 < s.size
  · exact uback_big r s w hs h
  · exact uback_in r s w hT (by omega) hr
end Go.Proofs.YtpmgccjhflcoiaaDoor
