/-
  The walk of UtfShown. No condition beyond those that each theorem states.
-/
import Derived.Test.YtpmgccjhflcoiaaDoorShownM
namespace Go.Proofs.YtpmgccjhflcoiaaDoor
open Go.RowKit
set_option linter.unusedSimpArgs false
set_option linter.unusedVariables false

set_option maxRecDepth 100000 in
theorem ushown_big (a b : ByteArray) (w : World) (ha : a.size ≤ 9223372036854775807) (hb : b.size ≤ 9223372036854775807) (h : 300 < a.size ∨ 300 < b.size) :
    Calls Tryd.prog 11 #[.string a, .string b] w fun e w' => e = .returned (.bool true) ∧ Below w.heap.size w w' := by
  by_cases h0 : 300 < a.size
  · have h1 : (300 : Int) < a.size := by omega
    go_enter Tryd.func11, Tryd.ntmps11
    go_wp2_with fail
    go_ret
    exact ⟨rfl, Below.refl _ _⟩
  · have h1 : ¬ (300 : Int) < a.size := by omega
    have h2 : (300 : Int) < b.size := by omega
    go_enter Tryd.func11, Tryd.ntmps11
    go_wp2_with fail
    go_ret
    exact ⟨rfl, Below.refl _ _⟩
/-- what is shown of a text, and that it is as it ought to be -/
theorem shown_all (s : ByteArray) (n : Nat) (hn : pos s n = s.size) (hs : s.size ≤ 300) : (txt (shownL s n)).size ≤ 3300 ∧ rightB (txt (shownL s n)) = true ∧ ∀ i, (h : i < (txt (shownL s n)).size) → 32 ≤ ((txt (shownL s n))[i]'h).toNat ∧ ((txt (shownL s n))[i]'h).toNat ≠ 127 := by
  refine ⟨?_, shown_right s n hn, fun i h => ?_⟩
  · have h1 := shown_len s n
    have h2 := pos_ge s n
    rw [txt_size]
    omega
  · refine shown_ok s n (fun j hj => (pos_below s hn).1 hj) _ ?_
    have : (txt (shownL s n))[i]'h = (shownL s n)[i]'(by rw [← txt_size]; exact h) := rfl
    rw [this]
    exact List.getElem_mem _
theorem show_n (s : ByteArray) (n : Nat) (hn : pos s n = s.size) (hs : s.size ≤ 300) (w : World) (hT : Tabs w ∧ Deb w) : Calls Tryd.prog 20 #[.string s] w fun e w' => e = .returned (.string (txt (shownL s n))) ∧ Below w.heap.size w w' := by
  refine (show_ok s (by omega) w hT.1 hT.2).mono ?_
  rintro e w' ⟨k, rfl, hk, hb⟩
  obtain rfl := pos_inj s (hk.trans hn.symm)
  exact ⟨rfl, hb⟩
set_option maxRecDepth 100000 in
set_option maxHeartbeats 2000000 in
theorem ushown_in (a b : ByteArray) (w : World) (hT : Tabs w ∧ Deb w) (ha : a.size ≤ 300) (hb : b.size ≤ 300) :
    Calls Tryd.prog 11 #[.string a, .string b] w fun e w' => e = .returned (.bool true) ∧ Below w.heap.size w w' := by
  have h1 : ¬ (300 : Int) < a.size := by omega
  have h2 : ¬ (300 : Int) < b.size := by omega
  have HT := (show Hid (∀ W, Below w.heap.size w W → Tabs W ∧ Deb W) from fun W h => ⟨Utf8Tabs_below hT.1 h, hT.2.below h⟩)
  have hwork := (show Hid (∀ W, Below w.heap.size w W → Calls Tryd.prog 22 #[] W fun e w' => e = .returned (.bool true) ∧ Below W.heap.size W w') from fun W h => works1_ok W (HT.out W h).1 (HT.out W h).2)
  obtain ⟨m, hm⟩ := count_some a
  obtain ⟨n, hn⟩ := count_some b
  have C1 := show_n a m hm ha w hT
  have C2 := (show Hid (∀ W, Below w.heap.size w W → Calls Tryd.prog 20 #[.string b] W fun e w' => e = .returned (.string (txt (shownL b n))) ∧ Below W.heap.size W w') from fun W h => show_n b n hn hb W (HT.out W h))
  obtain ⟨hx1, hx2, hx3⟩ := shown_all a m hm ha
  have CR := (show Hid (∀ W, Below w.heap.size w W → Calls Tryd.prog 36 #[.string (txt (shownL a m))] W fun e w' => e = .returned (.bool true) ∧ Below W.heap.size W w') from fun W h => by
    rw [← hx2]
    exact right_ok _ W (by omega) (HT.out W h).1)
  have hinj := shown_inj a b m n hm hn
  have hsame : a = b → shownL a m = shownL b n := by
    rintro rfl
    obtain rfl := pos_inj a (hm.trans hn.symm)
    rfl
  have heq : (a.toList == b.toList) = ((txt (shownL a m)).toList == (txt (shownL b n)).toList) := by
    rw [Bool.eq_iff_iff, beq_iff_eq, beq_iff_eq, ByteArray.toList_eq, ByteArray.toList_eq, ByteArray.toList_eq, ByteArray.toList_eq]
    constructor
    · intro h
      exact hsame (bytes_ext h)
    · intro h
      rw [hinj h]
  have hxi := Lib.hid hx3
  generalize txt (shownL a m) = X at *
  generalize txt (shownL b n) = Y at *
  have hX : (X.size : Int) ≤ 3300 := by omega
  clear hT hx2 hx3 hm hn hinj hsame
  obtain ⟨c, hc⟩ : ∃ c, c = (a.toList == b.toList) := ⟨_, rfl⟩
  rw [← hc] at heq
  cases c
  all_goals
    go_enter Tryd.func11, Tryd.ntmps11
    have HC := Lib.hid hc
    have HE := Lib.hid heq
    clear hc heq
    go_wp2_with fail
    refine C1.mono ?_
    rintro e w1 ⟨rfl, hb1⟩
    have HB1 := Lib.hid hb1
    clear C1 hb1
    go_wp2_with fail
    refine (C2.out _ HB1.out).mono ?_
    rintro e w2 ⟨rfl, hb2⟩
    have HB2 := Lib.hid (HB1.out.trans (hb2.mono HB1.out.size))
    clear hb2
    go_wp2_with fail
    go_loopg [7] X.size (fun gh s7 W => ∃ k : Nat, s7 = .int .i64 (k : Int) ∧ k ≤ X.size ∧ X.size ≤ gh + k ∧ W = w2)
    case atStart => exact ⟨0, rfl, Nat.zero_le _, Nat.le_refl _, rfl⟩
    case round =>
      obtain ⟨k, rfl, hle, hg, rfl⟩ := hrel
      by_cases hlt : k < X.size
      · have hlt' : (k : Int) < (X.size : Int) := by omega
        obtain ⟨y1, y2⟩ := hxi.out k hlt
        have z1 : ¬ (((X[k]'hlt).toNat : Nat) : Int) < 32 := by omega
        have z2 : ((((X[k]'hlt).toNat : Nat) : Int) == 127) = false := by rw [beq_eq_false_iff_ne]; omega
        have z3 : ¬ (X[k]'hlt).toNat = 127 := y2
        generalize hbk : (X[k]'hlt).toNat = bk at *
        go_wp2_with fail
        go_roundg (gk - 1)
        case measure => omega
        case rel => exact ⟨k + 1, by go_num, by omega, by omega, rfl⟩
      · obtain rfl : k = X.size := by omega
        have hlt' : ¬ (X.size : Int) < (X.size : Int) := by omega
        have e1 := HC.out.symm
        have e2 := HE.out.symm
        have e3 := (show a.toList = b.toList ↔ _ from (beq_iff_eq (a := a.toList) (b := b.toList)).symm)
        have e4 := (show X.toList = Y.toList ↔ _ from (beq_iff_eq (a := X.toList) (b := Y.toList)).symm)
        rw [e1] at e3
        rw [e2] at e4
        simp only [Bool.false_eq_true, iff_false, iff_true] at e3 e4
        go_wp2_with fail
        refine (CR.out _ HB2.out).mono ?_
        rintro e w3 ⟨rfl, hb3⟩
        have HB3 := Lib.hid (HB2.out.trans (hb3.mono HB2.out.size))
        clear hb3
        go_wp2_with fail
        refine (hwork.out _ HB3.out).mono ?_
        rintro e w4 ⟨rfl, hb4⟩
        have HB4 := Lib.hid (HB3.out.trans (hb4.mono HB3.out.size))
        clear hb4
        go_wp2_with fail
        go_ret
        exact ⟨rfl, HB4.out⟩
theorem utfShown_walk (a b : ByteArray) (w : World) (hT : Tabs w ∧ Deb w) (ha : a.size ≤ 9223372036854775807) (hb : b.size ≤ 9223372036854775807) :
    Calls Tryd.prog 11 #[.string a, .string b] w fun e w' => e = .returned (.bool true) ∧ Below w.heap.size w w' := by
  by_cases h : 300 < a.size ∨ 300 < b.size
  · exact ushown_big a b w ha hb h
  · exact ushown_in a b w hT (by omega) (by omega)
end Go.Proofs.YtpmgccjhflcoiaaDoor
