/-
  Contract of Place of package edit. No condition beyond those that each theorem states.
-/
import Derived.Test.YtpmgccjhflcoiaaDoorLine
namespace Go.Proofs.YtpmgccjhflcoiaaDoor
open Go.RowKit
set_option linter.unusedSimpArgs false
set_option linter.unusedVariables false

/-- items of one line, one behind the other -/
def Walks (s : ByteArray) (q j : Nat) : Prop := ∀ i, i < j → posF s q i < s.size ∧ byteAt s (posF s q i) ≠ 10
/-- what Place tells of a row and a column that may be -/
def PlaceIs (s : ByteArray) (row col : Nat) (p c : Int) : Prop := ∃ q, Begins s q ∧ nl s q = row ∧ q ≤ s.size ∧
  ((∃ j, j < col ∧ Walks s q j ∧ (s.size ≤ posF s q j ∨ byteAt s (posF s q j) = 10) ∧ p = 0 ∧ c = 10) ∨ (Walks s q col ∧ p = (posF s q col : Nat) ∧ c = 0))
theorem walks_size {s : ByteArray} {q j : Nat} (hq : q ≤ s.size) (h : Walks s q j) : posF s q j ≤ s.size := posF_size s q j hq fun i hi => (h i hi).1
theorem place_no (s : ByteArray) (row col : Int) (hs : s.size ≤ 1000000) (w : World) (h : row < 0 ∨ 1 + (nl s s.size : Nat) ≤ row ∨ col < 0) :
    Calls Tryd.prog 29 #[.string s, .int .i64 row, .int .i64 col] w fun e w' => e = .returned (.tuple #[.int .i64 0, .int .i64 2]) ∧ w = w' := by
  have c1 := lines2_ok s hs w
  have hn := nl_le s s.size
  generalize nl s s.size = n at *
  rcases (show row < 0 ∨ (¬ row < 0 ∧ 1 + (n : Int) ≤ row) ∨ (¬ row < 0 ∧ ¬ 1 + (n : Int) ≤ row ∧ col < 0) by omega) with h1 | ⟨h1, h2⟩ | ⟨h1, h2, h3⟩
  all_goals
    clear h
    go_enter Tryd.func29, Tryd.ntmps29
    go_wp2_with (refine c1.mono ?_; rintro e w' ⟨rfl, rfl⟩)
    go_ret2
    exact ⟨rfl, rfl⟩
def PlaceSays (s : ByteArray) (row col : Nat) (w : World) (e : Ending) (w' : World) : Prop := ∃ p c : Int, e = .returned (.tuple #[.int .i64 p, .int .i64 c]) ∧ PlaceIs s row col p c ∧ Below w.heap.size w w'
set_option maxRecDepth 100000 in
theorem place_yes (s : ByteArray) (row col : Nat) (hs : s.size ≤ 1000000) (w : World) (hT : Tabs w) (hr : row < 1 + nl s s.size) (hcol : col ≤ 9223372036854775807) :
    Calls Tryd.prog 29 #[.string s, .int .i64 row, .int .i64 col] w (PlaceSays s row col w) := by
  have c1 := lines2_ok s hs w
  have hn := nl_le s s.size
  have Hn := (show Hid (row < 1 + nl s s.size) from hr)
  have HT := (show Hid _ from hT)
  have hr1 : ¬ (1 + ((nl s s.size : Nat) : Int) ≤ (row : Int)) := by omega
  have hr2 : row ≤ 1000000 := by omega
  clear hT hr
  generalize nl s s.size = n at c1 hn hr1
  go_enter Tryd.func29, Tryd.ntmps29
  go_wp2_with (refine c1.mono ?_; rintro e w' ⟨rfl, rfl⟩)
  clear c1
  go_loop [1, 8] (fun s1 s8 => ∃ r q : Nat, s1 = .int .i64 (r : Int) ∧ s8 = .int .i64 (q : Int) ∧ q ≤ s.size ∧ Hid (Begins s q ∧ nl s q + r = row)) (fun s1 _ => (intOf s1).toNat)
  case atStart => exact ⟨row, 0, rfl, rfl, Nat.zero_le _, Or.inl rfl, by show 0 + row = row; omega⟩
  case round =>
    obtain ⟨r, q, rfl, rfl, hq, H⟩ := hrel
    have hr0 : r ≤ 1000000 := by have := H.out.2; omega
    by_cases hr : 0 < r
    · obtain ⟨i, hi, hle, hb, hnl⟩ := next_begins s q hq (by have := H.out.2; have := Hn.out; omega)
      have c2 := Tryd.strings_Index_one (s.extract q s.size) 10 w
      rw [hi] at c2
      have H2 := (show Hid (Begins s (q + (i + 1)) ∧ nl s (q + (i + 1)) + (r - 1) = row) from ⟨hb, by have := H.out.2; omega⟩)
      clear hi hb hnl H
      go_wp2_with (refine c2.mono ?_; rintro e w' ⟨rfl, rfl⟩)
      go_round
      case rel => exact ⟨r - 1, q + (i + 1), by congr 1; omega, by congr 1, hle, H2⟩
      case measure => simp [intOf]; omega
    · obtain rfl : r = 0 := by omega
      clear hr hr0
      have Hq := (show Hid (Begins s q ∧ nl s q = row) from ⟨H.out.1, by have := H.out.2; omega⟩)
      clear H
      go_wp2_with fail
      go_loopg [2, 8] col (fun g s2 s8 W => ∃ j : Nat, s2 = .int .i64 ((col - j : Nat) : Int) ∧ s8 = .int .i64 (posF s q j : Nat) ∧ j ≤ col ∧ g + j = col ∧ posF s q j ≤ s.size ∧ Hid (Walks s q j) ∧ Below w.heap.size w W)
      case atStart => exact ⟨0, rfl, rfl, Nat.zero_le _, rfl, hq, fun i h => by omega, Below.refl _ _⟩
      case round =>
        obtain ⟨j, rfl, rfl, hj, hg, hle, HW, hb⟩ := hrel
        by_cases hjc : j < col
        · have hc1 : (0 : Int) < ((col - j : Nat) : Int) := by omega
          by_cases hend : s.size ≤ posF s q j
          · have Hp := (show Hid (PlaceIs s row col 0 10) from ⟨q, Hq.out.1, Hq.out.2, hq, Or.inl ⟨j, hjc, HW.out, Or.inl hend, rfl, rfl⟩⟩)
            have hend' : ((s.size : Nat) : Int) ≤ ((posF s q j : Nat) : Int) := by omega
            clear HW
            generalize posF s q j = x at *
            go_wp2_with fail
            go_quiet (fail)
            go_wp2_with fail
            go_ret2
            exact ⟨0, 10, rfl, Hp.out, hb.trans (drewN_below _ _ _)⟩
          · have hin : posF s q j < s.size := by omega
            have hin' : ((posF s q j : Nat) : Int) < ((s.size : Nat) : Int) := by omega
            have hno : decide (s.size ≤ posF s q j) = false := by simp; omega
            have hten : ((ByteArray.mk #[10])[0]'(by decide)).toNat = 10 := rfl
            have hget : byteAt s (posF s q j) = (s[posF s q j]'hin).toNat := by unfold byteAt; rw [Utf8W.get!_of_lt s _ hin]
            by_cases h10 : byteAt s (posF s q j) = 10
            · have Hp := (show Hid (PlaceIs s row col 0 10) from ⟨q, Hq.out.1, Hq.out.2, hq, Or.inl ⟨j, hjc, HW.out, Or.inr h10, rfl, rfl⟩⟩)
              rw [hget] at h10
              clear HW hget hend
              generalize posF s q j = x at *
              go_wp2_with fail
              go_quiet (fail)
              go_wp2_with fail
              go_ret2
              exact ⟨0, 10, rfl, Hp.out, hb.trans (drewN_below _ _ _)⟩
            · have HW2 := (show Hid (Walks s q (j + 1)) from fun i hi => by
                rcases Nat.lt_or_ge i j with h1 | h1
                · exact HW.out i h1
                · obtain rfl : i = j := by omega
                  exact ⟨hin, h10⟩)
              have ha := fun W h => at_in s (posF s q j) hin hs W (Utf8Tabs_below HT.out h)
              obtain ⟨r, b, hit⟩ := item_size s (posF s q j)
              rw [hit] at ha
              have HA := (show Hid _ from ha)
              have hw := wid_pos s (posF s q j)
              have hwi := wid_in s (posF s q j) hin
              have Hnx := (show Hid (posF s q (j + 1) = posF s q j + wid s (posF s q j)) from rfl)
              have hne : (((s[posF s q j]'hin).toNat : Int) == 10) = false := by rw [hget] at h10; simp; omega
              clear hit HW hget ha h10 hend
              generalize wid s (posF s q j) = z at HA hw hwi Hnx
              generalize posF s q j = x at *
              have hfield : ∀ W : World, (Instr.field 35 (.agg #[.int .i64 (x : Int), .int .i64 (z : Int), .int .i32 r, .bool b]) 1).run Tryd.prog W = .ok (.int .i64 (z : Int)) W := fun W => by kernel_rfl
              go_wp2_with fail
              go_quiet (fail)
              go_wp2_with fail
              refine (HA.out _ (hb.trans (drewN_below _ _ _))).mono ?_
              rintro e w2 ⟨rfl, hb2⟩
              have hbw := (hb.trans (drewN_below w.heap.size wr nq)).trans (hb2.mono hb.size)
              clear HA hb2 hb
              go_wp2_with fail
              go_roundg (gk - 1)
              case measure => omega
              case rel => exact ⟨j + 1, by congr 1; omega, by rw [Hnx.out]; go_num, by omega, by omega, by rw [Hnx.out]; exact hwi, HW2, hbw⟩
        · obtain rfl : j = col := by omega
          have Hp := (show Hid (PlaceIs s row j (posF s q j : Nat) 0) from ⟨q, Hq.out.1, Hq.out.2, hq, Or.inr ⟨HW.out, rfl, rfl⟩⟩)
          have hc1 : ((j - j : Nat) : Int) = 0 := by omega
          clear HW
          generalize posF s q j = x at *
          go_wp2_with fail
          go_ret2
          exact ⟨_, _, rfl, Hp.out, hb⟩
end Go.Proofs.YtpmgccjhflcoiaaDoor
