/-
  The walk of UtfItems. No condition beyond those that each theorem states.
-/
import Derived.Test.YtpmgccjhflcoiaaDoorItems
import Derived.Test.YtpmgccjhflcoiaaDoorWorksA
namespace Go.Proofs.YtpmgccjhflcoiaaDoor
open Go.RowKit
set_option linter.unusedSimpArgs false
set_option linter.unusedVariables false

def rightK (s : ByteArray) : Nat → Bool
  | 0 => true
  | k + 1 => rightK s k && okAt s (pos s k)
def caretK (s : ByteArray) (i : Int) : Nat → Bool
  | 0 => i == (s.size : Int)
  | k + 1 => caretK s i k || ((pos s k : Nat) : Int) == i
theorem rightK_iff (s : ByteArray) (k : Nat) : rightK s k = true ↔ ∀ j, j < k → okAt s (pos s j) = true := by
  induction k with
  | zero => exact ⟨fun _ j h => by omega, fun _ => rfl⟩
  | succ k ih =>
    unfold rightK
    rw [Bool.and_eq_true, ih]
    constructor
    · rintro ⟨h1, h2⟩ j hj
      rcases Nat.lt_or_ge j k with h | h
      · exact h1 j h
      · obtain rfl : j = k := by omega
        exact h2
    · intro h
      exact ⟨fun j hj => h j (by omega), h k (Nat.lt_succ_self k)⟩
theorem pos_below (s : ByteArray) {n k : Nat} (hn : pos s n = s.size) : k < n ↔ pos s k < s.size := by
  constructor
  · intro h
    have := pos_lt s k
    have := pos_mono s (show k + 1 ≤ n from h)
    omega
  · intro h
    rcases Nat.lt_or_ge k n with h1 | h1
    · exact h1
    · have := pos_mono s h1; omega
theorem pos_inj (s : ByteArray) {a b : Nat} (h : pos s a = pos s b) : a = b := by
  rw [← posF_zero, ← posF_zero] at h
  exact posF_inj s 0 h
theorem right_is (s : ByteArray) (n : Nat) (hn : pos s n = s.size) : rightB s = rightK s n := by
  rw [Bool.eq_iff_iff, rightK_iff]
  unfold rightB
  rw [valid_iff]
  unfold allOk
  constructor
  · intro h j hj; exact h j ((pos_below s hn).1 hj)
  · intro h j hj; exact h j ((pos_below s hn).2 hj)
theorem caretK_iff (s : ByteArray) (i : Int) (k : Nat) : caretK s i k = true ↔ i = s.size ∨ ∃ j, j < k ∧ ((pos s j : Nat) : Int) = i := by
  induction k with
  | zero => unfold caretK; rw [beq_iff_eq]; exact ⟨fun h => Or.inl h, fun h => by rcases h with h | ⟨j, hj, _⟩; exact h; omega⟩
  | succ k ih =>
    unfold caretK
    rw [Bool.or_eq_true, ih, beq_iff_eq]
    constructor
    · rintro ((h | ⟨j, h1, h2⟩) | h)
      · exact Or.inl h
      · exact Or.inr ⟨j, by omega, h2⟩
      · exact Or.inr ⟨k, Nat.lt_succ_self k, h⟩
    · rintro (h | ⟨j, h1, h2⟩)
      · exact Or.inl (Or.inl h)
      · rcases Nat.lt_or_ge j k with h3 | h3
        · exact Or.inl (Or.inr ⟨j, h3, h2⟩)
        · obtain rfl : j = k := by omega
          exact Or.inr h2
theorem caret_is (s : ByteArray) (i : Int) (n : Nat) (hn : pos s n = s.size) : caretI s i = caretK s i n := by
  rw [Bool.eq_iff_iff, caretK_iff]
  unfold caretI
  rw [Bool.and_eq_true, decide_eq_true_iff]
  constructor
  · rintro ⟨h1, h2⟩
    obtain ⟨j, hj⟩ := (caret_iff s i.toNat (by omega)).1 h2
    rcases Nat.lt_or_ge j n with h3 | h3
    · exact Or.inr ⟨j, h3, by omega⟩
    · left
      have := pos_mono s h3
      omega
  · rintro (h | ⟨j, h1, h2⟩)
    · refine ⟨by omega, (caret_iff s i.toNat (by omega)).2 ⟨n, by omega⟩⟩
    · have := (pos_below s hn).1 h1
      refine ⟨by omega, (caret_iff s i.toNat (by omega)).2 ⟨j, by omega⟩⟩
theorem Below.drawnU {B : Nat} {w W : World} (h : Below B w W) (n : Nat) : Below B w (W.drewN n) := h.trans (drewN_below _ _ _)
set_option maxRecDepth 100000 in
theorem uitems_big (s : ByteArray) (i : Int) (w : World) (hs : s.size ≤ 9223372036854775807) (h : 2000 < s.size) :
    Calls Tryd.prog 12 #[.string s, .int .i64 i] w fun e w' => e = .returned (.bool true) ∧ Below w.heap.size w w' := by
  have h1 : (2000 : Int) < s.size := by omega
  go_enter Tryd.func12, Tryd.ntmps12
  go_wp2_with fail
  go_ret
  exact ⟨rfl, Below.refl _ _⟩
set_option maxRecDepth 100000 in
set_option maxHeartbeats 2000000 in
theorem uitems_in (s : ByteArray) (i : Int) (w : World) (hT : Tabs w ∧ Deb w) (hs : s.size ≤ 2000) (hi : -9223372036854775808 ≤ i ∧ i ≤ 9223372036854775807) :
    Calls Tryd.prog 12 #[.string s, .int .i64 i] w fun e w' => e = .returned (.bool true) ∧ Below w.heap.size w w' := by
  have hs' : ¬ (2000 : Int) < s.size := by omega
  have HT := (show Hid (∀ W, Below w.heap.size w W → Tabs W ∧ Deb W) from fun W h => ⟨Utf8Tabs_below hT.1 h, hT.2.below h⟩)
  have c1 := items_ok s (by omega) w hT.1
  have hwork := (show Hid (∀ W, Below w.heap.size w W → Calls Tryd.prog 22 #[] W fun e w' => e = .returned (.bool true) ∧ Below W.heap.size W w') from fun W h => works1_ok W (HT.out W h).1 (HT.out W h).2)
  clear hT
  go_enter Tryd.func12, Tryd.ntmps12
  go_wp2_with fail
  refine c1.mono ?_
  rintro e w1 ⟨n, g, cap, hn, rfl, hrow, hb1⟩
  have hnp := pos_ge s n
  have hn2 : n ≤ 2000 := by omega
  have CN := (show Hid (∀ W, Below w.heap.size w W → Calls Tryd.prog 37 #[.string s] W fun e w' => e = .returned (.int .i64 n) ∧ Below W.heap.size W w') from fun W h => by
    refine (ucount_ok s (by omega) W (HT.out W h).1).mono ?_
    rintro e w' ⟨m, rfl, hm, hb⟩
    obtain rfl := pos_inj s (hm.trans hn.symm)
    exact ⟨rfl, hb⟩)
  have CR := (show Hid (∀ W, Below w.heap.size w W → Calls Tryd.prog 36 #[.string s] W fun e w' => e = .returned (.bool (rightK s n)) ∧ Below W.heap.size W w') from fun W h => by
    rw [← right_is s n hn]
    exact right_ok s W (by omega) (HT.out W h).1)
  have CC := (show Hid (∀ W, Below w.heap.size w W → Calls Tryd.prog 33 #[.string s, .int .i64 i] W fun e w' => e = .returned (.bool (caretK s i n)) ∧ Below W.heap.size W w') from fun W h => by
    rw [← caret_is s i n hn]
    exact ucaret_ok s i (by omega) W (HT.out W h).1)
  obtain ⟨v, hv⟩ : ∃ v, v = (if n = 0 then (.slice none 0 0 : Value) else .slice (some ⟨g, 0, none⟩) n cap) := ⟨_, rfl⟩
  have HN := Lib.hid hn
  clear hn hnp c1
  by_cases hn0 : n = 0
  · subst hn0
    have hz : (s.size : Int) = 0 := by have h : pos s 0 = 0 := rfl; have := HN.out; omega
    have hck : (i == (s.size : Int)) = caretK s i 0 := rfl
    have hrk : rightK s 0 = true := rfl
    rw [if_pos rfl]
    rw [hrk] at CR
    generalize caretK s i 0 = ck at *
    have HBr := Lib.hid hb1
    clear hrow hb1 hrk hv
    go_wp2_with fail
    go_loopg [6, 7, 8, 9] 0 (fun gh s6 s7 s8 s9 W => s6 = .int .i64 0 ∧ s7 = .bool true ∧ s8 = .bool ck ∧ s9 = .int .i64 0 ∧ W = w1)
    case atStart => exact ⟨rfl, rfl, by first | rfl | (rw [← hck, hz]), rfl, rfl⟩
    case round =>
      obtain ⟨rfl, rfl, rfl, rfl, rfl⟩ := hrel
      go_wp2_with fail
      refine (CN.out _ HBr.out).mono ?_
      rintro e w2 ⟨rfl, hb2⟩
      have HB2 := Lib.hid (HBr.out.trans (hb2.mono HBr.out.size))
      clear hb2
      go_wp2_with fail
      refine (CR.out _ HB2.out).mono ?_
      rintro e w3 ⟨rfl, hb3⟩
      have HB3 := Lib.hid (HB2.out.trans (hb3.mono HB2.out.size))
      clear hb3
      go_wp2_with fail
      refine (CC.out _ HB3.out).mono ?_
      rintro e w4 ⟨rfl, hb4⟩
      have HB4 := Lib.hid (HB3.out.trans (hb4.mono HB3.out.size))
      clear hb4
      go_wp2_with fail
      refine (hwork.out _ HB4.out).mono ?_
      rintro e w5 ⟨rfl, hb5⟩
      have HB5 := Lib.hid (HB4.out.trans (hb5.mono HB4.out.size))
      clear hb5
      go_wp2_with fail
      go_ret
      exact ⟨rfl, HB5.out⟩
  · rw [if_neg hn0]
    go_wp2_with fail
    go_loopg [6, 7, 8, 9] s.size (fun gh s6 s7 s8 s9 W => ∃ k : Nat, s6 = .int .i64 (k : Int) ∧ s7 = .bool (rightK s k) ∧ s8 = .bool (caretK s i k) ∧ s9 = .int .i64 (pos s k : Nat) ∧ pos s k ≤ s.size ∧ s.size ≤ gh + pos s k ∧ k ≤ pos s k ∧ RowI s W g n ∧ Below w.heap.size w W)
    case atStart => exact ⟨0, rfl, rfl, rfl, rfl, by show 0 ≤ _; omega, by show _ ≤ _ + 0; omega, by show 0 ≤ 0; omega, hrow, hb1⟩
    case round =>
      clear hrow hb1
      obtain ⟨k, rfl, rfl, rfl, rfl, hle, hg, hkp, hrow, hb⟩ := hrel
      by_cases hin : pos s k < s.size
      · have hkn := (pos_below s HN.out).2 hin
        have hkn' : (k : Int) < (n : Int) := by omega
        have ha := rat_dec s (pos s k) hin (by omega) wr
        have hw := wid_pos s (pos s k)
        have hwi := wid_in s (pos s k) hin
        have hkx := Lib.hid (pos_ge s (k + 1))
        have HRK := (show Hid (rightK s (k + 1) = (rightK s k && okAt s (pos s k))) from rfl)
        have HCK := (show Hid (caretK s i (k + 1) = (caretK s i k || ((pos s k : Nat) : Int) == i)) from rfl)
        have Hnx := (show Hid (pos s (k + 1) = pos s k + wid s (pos s k)) from rfl)
        have hcells := hrow k hkn
        have hrv : runeAt s (pos s k) = if okAt s (pos s k) then ((dec s (pos s k)).1 : Int) else -1 := rfl
        have hri : runeI s (pos s k) = if okAt s (pos s k) then ((dec s (pos s k)).1 : Int) else 65533 := rfl
        have hzz : wid s (pos s k) = if okAt s (pos s k) then (dec s (pos s k)).2 else 1 := rfl
        obtain ⟨b1, _, _⟩ := dec_bounds s (pos s k)
        generalize (dec s (pos s k)).1 = r at *
        generalize (dec s (pos s k)).2 = zz at *
        generalize wid s (pos s k) = z at *
        generalize runeAt s (pos s k) = ra at *
        generalize runeI s (pos s k) = ri at *
        generalize rightK s k = rk at *
        generalize caretK s i k = ck at *
        have HROW := Lib.hid hrow
        clear hrow
        cases hok : okAt s (pos s k) with
        | true =>
          rw [hok] at hcells hrv hri hzz HRK
          rw [if_pos rfl] at hrv hri hzz
          subst hrv hri hzz
          generalize pos s k = q at *
          have hin' : (q : Int) < (s.size : Int) := by omega
          go_wp2_with fail
          refine ha.mono ?_
          rintro e w2 ⟨rfl, hb2⟩
          have hrw := Lib.hid (HROW.out.later hb2)
          have HB2 := Lib.hid (hb.trans (hb2.mono hb.size))
          have hc0 := later_cell hb2 hcells.1
          have hc1 := later_cell hb2 hcells.2.1
          have hc2 := later_cell hb2 hcells.2.2.1
          have hc3 := later_cell hb2 hcells.2.2.2
          have hlt := World.block_lt_of_cell? w2 _ hc0
          have hgn : decide ((n : Int) ≤ (k : Int)) = false := by simp; omega
          have hgn2 : decide (n ≤ k) = false := by simp; omega
          clear ha hcells hok hb2
          go_wp2_with fail
          go_quiet (fail)
          cases ck
          all_goals
            go_wp2_with fail
            go_roundg (gk - 1)
            case measure => omega
            case rel => exact ⟨k + 1, by go_num, by rw [HRK.out, Bool.and_true], by rw [HCK.out]; rfl, by rw [Hnx.out]; go_num, by rw [Hnx.out]; exact hwi, by rw [Hnx.out]; omega, hkx.out, fun k' hk' => by have := (hrw.out.later ((Below.refl w2.heap.size w2).alloc (Nat.le_refl _) (.cells #[.int .i64 (q : Int), .int .i64 (z : Int), .int .i32 (r : Int), .bool true] 35))) k' hk'; exact this, Below.drawnU (HB2.out.alloc HB2.out.size _) _⟩
        | false =>
          rw [hok] at hcells hrv hri hzz HRK
          rw [if_neg (by simp)] at hrv hri hzz
          subst hrv hri hzz
          generalize pos s k = q at *
          have hin' : (q : Int) < (s.size : Int) := by omega
          go_wp2_with fail
          refine ha.mono ?_
          rintro e w2 ⟨rfl, hb2⟩
          have hrw := Lib.hid (HROW.out.later hb2)
          have HB2 := Lib.hid (hb.trans (hb2.mono hb.size))
          have hc0 := later_cell hb2 hcells.1
          have hc1 := later_cell hb2 hcells.2.1
          have hc2 := later_cell hb2 hcells.2.2.1
          have hc3 := later_cell hb2 hcells.2.2.2
          have hlt := World.block_lt_of_cell? w2 _ hc0
          have hgn : decide ((n : Int) ≤ (k : Int)) = false := by simp; omega
          have hgn2 : decide (n ≤ k) = false := by simp; omega
          clear ha hcells hok hb2
          go_wp2_with fail
          go_quiet (fail)
          cases ck
          all_goals
            go_wp2_with fail
            go_roundg (gk - 1)
            case measure => omega
            case rel => exact ⟨k + 1, by go_num, by rw [HRK.out, Bool.and_false], by rw [HCK.out]; rfl, by rw [Hnx.out]; go_num, by rw [Hnx.out]; exact hwi, by rw [Hnx.out]; omega, hkx.out, fun k' hk' => by have := (hrw.out.later ((Below.refl w2.heap.size w2).alloc (Nat.le_refl _) (.cells #[.int .i64 (q : Int), .int .i64 1, .int .i32 65533, .bool false] 35))) k' hk'; exact this, Below.drawnU (HB2.out.alloc HB2.out.size _) _⟩
      · have hkn := pos_inj s (show pos s k = pos s n by rw [HN.out]; omega)
        subst hkn
        have hps : pos s k = s.size := HN.out
        have hin' : ¬ ((s.size : Int) < (s.size : Int)) := by omega
        rw [hps]
        generalize rightK s k = rk at *
        generalize caretK s i k = ck at *
        have HBr := Lib.hid hb
        clear hrow hin hle hg hkp hps hb
        go_wp2_with fail
        refine (CN.out _ HBr.out).mono ?_
        rintro e w2 ⟨rfl, hb2⟩
        have HB2 := Lib.hid (HBr.out.trans (hb2.mono HBr.out.size))
        clear hb2
        go_wp2_with fail
        refine (CR.out _ HB2.out).mono ?_
        rintro e w3 ⟨rfl, hb3⟩
        have HB3 := Lib.hid (HB2.out.trans (hb3.mono HB2.out.size))
        clear hb3
        go_wp2_with fail
        refine (CC.out _ HB3.out).mono ?_
        rintro e w4 ⟨rfl, hb4⟩
        have HB4 := Lib.hid (HB3.out.trans (hb4.mono HB3.out.size))
        clear hb4
        go_wp2_with fail
        refine (hwork.out _ HB4.out).mono ?_
        rintro e w5 ⟨rfl, hb5⟩
        have HB5 := Lib.hid (HB4.out.trans (hb5.mono HB4.out.size))
        clear hb5
        go_wp2_with fail
        go_ret
        exact ⟨rfl, HB5.out⟩
theorem utfItems_walk (s : ByteArray) (i : Int) (w : World) (hT : Tabs w ∧ Deb w) (hs : s.size ≤ 9223372036854775807) (hi : -9223372036854775808 ≤ i ∧ i ≤ 9223372036854775807) :
    Calls Tryd.prog 12 #[.string s, .int .i64 i] w fun e w' => e = .returned (.bool true) ∧ Below w.heap.size w w' := by
  by_cases h : 2000 < s.size
  · exact uitems_big s i w hs h
  · exact uitems_in s i w hT (by omega) hi
end Go.Proofs.YtpmgccjhflcoiaaDoor
