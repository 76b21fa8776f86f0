/-
  The walk of EditPlaces. No condition beyond those that each theorem states.
-/
import Derived.Test.YtpmgccjhflcoiaaDoorPlace
import Derived.Test.YtpmgccjhflcoiaaDoorWorksB
namespace Go.Proofs.YtpmgccjhflcoiaaDoor
open Go.RowKit
set_option linter.unusedSimpArgs false
set_option linter.unusedVariables false

theorem begins_posF (s : ByteArray) (q k : Nat) (hq : q ≤ s.size) (h : Begins s q) (hw : Walks s q k) : caretI s (posF s q k : Nat) = true := by
  have hle := walks_size hq hw
  obtain ⟨a, ha⟩ := (caret_iff s q hq).1 (begins_caret s q hq h)
  unfold caretI
  rw [Bool.and_eq_true, decide_eq_true_iff, Int.toNat_natCast]
  refine ⟨by omega, (caret_iff s _ hle).2 ⟨a + k, ?_⟩⟩
  rw [← ha, posF_pos]
theorem place_line (s : ByteArray) (q k n : Nat) (h : Begins s q) (hw : Walks s q k) (hl : LineIs s (posF s q k) n) : n = k := by
  obtain ⟨q', h1, h2, h3, h4⟩ := hl
  have := begins_inj s h2 h (by rw [h3, posF_flat s q k hw])
  subst this
  exact posF_inj s _ h4
theorem and15 (a : Int) : ∃ n : Nat, bits .and .i64 a 15 = n ∧ n ≤ 15 := by
  have h : bits .and .i64 a 15 = IntKind.i64.wrap ((BitVec.ofInt 64 a &&& BitVec.ofInt 64 15).toNat : Int) := rfl
  have h15 : (BitVec.ofInt 64 15).toNat = 15 := by decide
  have hle := @Nat.and_le_right (BitVec.ofInt 64 a).toNat 15
  refine ⟨(BitVec.ofInt 64 a).toNat &&& 15, ?_, hle⟩
  rw [h, BitVec.toNat_and, h15]
  exact IntWalk.i64_in _ (by omega)
set_option maxRecDepth 100000 in
theorem editPlaces_walk (s : ByteArray) (a b : Int) (w : World) (hT : Tabs w) (hs : s.size ≤ 9223372036854775807) (ha : -9223372036854775808 ≤ a ∧ a ≤ 9223372036854775807) (hb : -9223372036854775808 ≤ b ∧ b ≤ 9223372036854775807) :
    Calls Tryd.prog 6 #[.string s, .int .i64 a, .int .i64 b] w fun e w' => e = .returned (.bool true) ∧ Below w.heap.size w w' := by
  by_cases h1 : 1000 < s.size
  · have h1' : (1000 : Int) < (s.size : Int) := by omega
    go_enter Tryd.func6, Tryd.ntmps6
    go_wp2_with fail
    go_ret
    exact ⟨rfl, Below.refl _ _⟩
  have h1' : ¬ (1000 : Int) < (s.size : Int) := by omega
  have hs1 : s.size ≤ 1000 := by omega
  obtain ⟨l, hl, hl15⟩ := and15 a
  obtain ⟨c, hc, hc15⟩ := and15 b
  have HT := (show Hid (∀ W, Below w.heap.size w W → Tabs W) from fun W h => Utf8Tabs_below hT h)
  have hwork := (show Hid (∀ W, Below w.heap.size w W → Calls Tryd.prog 16 #[] W fun e w' => e = .returned (.bool true) ∧ Below W.heap.size W w') from fun W h => works2_ok W (HT.out W h))
  by_cases hrow : 1 + nl s s.size ≤ l
  · have c1 := place_no s l c (by omega) w (Or.inr (Or.inl (by omega)))
    have c2 := lines2_ok s (by omega) w
    have hrow' : 1 + ((nl s s.size : Nat) : Int) ≤ (l : Int) := by omega
    have c3 := hwork.out w (Below.refl _ _)
    clear hT hs h1 hrow
    generalize nl s s.size = n at *
    go_enter Tryd.func6, Tryd.ntmps6
    go_wp2_with fail
    refine c1.mono ?_
    rintro e w' ⟨rfl, rfl⟩
    clear c1
    go_wp2_with fail
    refine c2.mono ?_
    rintro e w' ⟨rfl, rfl⟩
    clear c2
    go_wp2_with fail
    refine c3.mono ?_
    rintro e w' ⟨rfl, hb⟩
    clear c3
    go_wp2_with fail
    go_ret
    exact ⟨rfl, hb⟩
  · have c1 := place_yes s l c (by omega) w hT (by omega) (by omega)
    have hrow' : ¬ 1 + ((nl s s.size : Nat) : Int) ≤ (l : Int) := by omega
    clear hT hs h1 hrow
    go_enter Tryd.func6, Tryd.ntmps6
    go_wp2_with fail
    refine c1.mono ?_
    rintro e w1 ⟨p, code, rfl, ⟨q, hbq, hnq, hqs, hcase⟩, hb1⟩
    clear c1
    rcases hcase with ⟨j, hj, hwj, hjend, rfl, rfl⟩ | ⟨hw, rfl, rfl⟩
    · have c2 := lines2_ok s (by omega) w1
      have hc0 : (0 : Int) < (c : Int) := by omega
      have c3 := hwork.out w1 hb1
      clear hwj hjend hbq hnq
      generalize nl s s.size = n at *
      go_wp2_with fail
      refine c2.mono ?_
      rintro e w' ⟨rfl, rfl⟩
      clear c2
      go_wp2_with fail
      refine c3.mono ?_
      rintro e w' ⟨rfl, hb⟩
      clear c3
      have hbb := hb1.trans (hb.mono hb1.size)
      go_wp2_with fail
      go_ret
      refine ⟨?_, hbb⟩
      show Ending.returned (.bool (decide (1 + (n : Int) ≤ (l : Int)) || decide (0 < c))) = _
      rw [decide_eq_true (show 0 < c by omega), Bool.or_true]
    · have c2 := line_yes s (posF s q c) (by omega) w1 (HT.out w1 hb1) (begins_posF s q c hqs hbq hw)
      have hk : ∀ n, LineIs s (posF s q c) n → n = c := fun n h => place_line s q c n hbq hw h
      have hnp : nl s (posF s q c) = l := by rw [posF_flat s q c hw, hnq]
      have HK := (show Hid _ from hk)
      unfold LineSays at c2
      rw [hnp] at c2
      clear hk hnp hbq hnq hw hrow'
      generalize posF s q c = x at *
      go_wp2_with fail
      refine c2.mono ?_
      rintro e w2 ⟨k, rfl, hline, hb2⟩
      clear c2
      obtain rfl := HK.out k hline
      have hbb := hb1.trans (hb2.mono hb1.size)
      have c3 := hwork.out w2 hbb
      clear hline hb1 hb2
      go_wp2_with fail
      refine c3.mono ?_
      rintro e w' ⟨rfl, hb⟩
      clear c3
      have hbc := hbb.trans (hb.mono hbb.size)
      go_wp2_with fail
      go_ret
      exact ⟨rfl, hbc⟩
end Go.Proofs.YtpmgccjhflcoiaaDoor
