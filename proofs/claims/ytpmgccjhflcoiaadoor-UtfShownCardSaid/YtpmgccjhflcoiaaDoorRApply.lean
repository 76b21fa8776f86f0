/-
  Contract of the answer's Apply. No condition beyond those that each theorem states.
-/
import Derived.Test.YtpmgccjhflcoiaaDoorApply
namespace Go.Proofs.YtpmgccjhflcoiaaDoor
open Go.RowKit
set_option linter.unusedSimpArgs false
set_option linter.unusedVariables false

set_option maxRecDepth 100000 in
theorem rapply_no (s : ByteArray) (a c : Int) (put : ByteArray) (hs : s.size ≤ 100000) (hp : put.size ≤ 100000) (ha : -9223372036854775808 ≤ a ∧ a ≤ 9223372036854775807) (hc : -9223372036854775808 ≤ c ∧ c ≤ 9223372036854775807) (w : World) (hm : ¬ mayN s a c put = 0) :
    Calls Tryd.prog 15 #[.string s, .int .i64 a, .int .i64 c, .string put] w fun e w' => e = .returned (.tuple #[.string ⟨#[]⟩, .int .i64 (mayN s a c put)]) ∧ Below w.heap.size w w' := by
  unfold mayN at hm ⊢
  by_cases h1 : a < 0 ∨ c < 0 ∨ (s.size : Int) < a ∨ (s.size : Int) - a < c
  · rw [if_pos h1]
    clear hm
    rcases (show a < 0 ∨ (¬ a < 0 ∧ c < 0) ∨ (¬ a < 0 ∧ ¬ c < 0 ∧ (s.size : Int) < a) ∨ (¬ a < 0 ∧ ¬ c < 0 ∧ ¬ (s.size : Int) < a ∧ (s.size : Int) - a < c) by omega) with h | ⟨h, h2⟩ | ⟨h, h2, h3⟩ | ⟨h, h2, h3, h4⟩
    all_goals
      clear h1
      go_enter Tryd.func15, Tryd.ntmps15
      go_wp2_with fail
      go_ret2
      exact ⟨rfl, Below.refl _ _⟩
  · rw [if_neg h1] at hm ⊢
    have g1 : ¬ a < 0 := by omega
    have g2 : ¬ c < 0 := by omega
    have g3 : ¬ (s.size : Int) < a := by omega
    have g4 : ¬ (s.size : Int) - a < c := by omega
    have c1 := rcaret_ok s a (by omega) w
    have C2 := (show Hid (∀ W, Calls Tryd.prog 27 #[.string s, .int .i64 (a + c)] W fun e w' => e = .returned (.bool (caretI s (a + c))) ∧ Below W.heap.size W w') from fun W => rcaret_ok s (a + c) (by omega) W)
    clear h1
    cases hc1 : caretI s a with
    | false =>
      rw [hc1] at c1
      rw [if_pos (Or.inl rfl)]
      clear hc1 hm
      go_enter Tryd.func15, Tryd.ntmps15
      go_wp2_with fail
      refine c1.mono ?_
      rintro e w2 ⟨rfl, hb2⟩
      clear c1
      go_wp2_with fail
      go_ret2
      exact ⟨rfl, hb2⟩
    | true =>
      rw [hc1] at c1
      rw [hc1] at hm
      clear hc1
      cases hc2 : caretI s (a + c) with
      | false =>
        rw [hc2] at C2
        rw [if_pos (Or.inr rfl)]
        clear hc2 hm
        go_enter Tryd.func15, Tryd.ntmps15
        go_wp2_with fail
        refine c1.mono ?_
        rintro e w2 ⟨rfl, hb2⟩
        clear c1
        have c2 := C2.out w2
        go_wp2_with fail
        refine c2.mono ?_
        rintro e w3 ⟨rfl, hb3⟩
        clear c2
        go_wp2_with fail
        go_ret2
        exact ⟨rfl, hb2.trans (hb3.mono hb2.size)⟩
      | true =>
        rw [hc2] at C2
        rw [hc2, if_neg (by simp)] at hm
        rw [if_neg (by simp)]
        clear hc2
        by_cases h3 : (65536 : Int) < s.size - c ∨ 65536 - ((s.size : Int) - c) < put.size
        · rw [if_pos h3]
          have h4 : 65536 - (put.size : Int) < (s.size : Int) - c := by omega
          clear h3 hm
          go_enter Tryd.func15, Tryd.ntmps15
          go_wp2_with fail
          refine c1.mono ?_
          rintro e w2 ⟨rfl, hb2⟩
          clear c1
          have c2 := C2.out w2
          go_wp2_with fail
          refine c2.mono ?_
          rintro e w3 ⟨rfl, hb3⟩
          clear c2
          go_wp2_with fail
          go_ret2
          exact ⟨rfl, hb2.trans (hb3.mono hb2.size)⟩
        · rw [if_neg h3] at hm
          exact absurd rfl hm
set_option maxRecDepth 100000 in
theorem rapply_yes (s : ByteArray) (a c : Nat) (put : ByteArray) (hs : s.size ≤ 100000) (hp : put.size ≤ 100000) (w : World) (hm : mayN s a c put = 0) :
    Calls Tryd.prog 15 #[.string s, .int .i64 a, .int .i64 c, .string put] w fun e w' => e = .returned (.tuple #[.string (applied s a c put), .int .i64 0]) ∧ Below w.heap.size w w' := by
  have hz := mayN_zero hm
  have hac : a + c ≤ s.size := by omega
  unfold mayN at hm
  rw [if_neg (by omega)] at hm
  have hca : caretI s a = true := by
    cases h : caretI s a with
    | true => rfl
    | false => rw [h, if_pos (Or.inl rfl)] at hm; cases hm
  have hcb : caretI s ((a : Int) + c) = true := by
    cases h : caretI s ((a : Int) + c) with
    | true => rfl
    | false => rw [h, if_pos (Or.inr rfl)] at hm; cases hm
  rw [if_neg (by rw [hca, hcb]; simp)] at hm
  have h3 : ¬ ((65536 : Int) < s.size - c ∨ 65536 - ((s.size : Int) - c) < put.size) := by
    intro h
    rw [if_pos h] at hm
    cases hm
  have h4 : ¬ 65536 - (put.size : Int) < (s.size : Int) - c := by omega
  have c1 := rcaret_ok s a (by omega) w
  have C2 := (show Hid (∀ W, Calls Tryd.prog 27 #[.string s, .int .i64 ((a : Int) + c)] W fun e w' => e = .returned (.bool (caretI s ((a : Int) + c))) ∧ Below W.heap.size W w') from fun W => rcaret_ok s ((a : Int) + c) (by omega) W)
  rw [hca] at c1
  rw [hcb] at C2
  clear hm h3 hca hcb hz
  have z1 : (a : Int) ≤ (s.size : Int) := by omega
  have z2 : (a : Int) + (c : Int) ≤ (s.size : Int) := by omega
  have z3 : ¬ (s.size : Int) - (a : Int) < (c : Int) := by omega
  go_enter Tryd.func15, Tryd.ntmps15
  go_wp2_with fail
  refine c1.mono ?_
  rintro e w2 ⟨rfl, hb2⟩
  clear c1
  have c2 := C2.out w2
  go_wp2_with fail
  refine c2.mono ?_
  rintro e w3 ⟨rfl, hb3⟩
  clear c2
  have hq := (show Hid _ from hb2.trans (hb3.mono hb2.size))
  clear hb2 hb3
  go_wp2_with fail
  go_quiet (fail)
  go_wp2_with fail
  go_ret2
  exact ⟨rfl, hq.out.trans (drewN_below _ _ _)⟩
end Go.Proofs.YtpmgccjhflcoiaaDoor
