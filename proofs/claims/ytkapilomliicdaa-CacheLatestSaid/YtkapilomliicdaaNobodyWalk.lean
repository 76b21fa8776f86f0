/-
  The walk of CacheNobody: it returns true, and nothing that was there has turned. No condition beyond those that each theorem states.
-/
import Derived.Test.YtkapilomliicdaaWorks
namespace Go.Proofs.Ytkapilomliicdaa
open Go.RowKit Go.Maps
set_option linter.unusedSimpArgs false
set_option linter.unusedVariables false

theorem keys_len {w : World} {B : Nat} {v : Value} {n : Nat} {xs : List Value} (h : w.ownsRow B 9 1 v n xs) : ∃ a cap, v = .slice a n cap := by
  rcases h.2 with ⟨rfl, rfl⟩ | ⟨g, cap, cur, rfl, _⟩
  · exact ⟨none, 0, rfl⟩
  · exact ⟨_, _, rfl⟩

set_option maxRecDepth 100000 in
set_option maxHeartbeats 1600000 in
theorem nobody_walk (k : ByteArray) (n : Int) (hk : k.size ≤ maxLen) (w : World) :
    Calls Try.prog 4 #[.string k, .int .i64 n] w fun e w' => e = .returned (.bool true) ∧ Below w.heap.size w w' := by
  have hnn : (n != n) = false := by simp
  go_enter Try.func4, Try.ntmps4
  go_wp2
  go_loopg [5] 4 (fun g i wr => ∃ j : Nat, i = .int .i64 j ∧ j ≤ 4 ∧ 4 ≤ g + j ∧ Below w.heap.size w wr)
  case atStart => exact ⟨0, rfl, by omega, by omega, Below.refl _ _⟩
  case round =>
    obtain ⟨j, rfl, hj, hg, hB⟩ := hrel
    have hsz := hB.size
    rcases (show j = 0 ∨ j = 1 ∨ (2 ≤ j ∧ j ≤ 3) ∨ j = 4 from by omega) with rfl | rfl | hj | rfl
    · have hu : Unmade (.pointer (some ⟨wr.heap.size, 0, none⟩)) (wr.alloc (.cells #[.int .i64 0, .map none, .pointer none, .pointer none, .int .i64 0, .int .i64 0, .int .i64 0] 35)) :=
        Or.inr ⟨_, rfl, blk_cell (blk_new _ _) rfl⟩
      have t1 := put_no hu k n
      have t2 := clear_no hu
      have t3 := get_no hu k
      have t4 := long_no hu
      have t5 := room_no hu
      have t6 := keys_no hu
      have t7 := resize_no hu 3
      clear hu
      go_wp2_with (first | (go_at_call 6; refine t1.mono ?_; rintro e w' ⟨rfl, rfl⟩) | (go_at_call 10; refine t2.mono ?_; rintro e w' ⟨rfl, rfl⟩) | (go_at_call 8; refine t3.mono ?_; rintro e w' ⟨rfl, rfl⟩) | (go_at_call 11; refine t4.mono ?_; rintro e w' ⟨rfl, rfl⟩) | (go_at_call 12; refine t5.mono ?_; rintro e w' ⟨rfl, rfl⟩) | (go_at_call 7; refine t6.mono ?_; rintro e w' ⟨rfl, rfl⟩) | (go_at_call 13; refine t7.mono ?_; rintro e w' ⟨rfl, rfl⟩))
      go_roundg (gk - 1)
      case measure => omega
      case rel => exact ⟨1, rfl, by omega, by omega, hB.alloc hsz _⟩
    · have hu : ∀ w, Unmade (.pointer none) w := fun _ => Or.inl rfl
      have t1 := fun w => put_no (hu w) k n
      have t2 := fun w => clear_no (hu w)
      have t3 := fun w => get_no (hu w) k
      have t4 := fun w => long_no (hu w)
      have t5 := fun w => room_no (hu w)
      have t6 := fun w => keys_no (hu w)
      have t7 := fun w => resize_no (hu w) 3
      clear hu
      go_wp2_with (first | (go_at_call 6; refine (t1 _).mono ?_; rintro e w' ⟨rfl, rfl⟩) | (go_at_call 10; refine (t2 _).mono ?_; rintro e w' ⟨rfl, rfl⟩) | (go_at_call 8; refine (t3 _).mono ?_; rintro e w' ⟨rfl, rfl⟩) | (go_at_call 11; refine (t4 _).mono ?_; rintro e w' ⟨rfl, rfl⟩) | (go_at_call 12; refine (t5 _).mono ?_; rintro e w' ⟨rfl, rfl⟩) | (go_at_call 7; refine (t6 _).mono ?_; rintro e w' ⟨rfl, rfl⟩) | (go_at_call 13; refine (t7 _).mono ?_; rintro e w' ⟨rfl, rfl⟩))
      go_roundg (gk - 1)
      case measure => omega
      case rel => exact ⟨2, rfl, by omega, by omega, hB.alloc hsz _⟩
    · have hnew : ∀ (r : Int) w, r = 0 ∨ r = -1 → Calls Try.prog 5 #[.int .i64 r] w fun e w' => e = .returned (.pointer (some ⟨w.heap.size + 1, 0, none⟩)) ∧ CS w' w.heap.size (w.heap.size + 1) w.heap.size ((0 : Nat) : Int) [] 0 0 0 ∧ Below w.heap.size w w' := by
        intro r w hr
        have := new_cs r w
        rwa [show max 0 (min r 4096) = ((0 : Nat) : Int) from by omega] at this
      rcases (show j = 2 ∨ j = 3 from by omega) with rfl | rfl
      all_goals
        go_wp2_with (go_at_call 5; refine (hnew _ _ (by omega)).mono ?_; rintro e w1 ⟨rfl, h1, hB1⟩)
        have e1 : (wr.alloc (.cells #[.int .i64 0, .map none, .pointer none, .pointer none, .int .i64 0, .int .i64 0, .int .i64 0] 35)).heap.size = wr.heap.size + 1 := by simp
        rw [e1] at h1 hB1
        have hsz1 : wr.heap.size + 1 ≤ w1.heap.size := by rw [← e1]; exact hB1.size
        have hB1' := (hB.alloc (B := w.heap.size) hsz (.cells #[.int .i64 0, .map none, .pointer none, .pointer none, .int .i64 0, .int .i64 0, .int .i64 0] 35)).trans (hB1.mono (by omega))
        clear e1 hB1 hnew
        refine (put_noroom h1 k n).mono ?_
        rintro e w' ⟨rfl, rfl⟩
        go_wp2_with fail
        refine (clear_cs h1).mono ?_
        rintro e w2 ⟨rfl, h2, hB2⟩
        go_wp2_with fail
        refine (put_noroom h2 k n).mono ?_
        rintro e w' ⟨rfl, rfl⟩
        go_wp2_with fail
        refine (get_miss h2 k (look_no h2 k hk (by simp))).mono ?_
        rintro e w3 ⟨rfl, h3, hB3⟩
        have t4 := long_cs h3
        have t5 := room_cs h3
        have t6 := keys_cs h3 (by simp)
        simp only [List.length_nil, List.map_nil] at t4 t6
        go_wp2_with fail
        refine t4.mono ?_
        rintro e w' ⟨rfl, rfl⟩
        clear t4
        go_wp2_with fail
        refine t5.mono ?_
        rintro e w' ⟨rfl, rfl⟩
        clear t5
        go_wp2_with fail
        refine t6.mono ?_
        rintro e w4 ⟨v, rfl, hown, hB4⟩
        clear t6
        obtain ⟨va, vc, rfl⟩ := keys_len hown
        have h4 := h3.below hB4
        clear hown
        have t7 := resize_cs h4 (by simp) 3
        rw [show max 0 (min (3 : Int) 4096) = ((3 : Nat) : Int) from by omega] at t7
        simp only [List.take_nil, List.length_nil, Nat.zero_sub, wrapN] at t7
        go_wp2_with fail
        refine t7.mono ?_
        rintro e w5 ⟨rfl, h5, hB5⟩
        clear t7
        have hs5 : wr.heap.size + 1 ≤ w5.heap.size := by
          have a2 := hB2.size
          have a3 := hB3.size
          have a4 := hB4.size
          have a5 := hB5.size
          omega
        have t8 := put_miss h5 (by omega) (by omega) (by simp) k hk n (by simp) hs5 (look_no h5 k hk (by simp))
        simp only [List.take_nil, List.length_nil, Nat.zero_sub, wrapN] at t8
        go_wp2_with fail
        refine t8.mono ?_
        rintro e w6 ⟨rfl, b, h6, hB6⟩
        clear t8
        have t9 := get_hit (xs := []) (ys := []) h6 (look_yes (xs := []) (ys := []) h6)
        go_wp2_with fail
        refine t9.mono ?_
        rintro e w7 ⟨rfl, h7, hB7⟩
        clear t9 h1 h2 h3 h4 h5 h6 h7
        have Hh := (show Hid (Below w.heap.size w w7) from by
          have a3 : w.heap.size ≤ w3.heap.size := by
            have b2 := hB2.size
            have b3 := hB3.size
            omega
          exact (((((hB1'.trans (hB2.mono (by omega))).trans (hB3.mono (by omega))).trans (hB4.mono a3)).trans (hB5.mono (by omega))).trans (hB6.mono (by omega))).trans (hB7.mono (by omega)))
        clear hB1' hB2 hB3 hB4 hB5 hB6 hB7
        go_wp2_with fail
        go_roundg (gk - 1)
        case measure => omega
        case rel => first | exact ⟨3, rfl, by omega, by omega, Hh.out⟩ | exact ⟨4, rfl, by omega, by omega, Hh.out⟩
    · go_wp2_with (go_at_call 9; refine (works_any _).mono ?_; rintro e w1 ⟨rfl, hB1⟩)
      go_ret
      exact ⟨rfl, hB.trans (hB1.mono hsz)⟩
end Go.Proofs.Ytkapilomliicdaa
