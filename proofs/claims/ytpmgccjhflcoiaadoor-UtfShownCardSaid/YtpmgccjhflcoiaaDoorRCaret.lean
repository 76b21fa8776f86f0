/-
  Contracts of the answer's At, told by the decoder, and of its Caret. No condition beyond those that each theorem states.
-/
import Derived.Test.YtpmgccjhflcoiaaDoorCarets
namespace Go.Proofs.YtpmgccjhflcoiaaDoor
open Go.RowKit
set_option linter.unusedSimpArgs false
set_option linter.unusedVariables false

/-- the sign at a place, or -1 -/
def runeAt (s : ByteArray) (i : Nat) : Int := if okAt s i then ((dec s i).1 : Nat) else -1
theorem rat_dec (s : ByteArray) (i : Nat) (hi : i < s.size) (hs : s.size ≤ 1000000) (w : World) :
    Calls Tryd.prog 23 #[.string s, .int .i64 i] w fun e w' => e = .returned (.tuple #[.int .i64 (runeAt s i), .int .i64 (wid s i : Nat)]) ∧ Below w.heap.size w w' := by
  refine (rat_ok s i hi hs w).mono ?_
  rintro e w' ⟨r, k, rfl, hr, hb⟩
  have : r = runeAt s i ∧ k = wid s i := by
    unfold runeAt wid
    rcases dec_cases s i hi with ⟨n, h1, h2, h3, h4, h5, h6, h7⟩ | ⟨h0, h6⟩
    · rw [h6, if_pos rfl, if_pos rfl, h7]
      rcases hr with ⟨m, g1, g2, g3, g4, g5, rfl, rfl⟩ | ⟨g0, _⟩
      · have : k = n := by
          rcases Nat.lt_trichotomy k n with h | h | h
          · rw [h5 k g1 h] at g4; cases g4
          · exact h
          · rw [g5 n h1 h] at h4; cases h4
        subst this
        exact ⟨rfl, rfl⟩
      · rw [g0 n h1 h2 h3] at h4; cases h4
    · rw [h6, if_neg (by simp), if_neg (by simp)]
      rcases hr with ⟨m, g1, g2, g3, g4, _⟩ | ⟨_, rfl, rfl⟩
      · rw [h0 m g1 g2 g3] at g4; cases g4
      · exact ⟨rfl, rfl⟩
  obtain ⟨rfl, rfl⟩ := this
  exact ⟨rfl, hb⟩

set_option maxRecDepth 100000 in
theorem rcaret_ok (s : ByteArray) (p : Int) (hs : s.size ≤ 1000000) (w : World) :
    Calls Tryd.prog 27 #[.string s, .int .i64 p] w fun e w' => e = .returned (.bool (caretI s p)) ∧ Below w.heap.size w w' := by
  have hfin : Hid (∀ k, (∀ j, j < k → pos s j < s.size ∧ (pos s j : Int) < p) → pos s k ≤ s.size → ¬ (pos s k < s.size ∧ (pos s k : Int) < p) → caretI s p = decide ((pos s k : Int) = p)) := by
    intro k hk hle hout
    unfold caretI
    by_cases hp : 0 ≤ p ∧ p ≤ s.size
    · rw [decide_eq_true hp, Bool.true_and]
      obtain ⟨n, rfl⟩ : ∃ n : Nat, p = n := ⟨p.toNat, by omega⟩
      rw [Int.toNat_natCast, Bool.eq_iff_iff, caret_iff s n (by omega), decide_eq_true_iff]
      constructor
      · rintro ⟨j, hj⟩
        rcases Nat.lt_trichotomy j k with h | h | h
        · have := hk j h; omega
        · subst h; omega
        · have h1 := pos_lt s k
          have h2 := pos_mono s (show k + 1 ≤ j from h)
          omega
      · intro h
        exact ⟨k, by omega⟩
    · rw [decide_eq_false hp, Bool.false_and, eq_comm, decide_eq_false_iff_not]
      omega
  go_enter Tryd.func27, Tryd.ntmps27
  go_wp2_with fail
  go_loopg [5] s.size (fun g s5 W => ∃ k : Nat, s5 = .int .i64 (pos s k : Nat) ∧ pos s k ≤ s.size ∧ s.size ≤ g + pos s k ∧ Hid (∀ j, j < k → pos s j < s.size ∧ (pos s j : Int) < p) ∧ Below w.heap.size w W)
  case atStart => exact ⟨0, rfl, by show 0 ≤ _; omega, by show _ ≤ _ + 0; omega, fun j h => by omega, Below.refl _ _⟩
  case round =>
    obtain ⟨k, rfl, hle, hg, Hk, hb⟩ := hrel
    by_cases hin : pos s k < s.size ∧ (pos s k : Int) < p
    · have ha := rat_dec s (pos s k) hin.1 hs wr
      have hw := wid_pos s (pos s k)
      have hwi := wid_in s (pos s k) hin.1
      have Hnx := (show Hid (pos s (k + 1) = pos s k + wid s (pos s k)) from rfl)
      have Hk' : Hid (∀ j, j < k + 1 → pos s j < s.size ∧ (pos s j : Int) < p) := by
        intro j hj
        rcases Nat.lt_or_ge j k with h | h
        · exact Hk.out j h
        · obtain rfl : j = k := by omega
          exact hin
      obtain ⟨hin1, hin2⟩ := hin
      generalize runeAt s (pos s k) = r at ha
      generalize wid s (pos s k) = z at ha hw hwi Hnx
      generalize pos s k = q at ha hle hg hin1 hin2 hwi Hnx ⊢
      clear Hk
      go_wp2_with fail
      refine ha.mono ?_
      rintro e w2 ⟨rfl, hb2⟩
      clear ha
      go_wp2_with fail
      go_roundg (gk - 1)
      case measure => omega
      case rel => exact ⟨k + 1, by rw [Hnx.out]; go_num, by rw [Hnx.out]; exact hwi, by rw [Hnx.out]; omega, Hk', hb.trans (hb2.mono hb.size)⟩
    · have hf := (show Hid _ from hfin.out k Hk.out hle hin)
      generalize pos s k = q at hf hle hg hin ⊢
      clear Hk hfin
      rcases (show ¬ q < s.size ∨ (q < s.size ∧ ¬ (q : Int) < p) by omega) with h | ⟨h, h'⟩
      all_goals
        go_wp2_with fail
        go_ret
        refine ⟨?_, hb⟩
        rw [hf.out]
        by_cases hqp : (q : Int) = p
        · simp [hqp]
        · simp [hqp]
end Go.Proofs.YtpmgccjhflcoiaaDoor
