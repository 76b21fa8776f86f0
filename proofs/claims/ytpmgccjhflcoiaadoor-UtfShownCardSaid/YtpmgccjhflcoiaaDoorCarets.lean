/-
  Plain law: a caret by the items from the beginning is a caret by looking back. No condition beyond those that each theorem states.
-/
import Derived.Test.YtpmgccjhflcoiaaDoorDecode
namespace Go.Proofs.YtpmgccjhflcoiaaDoor
open Go.RowKit
set_option linter.unusedSimpArgs false
set_option linter.unusedVariables false

/-- how many bytes an item has -/
def wid (s : ByteArray) (i : Nat) : Nat := if okAt s i then (dec s i).2 else 1
/-- where the items begin -/
def pos (s : ByteArray) : Nat → Nat
  | 0 => 0
  | k + 1 => pos s k + wid s (pos s k)
theorem wid_pos (s : ByteArray) (i : Nat) : 1 ≤ wid s i ∧ wid s i ≤ 4 := by
  unfold wid
  have := dec_bounds s i
  split <;> omega
theorem wid_in (s : ByteArray) (i : Nat) (hi : i < s.size) : i + wid s i ≤ s.size := by
  unfold wid
  rcases dec_cases s i hi with ⟨n, h1, h2, h3, _, _, h6, h7⟩ | ⟨_, h⟩
  · rw [h6, if_pos rfl, h7]; exact h3
  · rw [h, if_neg (by simp)]; omega
theorem pos_lt (s : ByteArray) (k : Nat) : pos s k < pos s (k + 1) := by
  have := wid_pos s (pos s k)
  show pos s k < pos s k + wid s (pos s k)
  omega
theorem pos_mono (s : ByteArray) {a b : Nat} (h : a ≤ b) : pos s a ≤ pos s b := by
  induction b with
  | zero => obtain rfl : a = 0 := by omega
            exact Nat.le_refl _
  | succ b ih =>
    rcases Nat.lt_or_ge a (b + 1) with h1 | h1
    · have := ih (by omega); have := pos_lt s b; omega
    · obtain rfl : a = b + 1 := by omega
      exact Nat.le_refl _
theorem pos_cover (s : ByteArray) (p : Nat) : ∃ k, pos s k ≤ p ∧ p < pos s (k + 1) := by
  induction p with
  | zero => exact ⟨0, Nat.le_refl _, by have := pos_lt s 0; have : pos s 0 = 0 := rfl; omega⟩
  | succ p ih =>
    obtain ⟨k, h1, h2⟩ := ih
    by_cases h : p + 1 < pos s (k + 1)
    · exact ⟨k, by omega, h⟩
    · exact ⟨k + 1, by omega, by have := pos_lt s (k + 1); omega⟩
/-- a sign's first byte goes on with no other sign; its other bytes begin none -/
theorem lead (s : ByteArray) (i : Nat) (hi : i < s.size) (h : okAt s i = true) : byteAt s i / 64 ≠ 2 ∧ ∀ j, 0 < j → j < (dec s i).2 → byteAt s (i + j) / 64 = 2 := by
  rcases dec_cases s i hi with ⟨n, h1, h2, h3, h4, _, h6, h7⟩ | ⟨_, h0⟩
  · rw [h7]
    rcases (show n = 1 ∨ n = 2 ∨ n = 3 ∨ n = 4 by omega) with rfl | rfl | rfl | rfl
    · have := (m1 s i h3).1 h4
      exact ⟨by omega, fun j a b => by simp at b; omega⟩
    · obtain ⟨e0, e1, _⟩ := (m2 s i h3).1 h4
      exact ⟨by omega, fun j a b => by simp at b; obtain rfl : j = 1 := by omega
                                       exact e1⟩
    · obtain ⟨e0, e1, e2, _⟩ := (m3 s i h3).1 h4
      refine ⟨by omega, fun j a b => ?_⟩
      simp at b
      rcases (show j = 1 ∨ j = 2 by omega) with rfl | rfl
      · exact e1
      · exact e2
    · obtain ⟨e0, e1, e2, e3, _⟩ := (m4 s i h3).1 h4
      refine ⟨by omega, fun j a b => ?_⟩
      simp at b
      rcases (show j = 1 ∨ j = 2 ∨ j = 3 by omega) with rfl | rfl | rfl
      · exact e1
      · exact e2
      · exact e3
  · rw [h0] at h; cases h
theorem caret_iff (s : ByteArray) (p : Nat) (hp : p ≤ s.size) : caretN s p = true ↔ ∃ k, pos s k = p := by
  unfold caretN
  rw [decide_eq_true_iff]
  constructor
  · intro h
    obtain ⟨k, h1, h2⟩ := pos_cover s p
    rcases Nat.lt_or_ge (pos s k) p with h3 | h3
    · exfalso
      have hw := wid_pos s (pos s k)
      have hpk : pos s (k + 1) = pos s k + wid s (pos s k) := rfl
      have ho := h (pos s k) h3 (by omega)
      unfold overB at ho
      cases hok : okAt s (pos s k) with
      | true =>
        rw [hok, Bool.true_and, decide_eq_false_iff_not] at ho
        unfold wid at hpk
        rw [hok, if_pos rfl] at hpk
        omega
      | false =>
        unfold wid at hpk
        rw [hok, if_neg (by simp)] at hpk
        omega
    · exact ⟨k, by omega⟩
  · rintro ⟨k, rfl⟩ f hf hf3
    unfold overB
    cases hok : okAt s f with
    | false => rfl
    | true =>
      rw [Bool.true_and, decide_eq_false_iff_not]
      intro hlt
      obtain ⟨l1, l2⟩ := lead s f (by omega) hok
      obtain ⟨j, h1, h2⟩ := pos_cover s f
      have hpj : pos s (j + 1) = pos s j + wid s (pos s j) := rfl
      rcases Nat.lt_or_ge (pos s j) f with h3 | h3
      · -- f lies within an item
        have hokj : okAt s (pos s j) = true := by
          cases hj : okAt s (pos s j) with
          | true => rfl
          | false =>
            unfold wid at hpj
            rw [hj, if_neg (by simp)] at hpj
            omega
        have := (lead s (pos s j) (by omega) hokj).2 (f - pos s j) (by omega) (by unfold wid at hpj; rw [hokj, if_pos rfl] at hpj; omega)
        rw [show pos s j + (f - pos s j) = f from by omega] at this
        exact l1 this
      · have hjf : pos s j = f := by omega
        unfold wid at hpj
        rw [hjf, hok, if_pos rfl] at hpj
        have hkj : ¬ k ≤ j := fun h => by have := pos_mono s h; omega
        have hjk : ¬ j + 1 ≤ k := fun h => by have := pos_mono s h; omega
        omega
end Go.Proofs.YtpmgccjhflcoiaaDoor
