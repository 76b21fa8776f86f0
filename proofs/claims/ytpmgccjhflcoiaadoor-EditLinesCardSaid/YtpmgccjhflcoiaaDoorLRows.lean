/-
  Plain law: the line of a place, and the place of a line's column, by the places where lines begin. No condition beyond those that each theorem states.
-/
import Derived.Test.YtpmgccjhflcoiaaDoorRLines
namespace Go.Proofs.YtpmgccjhflcoiaaDoor
open Go.RowKit
set_option linter.unusedSimpArgs false
set_option linter.unusedVariables false

theorem caret_of_lead2 (t : ByteArray) (p : Nat) (hp : p ≤ t.size) (h : p = t.size ∨ byteAt t p = 10) : caretN t p = true := by
  unfold caretN
  rw [decide_eq_true_iff]
  intro f hf _
  unfold overB
  cases hok : okAt t f with
  | false => rfl
  | true =>
    rw [Bool.true_and, decide_eq_false_iff_not]
    intro hlt
    rcases h with rfl | h
    · have := wid_in t f (by omega)
      unfold wid at this
      rw [hok, if_pos rfl] at this
      omega
    · have := (lead t f (by omega) hok).2 (p - f) (by omega) (by omega)
      rw [show f + (p - f) = p from by omega, h] at this
      omega
theorem begins_le (s : ByteArray) {q p : Nat} (hq : Begins s q) (h : nl s q ≤ nl s p) : q ≤ p := by
  rcases Nat.lt_or_ge p q with h1 | h1
  · exfalso
    rcases hq with rfl | ⟨h2, h3⟩
    · omega
    · have e : nl s (q - 1 + 1) = nl s (q - 1) + (if byteAt s (q - 1) = 10 then 1 else 0) := rfl
      rw [if_pos h3, show q - 1 + 1 = q from by omega] at e
      have := nl_mono s (show p ≤ q - 1 by omega)
      omega
  · exact h1
theorem lineIs_inj {s : ByteArray} {p a b : Nat} (ha : LineIs s p a) (hb : LineIs s p b) : a = b := by
  obtain ⟨q, h1, h2, h3, h4⟩ := ha
  obtain ⟨q', g1, g2, g3, g4⟩ := hb
  have := begins_inj s h2 g2 (by rw [h3, g3])
  subst this
  exact posF_inj s q (h4.trans g4.symm)
/-- the line that is found by going on from line to line -/
theorem row_found (s : ByteArray) (p k : Nat) (hp : p ≤ s.size) (hk : k < 1 + nl s s.size) (h1 : (starts s s.size).getD k 0 ≤ p) (h2 : 1 + nl s s.size ≤ k + 1 ∨ p < (starts s s.size).getD (k + 1) 0) : k = nl s p := by
  obtain ⟨b1, b2, b3⟩ := starts_at s s.size k hk
  have m1 := nl_mono s h1
  have m2 := nl_mono s hp
  rcases h2 with h2 | h2
  · omega
  · rcases Nat.lt_or_ge (k + 1) (1 + nl s s.size) with h3 | h3
    · obtain ⟨c1, c2, c3⟩ := starts_at s s.size (k + 1) h3
      rcases Nat.lt_or_ge (nl s p) (k + 1) with h4 | h4
      · omega
      · have := begins_le s (p := p) c1 (by rw [c2]; exact h4)
        omega
    · omega
/-- where a line ends -/
def endOf (s : ByteArray) (row : Nat) : Nat := if row + 1 < 1 + nl s s.size then (starts s s.size).getD (row + 1) 0 - 1 else s.size
theorem end_facts (s : ByteArray) (row : Nat) (h : row < 1 + nl s s.size) : (starts s s.size).getD row 0 ≤ endOf s row ∧ endOf s row ≤ s.size ∧ (endOf s row = s.size ∨ byteAt s (endOf s row) = 10) ∧
    (∀ j, (starts s s.size).getD row 0 ≤ j → j < endOf s row → byteAt s j ≠ 10) ∧ (row + 1 < 1 + nl s s.size → 1 ≤ (starts s s.size).getD (row + 1) 0) := by
  obtain ⟨b1, b2, b3⟩ := starts_at s s.size row h
  generalize (starts s s.size).getD row 0 = q at *
  unfold endOf
  by_cases h2 : row + 1 < 1 + nl s s.size
  · rw [if_pos h2]
    obtain ⟨c1, c2, c3⟩ := starts_at s s.size (row + 1) h2
    generalize (starts s s.size).getD (row + 1) 0 = q' at *
    rcases c1 with rfl | ⟨d1, d2⟩
    · have : nl s 0 = 0 := rfl
      omega
    · have e : nl s (q' - 1 + 1) = nl s (q' - 1) + (if byteAt s (q' - 1) = 10 then 1 else 0) := rfl
      rw [if_pos d2, show q' - 1 + 1 = q' from by omega] at e
      have hle := begins_le s (p := q' - 1) b1 (by omega)
      refine ⟨hle, by omega, Or.inr d2, fun j j1 j2 => nl_same s q (q' - 1) hle (by omega) j j1 j2, fun _ => d1⟩
  · rw [if_neg h2]
    refine ⟨b3, Nat.le_refl _, Or.inl rfl, fun j j1 j2 => nl_same s q s.size b3 (by omega) j j1 j2, fun h => absurd h h2⟩
theorem place_end (s : ByteArray) (row col n : Nat) (p c : Int) (h : row < 1 + nl s s.size) (hp : PlaceIs s row col p c)
    (hn : pos (s.extract ((starts s s.size).getD row 0) (endOf s row)) n = (s.extract ((starts s s.size).getD row 0) (endOf s row)).size) :
    (n < col → p = 0 ∧ c = 10) ∧ (col ≤ n → c = 0 ∧ ∃ P : Nat, p = P ∧ (starts s s.size).getD row 0 ≤ P ∧ P ≤ endOf s row ∧ caretN s P = true ∧ posF s ((starts s s.size).getD row 0) col = P) := by
  obtain ⟨b1, b2, b3⟩ := starts_at s s.size row h
  obtain ⟨e1, e2, e3, e4, _⟩ := end_facts s row h
  obtain ⟨q, h1, h2, h3, hcase⟩ := hp
  have hq := begins_inj s b1 h1 (by rw [b2, h2])
  rw [hq] at e1 e4 hn ⊢
  generalize endOf s row = e at *
  have hce := caret_of_lead2 s e e2 e3
  obtain ⟨i, hi⟩ := (caret_iff s q h3).1 (begins_caret s q h3 h1)
  obtain ⟨j, hj⟩ := (caret_iff s e e2).1 hce
  have hij : i ≤ j := by
    rcases Nat.lt_or_ge j i with h5 | h5
    · have := pos_lt s j; have := pos_mono s (show j + 1 ≤ i from h5); omega
    · exact h5
  have hN : posF s q (j - i) = e := by rw [← hi, posF_pos, show i + (j - i) = j from by omega, hj]
  have hnN := count_ext s q e (j - i) n e1 e2 hce hN hn
  rw [← hnN] at hN
  have hlt : ∀ k, k < n → posF s q k < e := fun k hk => by have := posF_lt s q k; have := posF_mono s q (show k + 1 ≤ n from hk); omega
  rcases hcase with ⟨k, k1, k2, k3, rfl, rfl⟩ | ⟨k1, rfl, rfl⟩
  · refine ⟨fun _ => ⟨rfl, rfl⟩, fun hc => ?_⟩
    exfalso
    have hk := hlt k (by omega)
    rcases k3 with k3 | k3
    · omega
    · exact e4 _ (posF_ge s q k) hk k3
  · refine ⟨fun hc => ?_, fun hc => ?_⟩
    · exfalso
      obtain ⟨w1, w2⟩ := k1 n hc
      rw [hN] at w1 w2
      rcases e3 with e3 | e3
      · omega
      · exact w2 e3
    · have hle := posF_mono s q hc
      rw [hN] at hle
      refine ⟨rfl, posF s q col, rfl, posF_ge s q col, hle, ?_, rfl⟩
      exact (caret_iff s _ (by omega)).2 ⟨i + col, by rw [← hi, posF_pos]⟩
end Go.Proofs.YtpmgccjhflcoiaaDoor
