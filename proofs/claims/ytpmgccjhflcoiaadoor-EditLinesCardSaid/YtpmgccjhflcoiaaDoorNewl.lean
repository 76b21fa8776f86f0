/-
  Plain law: lines. How many line ends stand ahead of a place; where a line begins. No condition beyond those that each theorem states.
-/
import Derived.Test.YtpmgccjhflcoiaaDoorLocal
import Derived.Lib.LastIndexByte
namespace Go.Proofs.YtpmgccjhflcoiaaDoor
open Go.RowKit
set_option linter.unusedSimpArgs false
set_option linter.unusedVariables false

/-- how many line ends stand ahead of a place -/
def nl (s : ByteArray) : Nat → Nat
  | 0 => 0
  | k + 1 => nl s k + (if byteAt s k = 10 then 1 else 0)
theorem nl_mono (s : ByteArray) {a b : Nat} (h : a ≤ b) : nl s a ≤ nl s b := by
  induction b with
  | zero => obtain rfl : a = 0 := by omega
            exact Nat.le_refl _
  | succ b ih =>
    rcases Nat.lt_or_ge a (b + 1) with h1 | h1
    · have := ih (by omega); show _ ≤ nl s b + _; omega
    · obtain rfl : a = b + 1 := by omega
      exact Nat.le_refl _
theorem nl_le (s : ByteArray) (k : Nat) : nl s k ≤ k := by
  induction k with
  | zero => exact Nat.le_refl _
  | succ k ih => show nl s k + _ ≤ _; split <;> omega
/-- no line end between two places -/
theorem nl_flat (s : ByteArray) (a b : Nat) (h : a ≤ b) (hno : ∀ j, a ≤ j → j < b → byteAt s j ≠ 10) : nl s b = nl s a := by
  induction b with
  | zero => obtain rfl : a = 0 := by omega
            rfl
  | succ b ih =>
    rcases Nat.lt_or_ge a (b + 1) with h1 | h1
    · show nl s b + _ = _
      rw [if_neg (hno b (by omega) (by omega)), ih (by omega) fun j h2 h3 => hno j h2 (by omega)]
      rfl
    · obtain rfl : a = b + 1 := by omega
      rfl
theorem nl_same (s : ByteArray) (a b : Nat) (h : a ≤ b) (he : nl s a = nl s b) : ∀ j, a ≤ j → j < b → byteAt s j ≠ 10 := by
  intro j h1 h2 h3
  have e : nl s (j + 1) = nl s j + 1 := by show nl s j + _ = _; rw [if_pos h3]
  have := nl_mono s h1
  have := nl_mono s (show j + 1 ≤ b from h2)
  omega
theorem count_take (s : ByteArray) (p : Nat) (hp : p ≤ s.size) : (s.data.toList.take p).count 10 = nl s p := by
  induction p with
  | zero => simp [nl]
  | succ p ih =>
    have hl : p < s.data.toList.length := by rw [← Lib.size_eq]; omega
    rw [List.take_succ_eq_append_getElem hl, List.count_append, ih (by omega)]
    show _ = nl s p + _
    congr 1
    have hb : byteAt s p = (s.data.toList[p]).toNat := by
      unfold byteAt
      rw [Utf8W.get!_of_lt s p (by omega)]
      rfl
    rw [hb, List.count_singleton]
    by_cases h : s.data.toList[p] = 10
    · rw [h]; rfl
    · have h2 : ¬ (s.data.toList[p]).toNat = 10 := fun e => h (UInt8.toNat_inj.1 e)
      have h3 : (s.data.toList[p] == 10) = false := beq_eq_false_iff_ne.2 h
      rw [if_neg h2, h3]; rfl
theorem count_nl (s : ByteArray) (p : Nat) (hp : p ≤ s.size) : Lib.countByte (s.extract 0 p).data.toList 10 = nl s p := by
  unfold Lib.countByte
  rw [Lib.extract_data, List.drop_zero, Nat.sub_zero, count_take s p hp]
theorem count_all (s : ByteArray) : Lib.countByte s.data.toList 10 = nl s s.size := by
  unfold Lib.countByte
  rw [← count_take s s.size (Nat.le_refl _), List.take_of_length_le (by rw [← Lib.size_eq]; exact Nat.le_refl _)]
/-- a place where a line begins -/
def Begins (s : ByteArray) (q : Nat) : Prop := q = 0 ∨ (0 < q ∧ byteAt s (q - 1) = 10)
theorem begins_inj (s : ByteArray) {a b : Nat} (ha : Begins s a) (hb : Begins s b) (h : nl s a = nl s b) : a = b := by
  rcases Nat.lt_trichotomy a b with h1 | h1 | h1
  · rcases hb with rfl | ⟨h2, h3⟩
    · omega
    · exact absurd h3 (nl_same s a b (by omega) h (b - 1) (by omega) (by omega))
  · exact h1
  · rcases ha with rfl | ⟨h2, h3⟩
    · omega
    · exact absurd h3 (nl_same s b a (by omega) h.symm (a - 1) (by omega) (by omega))
/-- the last line that begins at a place or ahead of it -/
theorem begins_at (s : ByteArray) (p : Nat) : ∃ q, q ≤ p ∧ Begins s q ∧ nl s q = nl s p := by
  induction p with
  | zero => exact ⟨0, Nat.le_refl _, Or.inl rfl, rfl⟩
  | succ p ih =>
    by_cases h : byteAt s p = 10
    · exact ⟨p + 1, Nat.le_refl _, Or.inr ⟨by omega, h⟩, rfl⟩
    · obtain ⟨q, h1, h2, h3⟩ := ih
      refine ⟨q, by omega, h2, ?_⟩
      show nl s q = nl s p + _
      rw [if_neg h, h3]; rfl
/-- a line begins at a caret -/
theorem begins_caret (s : ByteArray) (q : Nat) (hq : q ≤ s.size) (h : Begins s q) : caretN s q = true := by
  unfold caretN
  rw [decide_eq_true_iff]
  intro f hf hf3
  rcases h with rfl | ⟨h0, h10⟩
  · omega
  · unfold overB
    cases hok : okAt s f with
    | false => rfl
    | true =>
      rw [Bool.true_and, decide_eq_false_iff_not]
      intro hlt
      obtain ⟨l1, l2⟩ := lead s f (by omega) hok
      by_cases hf1 : f = q - 1
      · subst hf1
        rcases dec_cases s (q - 1) (by omega) with ⟨n, n1, n4, ns, nm, nno, _, hd⟩ | ⟨_, h0⟩
        · rw [hd] at hlt
          have hlt : q - (q - 1) < n := hlt
          have := nno 1 (by omega) (by omega)
          have m := (m1 s (q - 1) (by omega)).2 (by omega)
          rw [this] at m; cases m
        · rw [h0] at hok; cases hok
      · have := l2 (q - 1 - f) (by omega) (by omega)
        rw [show f + (q - 1 - f) = q - 1 from by omega, h10] at this
        omega
/-- a byte of an item that does not begin with a line end is none -/
theorem item_flat (s : ByteArray) (i : Nat) (hi : i < s.size) (h10 : byteAt s i ≠ 10) (j : Nat) (h1 : i ≤ j) (h2 : j < i + wid s i) : byteAt s j ≠ 10 := by
  by_cases hij : j = i
  · subst hij; exact h10
  · intro e
    unfold wid at h2
    cases hok : okAt s i with
    | false => rw [hok, if_neg (by simp)] at h2; omega
    | true =>
      rw [hok, if_pos rfl] at h2
      have := (lead s i hi hok).2 (j - i) (by omega) (by omega)
      rw [show i + (j - i) = j from by omega, e] at this
      omega
/-- items without a line end, one behind the other -/
theorem posF_flat (s : ByteArray) (q k : Nat) (h : ∀ j, j < k → posF s q j < s.size ∧ byteAt s (posF s q j) ≠ 10) : nl s (posF s q k) = nl s q := by
  induction k with
  | zero => rfl
  | succ k ih =>
    rw [← ih fun j hj => h j (by omega)]
    obtain ⟨h1, h2⟩ := h k (Nat.lt_succ_self k)
    exact nl_flat s _ _ (Nat.le_of_lt (posF_lt s q k)) fun j a b => item_flat s _ h1 h2 j a b
theorem posF_size (s : ByteArray) (q k : Nat) (hq : q ≤ s.size) (h : ∀ j, j < k → posF s q j < s.size) : posF s q k ≤ s.size := by
  cases k with
  | zero => exact hq
  | succ k => exact wid_in s _ (h k (Nat.lt_succ_self k))
/-- what stands behind the last line end ahead of a place -/
theorem lastIndex_begins (s : ByteArray) (p : Nat) (hp : p ≤ s.size) : ∃ q : Nat, q ≤ p ∧ Begins s q ∧ nl s q = nl s p ∧ Lib.lastIndexByte (s.extract 0 p) 10 = (q : Int) - 1 := by
  have hz : (s.extract 0 p).size = p := by simp; omega
  have hb : ∀ j, j < p → (((s.extract 0 p).data[j]!).toNat : Int) = (byteAt s j : Nat) := by
    intro j hj
    have h1 := ext_byteAt s 0 p j (Nat.zero_le _) hp (by omega)
    rw [Nat.zero_add] at h1
    rw [← h1]
    unfold byteAt
    rfl
  rcases Lib.lastIndexByte_spec (s.extract 0 p) 10 with ⟨e, hn⟩ | ⟨i, hi, e, hc, hn⟩
  · refine ⟨0, Nat.zero_le _, Or.inl rfl, ?_, by rw [e]; rfl⟩
    rw [hz] at hn
    exact (nl_flat s 0 p (Nat.zero_le _) fun j _ h2 h3 => hn j h2 (by rw [hb j h2, h3]; rfl)).symm
  · rw [hz] at hi hn
    have h10 : byteAt s i = 10 := by have := hb i hi; omega
    refine ⟨i + 1, hi, Or.inr ⟨by omega, h10⟩, ?_, by rw [e]; omega⟩
    exact (nl_flat s (i + 1) p hi fun j h1 h2 h3 => hn j h1 h2 (by rw [hb j h2, h3]; rfl)).symm
/-- the next line end, if there is one -/
theorem index_next (l : List UInt8) : (Lib.indexByte l 10 = -1 ∧ ∀ j, (h : j < l.length) → l[j] ≠ 10) ∨ (∃ i : Nat, Lib.indexByte l 10 = i ∧ (∃ h : i < l.length, l[i] = 10) ∧ ∀ j, (h : j < l.length) → j < i → l[j] ≠ 10) := by
  induction l with
  | nil => exact Or.inl ⟨rfl, fun j h => by simp at h⟩
  | cons b l ih =>
    unfold Lib.indexByte
    by_cases hb : b = 10
    · right
      refine ⟨0, by rw [if_pos (by simpa using hb)]; rfl, ⟨by simp, by simpa using hb⟩, fun j _ h => by omega⟩
    · rw [if_neg (by simpa using hb)]
      rcases ih with ⟨e, hn⟩ | ⟨i, e, ⟨hi, h10⟩, hn⟩
      · left
        refine ⟨by rw [e]; rfl, fun j h => ?_⟩
        rcases j with _ | j
        · exact hb
        · exact hn j (by simpa using h)
      · right
        refine ⟨i + 1, ?_, ⟨by simpa using hi, by simpa using h10⟩, fun j h h2 => ?_⟩
        · rw [e, if_neg (by simp <;> omega)]; omega
        · rcases j with _ | j
          · exact hb
          · exact hn j (by simpa using h) (by omega)
theorem next_begins (s : ByteArray) (q : Nat) (hq : q ≤ s.size) (h : nl s q < nl s s.size) : ∃ i : Nat, Lib.indexByte (s.extract q s.size).data.toList 10 = i ∧ q + (i + 1) ≤ s.size ∧ Begins s (q + (i + 1)) ∧ nl s (q + (i + 1)) = nl s q + 1 := by
  have hl : (s.extract q s.size).data.toList = s.data.toList.drop q := Lib.extract_to_end s q
  have hlen : (s.extract q s.size).data.toList.length = s.size - q := by rw [hl, List.length_drop, ← Lib.size_eq]
  have hb : ∀ j, (h : j < (s.extract q s.size).data.toList.length) → ((s.extract q s.size).data.toList[j]).toNat = byteAt s (q + j) := by
    intro j hj
    have h1 := ext_byteAt s q s.size j hq (Nat.le_refl _) (by omega)
    rw [← h1]
    unfold byteAt
    rw [Utf8W.get!_of_lt _ j (by rw [Lib.size_eq]; exact hj)]
    rfl
  rcases index_next (s.extract q s.size).data.toList with ⟨e, hn⟩ | ⟨i, e, ⟨hi, h10⟩, hn⟩
  · exfalso
    have := nl_flat s q s.size hq fun j h1 h2 h3 => hn (j - q) (by omega) (by
      apply UInt8.toNat_inj.1
      rw [hb (j - q) (by omega), show q + (j - q) = j from by omega, h3]; rfl)
    omega
  · have h10' : byteAt s (q + i) = 10 := by rw [← hb i hi, h10]; rfl
    refine ⟨i, e, by omega, Or.inr ⟨by omega, by rw [show q + (i + 1) - 1 = q + i from by omega]; exact h10'⟩, ?_⟩
    have e2 : nl s (q + i + 1) = nl s (q + i) + (if byteAt s (q + i) = 10 then 1 else 0) := rfl
    rw [show q + (i + 1) = q + i + 1 from rfl, e2, if_pos h10', nl_flat s q (q + i) (by omega) fun j h1 h2 h3 => hn (j - q) (by omega) (by omega) (by
      apply UInt8.toNat_inj.1
      rw [hb (j - q) (by omega), show q + (j - q) = j from by omega, h3]; rfl)]
end Go.Proofs.YtpmgccjhflcoiaaDoor
