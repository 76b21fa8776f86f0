/-
  Plain facts on sets read as lists of words. No condition beyond those that each theorem states.
-/
import Derived.Test.YtccccbkllplojaaDoorSets
namespace Go.Proofs.YtccccbkllplojaaDoor
open Go.RowKit
set_option linter.unusedSimpArgs false
set_option linter.unusedVariables false

/-- is a number in a set -/
def has (l : List Nat) (n : Nat) : Bool := (l.getD (n / 64) 0).testBit (n % 64)
/-- all words are words -/
def Fit (l : List Nat) : Prop := ∀ x ∈ l, x < 18446744073709551616
/-- the last word counts -/
def Tidy (l : List Nat) : Prop := l.length = 0 ∨ l.getD (l.length - 1) 0 ≠ 0
/-- the words that count -/
def seenl (l : List Nat) : List Nat := l.take (cut0 l l.length)
def word (x : Nat) : Value := .int .u64 (x : Int)

theorem cut0_le (l : List Nat) (n : Nat) : cut0 l n ≤ n := by
  induction n with
  | zero => simp [cut0]
  | succ n ih => rw [cut0]; split <;> omega
theorem cut0_zero (l : List Nat) (n i : Nat) (h : cut0 l n ≤ i) (hi : i < n) : l.getD i 0 = 0 := by
  induction n with
  | zero => omega
  | succ n ih =>
    rw [cut0] at h
    split at h
    · rcases Nat.lt_or_ge i n with h1 | h1
      · exact ih h h1
      · have : i = n := by omega
        subst this; assumption
    · omega
theorem cut0_last (l : List Nat) (n : Nat) : cut0 l n = 0 ∨ l.getD (cut0 l n - 1) 0 ≠ 0 := by
  induction n with
  | zero => simp [cut0]
  | succ n ih =>
    rw [cut0]
    split
    · exact ih
    · right; simpa using ‹_›
theorem getD_ge (l : List Nat) (i : Nat) (h : l.length ≤ i) : l.getD i 0 = 0 := by
  simp [List.getD_eq_getElem?_getD, List.getElem?_eq_none h]
theorem getD_lt (l : List Nat) (i : Nat) (h : i < l.length) : l.getD i 0 = l[i] := by
  simp [List.getD_eq_getElem?_getD, List.getElem?_eq_getElem h]
theorem getD_take (l : List Nat) (k i : Nat) : (l.take k).getD i 0 = if i < k then l.getD i 0 else 0 := by
  simp only [List.getD_eq_getElem?_getD, List.getElem?_take]
  split <;> rfl
theorem seen_len (l : List Nat) : (seenl l).length = cut0 l l.length := by
  have := cut0_le l l.length
  simp [seenl]; omega
theorem seen_le (l : List Nat) : (seenl l).length ≤ l.length := by
  rw [seen_len]; exact cut0_le l _
theorem seen_getD (l : List Nat) (i : Nat) : (seenl l).getD i 0 = l.getD i 0 := by
  rw [seenl, getD_take]
  split
  · rfl
  · rename_i h
    rcases Nat.lt_or_ge i l.length with h1 | h1
    · exact (cut0_zero l _ i (by omega) h1).symm
    · exact (getD_ge l i h1).symm
theorem seen_tidy (l : List Nat) : Tidy (seenl l) := by
  unfold Tidy
  rw [seen_len, seen_getD]
  exact cut0_last l _
theorem seen_fit {l : List Nat} (h : Fit l) : Fit (seenl l) := fun x hx => h x (List.mem_of_mem_take hx)
theorem seen_has (l : List Nat) (n : Nat) : has (seenl l) n = has l n := by unfold has; rw [seen_getD]
theorem Fit.getD {l : List Nat} (h : Fit l) (i : Nat) : l.getD i 0 < 18446744073709551616 := by
  rcases Nat.lt_or_ge i l.length with h1 | h1
  · rw [getD_lt l i h1]; exact h _ (List.getElem_mem _)
  · rw [getD_ge l i h1]; omega
theorem word_ext {x y : Nat} (hx : x < 18446744073709551616) (hy : y < 18446744073709551616) (h : ∀ j, j < 64 → x.testBit j = y.testBit j) : x = y := by
  apply Nat.eq_of_testBit_eq
  intro j
  rcases Nat.lt_or_ge j 64 with h1 | h1
  · exact h j h1
  · have p : 2 ^ 64 ≤ 2 ^ j := Nat.pow_le_pow_right (by omega) h1
    have e : (2:Nat) ^ 64 = 18446744073709551616 := by decide
    rw [Nat.testBit_lt_two_pow (by omega), Nat.testBit_lt_two_pow (by omega)]
theorem has_at (l : List Nat) (i j : Nat) (hj : j < 64) : has l (64 * i + j) = (l.getD i 0).testBit j := by
  unfold has
  rw [show (64 * i + j) / 64 = i from by omega, show (64 * i + j) % 64 = j from by omega]
theorem getD_of_has {a b : List Nat} (ha : Fit a) (hb : Fit b) (h : ∀ n, has a n = has b n) (i : Nat) : a.getD i 0 = b.getD i 0 := by
  refine word_ext (ha.getD i) (hb.getD i) fun j hj => ?_
  have := h (64 * i + j)
  rwa [has_at _ _ _ hj, has_at _ _ _ hj] at this
theorem has_of_getD {a b : List Nat} (h : ∀ i, a.getD i 0 = b.getD i 0) (n : Nat) : has a n = has b n := by unfold has; rw [h]
theorem tidy_ext {a b : List Nat} (ha : Tidy a) (hb : Tidy b) (h : ∀ i, a.getD i 0 = b.getD i 0) : a = b := by
  have key : ∀ a b : List Nat, Tidy b → (∀ i, a.getD i 0 = b.getD i 0) → b.length ≤ a.length := by
    intro a b hb h
    rcases hb with hb | hb
    · omega
    · rcases Nat.lt_or_ge a.length b.length with h1 | h1
      · rw [← h, getD_ge _ _ (by omega)] at hb
        exact absurd rfl hb
      · exact h1
  have hl : a.length = b.length := Nat.le_antisymm (key b a ha fun i => (h i).symm) (key a b hb h)
  refine List.ext_getElem hl fun i h1 h2 => ?_
  have := h i
  rwa [getD_lt _ _ h1, getD_lt _ _ h2] at this
theorem set_ext {a b : List Nat} (ha : Tidy a) (hb : Tidy b) (fa : Fit a) (fb : Fit b) (h : ∀ n, has a n = has b n) : a = b :=
  tidy_ext ha hb (getD_of_has fa fb h)
theorem seen_eq_iff {a b : List Nat} (fa : Fit a) (fb : Fit b) : seenl a = seenl b ↔ ∀ n, has a n = has b n := by
  constructor
  · intro h n
    rw [← seen_has a, h, seen_has]
  · intro h
    exact set_ext (seen_tidy a) (seen_tidy b) (seen_fit fa) (seen_fit fb) (fun n => by rw [seen_has, seen_has, h])
theorem tidy_seen {l : List Nat} (h : Tidy l) : seenl l = l := tidy_ext (seen_tidy l) h (seen_getD l)
theorem has_ge (l : List Nat) (n : Nat) (h : 64 * l.length ≤ n) : has l n = false := by
  unfold has
  rw [getD_ge _ _ (by omega)]
  simp
theorem has_lt {l : List Nat} {n : Nat} (h : has l n = true) : n < 64 * l.length := by
  rcases Nat.lt_or_ge n (64 * l.length) with h1 | h1
  · exact h1
  · rw [has_ge l n h1] at h; cases h

/-- a row of words that was made later than B -/
def Own (B : Nat) (w : World) (v : Value) (l : List Nat) : Prop := w.ownsRow B 41 1 v l.length (l.map word)

theorem Words.cellAt {w : World} {a : Option Addr} {n cap : Nat} {l : List Nat} (h : Words w (.slice a n cap) l) : n = l.length ∧ l.length ≤ cap ∧ (a = none → cap = 0) ∧ ∀ i, (hi : i < l.length) → ∃ b off, a = some ⟨b, off, none⟩ ∧ w.cell? ⟨b, off + i, none⟩ = some (.int .u64 (l[i] : Nat)) := by
  obtain ⟨a', cap', e, h1, h2, h3⟩ := h
  cases e
  exact ⟨rfl, h1, h2, h3⟩

theorem cell_lt {w : World} {a : Addr} {v : Value} (h : w.cell? a = some v) : a.block < w.heap.size := by
  rcases Nat.lt_or_ge a.block w.heap.size with h' | h'
  · exact h'
  · simp [World.cell?, Array.getElem?_eq_none h'] at h

theorem Words.below {w w' : World} {v : Value} {l : List Nat} (h : Words w v l) (hb : Below w.heap.size w w') : Words w' v l := by
  obtain ⟨a, cap, rfl, h1, h2, h3⟩ := h
  refine ⟨a, cap, rfl, h1, h2, fun i hi => ?_⟩
  obtain ⟨b, off, e, hc⟩ := h3 i hi
  exact ⟨b, off, e, (hb.cell (cell_lt hc)).trans hc⟩

theorem Own.words {B : Nat} {w : World} {v : Value} {l : List Nat} (h : Own B w v l) : Words w v l := by
  unfold Own at h
  rcases h.2 with ⟨rfl, h0⟩ | ⟨g, cap, cur, rfl, hg, hh, hn, r⟩
  · have : l = [] := List.eq_nil_of_length_eq_zero h0
    subst this
    exact ⟨none, 0, rfl, by simp, fun _ => rfl, fun i hi => by simp at hi⟩
  · refine ⟨_, cap, rfl, hn, by simp, fun i hi => ⟨g, 0, rfl, ?_⟩⟩
    have := World.ownsRow.cellAt h i (by omega)
    rw [Nat.zero_add, this]
    simp [hi, word]

theorem Own.below {B : Nat} {w w' : World} {v : Value} {l : List Nat} (h : Own B w v l) (hb : Below w.heap.size w w') : Own B w' v l := by
  unfold Own at h ⊢
  refine ⟨h.1, ?_⟩
  rcases h.2 with h2 | ⟨g, cap, cur, rfl, hg, hh, r⟩
  · exact Or.inl h2
  · refine Or.inr ⟨g, cap, cur, rfl, hg, (hb.block g ?_).trans hh, r⟩
    rcases Nat.lt_or_ge g w.heap.size with h' | h'
    · exact h'
    · simp [Array.getElem?_eq_none h'] at hh

/-- a row of numbers that was made later than B -/
def OwnI (B : Nat) (w : World) (v : Value) (l : List Nat) : Prop := w.ownsRow B 3 1 v l.length (l.map (fun x : Nat => Value.int .i64 (x : Int)))
theorem OwnI.below {B : Nat} {w w' : World} {v : Value} {l : List Nat} (h : OwnI B w v l) (hb : Below w.heap.size w w') : OwnI B w' v l := by
  unfold OwnI at h ⊢
  refine ⟨h.1, ?_⟩
  rcases h.2 with h2 | ⟨g, cap, cur, rfl, hg, hh, r⟩
  · exact Or.inl h2
  · refine Or.inr ⟨g, cap, cur, rfl, hg, (hb.block g ?_).trans hh, r⟩
    rcases Nat.lt_or_ge g w.heap.size with h' | h'
    · exact h'
    · simp [Array.getElem?_eq_none h'] at hh

/-- a slice of numbers in memory -/
def Nums (w : World) (v : Value) (l : List Int) : Prop := ∃ a cap, v = .slice a l.length cap ∧ l.length ≤ cap ∧ (a = none → cap = 0) ∧ ∀ i, (hi : i < l.length) → ∃ b off, a = some ⟨b, off, none⟩ ∧ w.cell? ⟨b, off + i, none⟩ = some (.int .i64 l[i])
theorem Nums.below {w w' : World} {v : Value} {l : List Int} (h : Nums w v l) (hb : Below w.heap.size w w') : Nums w' v l := by
  obtain ⟨a, cap, rfl, h1, h2, h3⟩ := h
  refine ⟨a, cap, rfl, h1, h2, fun i hi => ?_⟩
  obtain ⟨b, off, e, hc⟩ := h3 i hi
  exact ⟨b, off, e, (hb.cell (cell_lt hc)).trans hc⟩
theorem OwnI.nums {B : Nat} {w : World} {v : Value} {l : List Nat} (h : OwnI B w v l) : Nums w v (l.map (fun x : Nat => (x : Int))) := by
  unfold OwnI at h
  rcases h.2 with ⟨rfl, h0⟩ | ⟨g, cap, cur, rfl, hg, hh, hn, r⟩
  · have : l = [] := List.eq_nil_of_length_eq_zero h0
    subst this
    exact ⟨none, 0, rfl, by simp, fun _ => rfl, fun i hi => by simp at hi⟩
  · refine ⟨some ⟨g, 0, none⟩, cap, by simp, by simpa using hn, by simp, fun i hi => ⟨g, 0, rfl, ?_⟩⟩
    have := World.ownsRow.cellAt h i (by simpa using hi)
    rw [Nat.zero_add, this]
    have hi' : i < l.length := by simpa using hi
    simp [hi']
end Go.Proofs.YtccccbkllplojaaDoor
