/-
  Plain law: what Diff tells: the longest beginning and end that two texts share, by carets of both. No condition beyond those that each theorem states.
-/
import Derived.Test.YtpmgccjhflcoiaaDoorTurned
import Derived.Test.YtpmgccjhflcoiaaDoorSplice
namespace Go.Proofs.YtpmgccjhflcoiaaDoor
open Go.RowKit
set_option linter.unusedSimpArgs false
set_option linter.unusedVariables false

/-- the last place that will do -/
def down (P : Nat → Bool) : Nat → Nat
  | 0 => 0
  | k + 1 => if P (k + 1) then k + 1 else down P k
theorem down_le (P : Nat → Bool) (n : Nat) : down P n ≤ n := by
  induction n with
  | zero => exact Nat.le_refl _
  | succ n ih => unfold down; split <;> omega
theorem down_ok (P : Nat → Bool) (n : Nat) (h0 : P 0 = true) : P (down P n) = true := by
  induction n with
  | zero => exact h0
  | succ n ih =>
    unfold down
    by_cases h : P (n + 1) = true
    · rw [if_pos h]; exact h
    · rw [if_neg h]; exact ih
theorem down_yes (P : Nat → Bool) (n : Nat) (h : P n = true) : down P n = n := by
  cases n with
  | zero => rfl
  | succ n => unfold down; rw [if_pos h]
theorem down_no (P : Nat → Bool) (n : Nat) (h : P n = false) : down P n = down P (n - 1) := by
  cases n with
  | zero => rfl
  | succ n =>
    have e : down P (n + 1) = if P (n + 1) then n + 1 else down P n := rfl
    rw [e, h, if_neg (by simp)]
    rfl
/-- both carets, from the head; from the end -/
def bothB (a b : ByteArray) (i : Nat) : Bool := caretN a i && caretN b i
def tailB (a b : ByteArray) (i : Nat) : Bool := caretN a (a.size - i) && caretN b (b.size - i)
theorem caret_zero (s : ByteArray) : caretN s 0 = true := by
  unfold caretN
  rw [decide_eq_true_iff]
  intro f hf; omega
theorem caret_end (s : ByteArray) : caretN s s.size = true := caret_of_lead s s.size (Nat.le_refl _) (Or.inl rfl)
theorem both_zero (a b : ByteArray) : bothB a b 0 = true := by unfold bothB; rw [caret_zero, caret_zero]; rfl
theorem tail_zero (a b : ByteArray) : tailB a b 0 = true := by unfold tailB; rw [Nat.sub_zero, Nat.sub_zero, caret_end, caret_end]; rfl
/-- how the two texts end, behind a place -/
def endL (s : ByteArray) (q : Nat) : List UInt8 := (s.data.toList.drop q).reverse
theorem endL_len (s : ByteArray) (q : Nat) : (endL s q).length = s.size - q := by unfold endL; rw [List.length_reverse, List.length_drop, ← Lib.size_eq]
theorem endL_at (s : ByteArray) (q j : Nat) (h : j < s.size - q) : (endL s q)[j]? = s.data.toList[s.size - 1 - j]? := by
  unfold endL
  rw [List.getElem?_reverse (by rw [List.length_drop, ← Lib.size_eq]; exact h), List.getElem?_drop, List.length_drop, ← Lib.size_eq]
  congr 1
  omega
/-- what Diff tells -/
def DiffIs (a b : ByteArray) (at' tl : Nat) : Prop := ∃ n m, IsPre a.data.toList b.data.toList n ∧ at' = down (bothB a b) n ∧ IsPre (endL a at') (endL b at') m ∧ tl = down (tailB a b) m
theorem diff_inj {a b : ByteArray} {x y x' y' : Nat} (h : DiffIs a b x y) (h' : DiffIs a b x' y') : x = x' ∧ y = y' := by
  obtain ⟨n, m, h1, h2, h3, h4⟩ := h
  obtain ⟨n', m', g1, g2, g3, g4⟩ := h'
  obtain rfl := isPre_inj h1 g1
  have hx : x = x' := by rw [h2, g2]
  subst hx
  obtain rfl := isPre_inj h3 g3
  exact ⟨rfl, by rw [h4, g4]⟩
theorem pre_le {a b : List UInt8} {n : Nat} (h : IsPre a b n) : n ≤ a.length ∧ n ≤ b.length := by
  obtain ⟨h1, h2, _⟩ := (h n).1 (Nat.le_refl _)
  exact ⟨h1, h2⟩
theorem pre_take {a b : List UInt8} {n k : Nat} (h : IsPre a b n) (hk : k ≤ n) : a.take k = b.take k := by
  obtain ⟨h1, h2, h3⟩ := (h n).1 (Nat.le_refl _)
  apply List.ext_getElem?
  intro j
  rcases Nat.lt_or_ge j k with hj | hj
  · rw [List.getElem?_take_of_lt hj, List.getElem?_take_of_lt hj, h3 j (by omega)]
  · rw [List.getElem?_eq_none (by simp; omega), List.getElem?_eq_none (by simp; omega)]
theorem diff_facts {a b : ByteArray} {x y : Nat} (h : DiffIs a b x y) : x + y ≤ a.size ∧ x + y ≤ b.size ∧ caretN a x = true ∧ caretN b x = true ∧ caretN a (a.size - y) = true ∧ caretN b (b.size - y) = true ∧
    a.data.toList.take x = b.data.toList.take x ∧ a.data.toList.drop (a.size - y) = b.data.toList.drop (b.size - y) := by
  obtain ⟨n, m, h1, rfl, h3, rfl⟩ := h
  have l1 := pre_le h1
  have l2 := pre_le h3
  rw [endL_len, endL_len] at l2
  rw [← Lib.size_eq, ← Lib.size_eq] at l1
  have hx := down_le (bothB a b) n
  have hy := down_le (tailB a b) m
  have px := down_ok (bothB a b) n (both_zero a b)
  have py := down_ok (tailB a b) m (tail_zero a b)
  generalize down (bothB a b) n = x at *
  generalize down (tailB a b) m = y at *
  unfold bothB at px
  unfold tailB at py
  rw [Bool.and_eq_true] at px py
  refine ⟨by omega, by omega, px.1, px.2, py.1, py.2, pre_take h1 hx, ?_⟩
  have e := congrArg List.reverse (pre_take h3 hy)
  unfold endL at e
  rw [List.reverse_take, List.reverse_take, List.reverse_reverse, List.reverse_reverse, List.length_reverse, List.length_reverse, List.length_drop, List.length_drop, ← Lib.size_eq, ← Lib.size_eq, List.drop_drop, List.drop_drop] at e
  rw [show x + (a.size - x - y) = a.size - y from by omega, show x + (b.size - x - y) = b.size - y from by omega] at e
  exact e
/-- the edit that Diff tells makes the one text of the other one -/
theorem diff_makes {a b : ByteArray} {x y : Nat} (h : DiffIs a b x y) : applied a x (a.size - y - x) (b.extract x (b.size - y)) = b := by
  obtain ⟨h1, h2, _, _, _, _, h7, h8⟩ := diff_facts h
  apply bytes_ext
  rw [app_list _ _ _ _ (by omega)]
  unfold appL
  rw [show x + (a.size - y - x) = a.size - y from by omega, h7, h8, Lib.extract_data, show b.size - y - x = b.size - y - x from rfl]
  have e : b.data.toList.drop (b.size - y) = (b.data.toList.drop x).drop (b.size - y - x) := by rw [List.drop_drop]; congr 1; omega
  rw [e, List.append_assoc, List.take_append_drop, List.take_append_drop]
theorem diff_may {a b : ByteArray} {x y : Nat} (h : DiffIs a b x y) (hb : b.size ≤ 60000) : mayN a x (a.size - y - x : Nat) (b.extract x (b.size - y)) = 0 := by
  obtain ⟨h1, h2, h3, _, h5, _, _, _⟩ := diff_facts h
  refine may_of (by omega) h3 (by rw [show x + (a.size - y - x) = a.size - y from by omega]; exact h5) ?_
  rw [ByteArray.size_extract]
  omega
theorem diff_self {s : ByteArray} {x y : Nat} (h : DiffIs s s x y) : s.extract x (s.size - y) = ⟨#[]⟩ := by
  obtain ⟨n, m, h1, rfl, h3, rfl⟩ := h
  have hn : n = s.size := by
    have := pre_le h1
    rw [← Lib.size_eq] at this
    have := (h1 s.size).2 ⟨by rw [← Lib.size_eq]; exact Nat.le_refl _, by rw [← Lib.size_eq]; exact Nat.le_refl _, fun _ _ => rfl⟩
    omega
  have e : down (bothB s s) n = s.size := by
    rw [hn]
    exact down_yes _ _ (by unfold bothB; rw [caret_end]; rfl)
  rw [e]
  apply bytes_ext
  rw [Lib.extract_data, List.drop_of_length_le (by rw [← Lib.size_eq]; exact Nat.le_refl _)]
  simp
end Go.Proofs.YtpmgccjhflcoiaaDoor
