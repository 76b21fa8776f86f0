/-
  Plain facts on the numbers of a set, rising. No condition beyond those that each theorem states.
-/
import Derived.Test.YtccccbkllplojaaDoorMath
namespace Go.Proofs.YtccccbkllplojaaDoor
open Go.RowKit
set_option linter.unusedSimpArgs false
set_option linter.unusedVariables false

/-- the places of the n lowest bits that are set, moved -/
def bl : Nat → Nat → Nat → List Nat
  | 0, _, _ => []
  | n + 1, x, off => (if x % 2 = 1 then [off] else []) ++ bl n (x / 2) (off + 1)

theorem bl_zero (n off : Nat) : bl n 0 off = [] := by
  induction n generalizing off with
  | zero => rfl
  | succ n ih => simp [bl, ih]
theorem and_even (y : Nat) (hy : 0 < y) : 2 * y &&& (2 * y - 1) = 2 * (y &&& (y - 1)) := by
  rw [show 2 * y - 1 = 2 * (y - 1) + 1 from by omega]
  apply Nat.eq_of_testBit_eq
  intro i
  cases i with
  | zero => simp
  | succ i => rw [Nat.testBit_and, Nat.testBit_succ, Nat.testBit_succ, Nat.testBit_succ, show 2 * y / 2 = y from by omega, show (2 * (y - 1) + 1) / 2 = y - 1 from by omega, show 2 * (y &&& (y - 1)) / 2 = (y &&& (y - 1)) from by omega, Nat.testBit_and]
theorem and_odd (x : Nat) (h : x % 2 = 1) : x &&& (x - 1) = x - 1 := by
  apply Nat.eq_of_testBit_eq
  intro i
  cases i with
  | zero => simp [h]
  | succ i => rw [Nat.testBit_and, Nat.testBit_succ, Nat.testBit_succ, show (x - 1) / 2 = x / 2 from by omega]; simp
theorem bl_step (n x off : Nat) (hx0 : x ≠ 0) (hx : x < 2 ^ n) : bl n x off = (off + Lib.ctzFrom n x) :: bl n (x &&& (x - 1)) off := by
  induction n generalizing x off with
  | zero => simp at hx; omega
  | succ n ih =>
    rcases Nat.mod_two_eq_zero_or_one x with h | h
    · obtain ⟨y, rfl⟩ : ∃ y, x = 2 * y := ⟨x / 2, by omega⟩
      rw [and_even y (by omega)]
      have e1 : 2 * y / 2 = y := by omega
      have e2 : 2 * (y &&& (y - 1)) / 2 = (y &&& (y - 1)) := by omega
      rw [Nat.pow_succ] at hx
      simp only [bl, Lib.ctzFrom, h, e1, e2]
      rw [ih y (off + 1) (by omega) (by omega)]
      have e3 : 2 * (y &&& (y - 1)) % 2 = 0 := by omega
      simp [e3]; omega
    · rw [and_odd x h]
      have e1 : (x - 1) % 2 = 0 := by omega
      have e2 : (x - 1) / 2 = x / 2 := by omega
      simp [bl, Lib.ctzFrom, h, e1, e2]
theorem bl_filter (n x off : Nat) : bl n x off = (List.range' off n).filter (fun j => x.testBit (j - off)) := by
  induction n generalizing x off with
  | zero => rfl
  | succ n ih =>
    rw [bl, ih, List.range'_succ, List.filter_cons]
    have e : (List.range' (off + 1) n).filter (fun j => (x / 2).testBit (j - (off + 1))) = (List.range' (off + 1) n).filter (fun j => x.testBit (j - off)) := by
      apply List.filter_congr
      intro j hj
      rw [List.mem_range'_1] at hj
      rw [show j - off = (j - (off + 1)) + 1 from by omega, Nat.testBit_succ]
    rw [e]
    rcases Nat.mod_two_eq_zero_or_one x with h | h <;> simp [h]
theorem bl_len (n x off : Nat) : (bl n x off).length = (digs 1 n x).sum := by
  induction n generalizing x off with
  | zero => rfl
  | succ n ih =>
    rw [bl, digs, List.length_append, ih, List.sum_cons]
    rcases Nat.mod_two_eq_zero_or_one x with h | h <;> simp [h]
theorem pop_len (x off : Nat) : pop x = (bl 64 x off).length := (bl_len 64 x off).symm

/-- the numbers of a row of words, from a place on -/
def blw : List Nat → Nat → List Nat
  | [], _ => []
  | x :: r, i => bl 64 x (64 * i) ++ blw r (i + 1)
theorem blw_app (a b : List Nat) (i : Nat) : blw (a ++ b) i = blw a i ++ blw b (i + a.length) := by
  induction a generalizing i with
  | nil => simp [blw]
  | cons x r ih => simp [blw, ih]; rw [show i + 1 + r.length = i + (r.length + 1) from by omega]
theorem blw_filter (l : List Nat) (i : Nat) : blw l i = (List.range' (64 * i) (64 * l.length)).filter (fun j => (l.getD (j / 64 - i) 0).testBit (j % 64)) := by
  induction l generalizing i with
  | nil => rfl
  | cons x r ih =>
    rw [blw, ih, bl_filter, show 64 * (x :: r).length = 64 + 64 * r.length from by simp; omega, ← List.range'_append_1, List.filter_append]
    congr 1
    · apply List.filter_congr
      intro j hj
      rw [List.mem_range'_1] at hj
      rw [show j / 64 - i = 0 from by omega, show j - 64 * i = j % 64 from by omega]
      rfl
    · rw [show 64 * (i + 1) = 64 * i + 64 from by omega]
      apply List.filter_congr
      intro j hj
      rw [List.mem_range'_1] at hj
      rw [show j / 64 - i = (j / 64 - (i + 1)) + 1 from by omega]
      rfl
/-- the numbers of a set, rising -/
def lst (l : List Nat) : List Nat := (List.range (64 * l.length)).filter (has l)
theorem blw_lst (l : List Nat) : blw l 0 = lst l := by
  rw [blw_filter, lst, List.range_eq_range']
  rfl
theorem mem_lst (l : List Nat) (n : Nat) : n ∈ lst l ↔ has l n = true := by
  rw [lst, List.mem_filter, List.mem_range]
  exact ⟨fun h => h.2, fun h => ⟨has_lt h, h⟩⟩
theorem lst_range (l : List Nat) (m : Nat) (h : 64 * l.length ≤ m) : (List.range m).filter (has l) = lst l := by
  obtain ⟨d, rfl⟩ : ∃ d, m = 64 * l.length + d := ⟨m - 64 * l.length, by omega⟩
  rw [List.range_add, List.filter_append, lst]
  have : (List.map (fun x => 64 * l.length + x) (List.range d)).filter (has l) = [] := by
    rw [List.filter_eq_nil_iff]
    intro a ha
    obtain ⟨x, _, rfl⟩ := List.mem_map.1 ha
    rw [has_ge l _ (by omega)]
    simp
  rw [this, List.append_nil]
theorem lst_congr {a b : List Nat} (h : ∀ n, has a n = has b n) : lst a = lst b := by
  rw [← lst_range a (64 * a.length + 64 * b.length) (by omega), ← lst_range b (64 * a.length + 64 * b.length) (by omega)]
  exact List.filter_congr fun n _ => h n
theorem lst_seen (l : List Nat) : lst (seenl l) = lst l := lst_congr (seen_has l)
/-- how many numbers -/
theorem cnt_blw (l : List Nat) (i : Nat) : (l.map pop).sum = (blw l i).length := by
  induction l generalizing i with
  | nil => rfl
  | cons x r ih => simp only [List.map_cons, List.sum_cons, blw, List.length_append]; rw [pop_len x (64 * i), ih (i + 1)]
theorem cnt_lst (l : List Nat) : (l.map pop).sum = (lst l).length := by rw [cnt_blw l 0, blw_lst]
end Go.Proofs.YtccccbkllplojaaDoor
