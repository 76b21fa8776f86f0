/-
  Contract of Next of package bits. No condition beyond those that each theorem states.
-/
import Derived.Test.YtccccbkllplojaaDoorTells
namespace Go.Proofs.YtccccbkllplojaaDoor
open Go.RowKit
set_option linter.unusedSimpArgs false
set_option linter.unusedVariables false

/-- the first number of a set that is not below one, or -1 -/
def IsNext (l : List Nat) (n r : Int) : Prop :=
  (r = -1 ∧ ∀ m : Nat, has l m = true → (m : Int) < n) ∨ ∃ m : Nat, r = m ∧ has l m = true ∧ n ≤ m ∧ ∀ k : Nat, has l k = true → n ≤ k → m ≤ k

theorem ctz_bits (x : Nat) (h0 : x ≠ 0) (h : x < 18446744073709551616) : Lib.ctz 64 x < 64 ∧ x.testBit (Lib.ctz 64 x) = true ∧ ∀ j, j < Lib.ctz 64 x → x.testBit j = false := by
  have e : Lib.ctz 64 x = Lib.ctzFrom 64 x := by unfold Lib.ctz; rw [if_neg h0]
  rw [e]
  obtain ⟨m, hm, hk⟩ := Lib.ctzFrom_spec 64 x (by omega) h
  generalize Lib.ctzFrom 64 x = k at hm hk
  refine ⟨hk, ?_, fun j hj => ?_⟩
  · rw [hm, Nat.testBit_two_pow_mul]; simp
  · rw [hm, Nat.testBit_two_pow_mul]; simp; omega
/-- what stays of a word from a place on -/
def wmask (x r : Nat) : Nat := x &&& (18446744073709551616 - 2 ^ r)
theorem wmask_bit (x r j : Nat) (hr : r < 64) (hj : j < 64) : (wmask x r).testBit j = (x.testBit j && decide (r ≤ j)) := by
  unfold wmask
  have hp : 0 < 2 ^ r := Nat.two_pow_pos r
  have hp2 : 2 ^ r ≤ 2 ^ 63 := Nat.pow_le_pow_right (by omega) (by omega)
  rw [Nat.testBit_and, show 18446744073709551616 - 2 ^ r = 2 ^ 64 - ((2 ^ r - 1) + 1) from by omega, Nat.testBit_two_pow_sub_succ (by omega), Nat.testBit_two_pow_sub_one]
  by_cases h : j < r
  · simp [hj, h]
  · simp [hj, h]; omega
theorem shl_mask (r : Nat) (hr : r < 64) : IntKind.u64.wrap (18446744073709551615 * 2 ^ r) = ((18446744073709551616 - 2 ^ r : Nat) : Int) := by
  have hp : 0 < 2 ^ r := Nat.two_pow_pos r
  have hp2 : 2 ^ r ≤ 2 ^ 63 := Nat.pow_le_pow_right (by omega) (by omega)
  have e : (2 : Int) ^ r = ((2 ^ r : Nat) : Int) := by simp
  rw [e]
  generalize 2 ^ r = p at *
  rw [IntKind.wrap_u64]
  omega

theorem next_found {l l1 : List Nat} {n0 : Int} {n q y : Nat} (Hf : Hid ((if n0 < 0 then (0:Int) else n0) = (n : Int))) (Hh : Hid (∀ n, has l1 n = has l n)) (Hno : Hid (∀ m, n ≤ m → m < 64 * q → has l1 m = false))
    (Hy : Hid (∀ j, j < 64 → y.testBit j = (has l1 (64 * q + j) && decide (n ≤ 64 * q + j)))) (hy0 : y ≠ 0) (hy : y < 18446744073709551616) : IsNext l n0 ((q : Int) * 64 + (Lib.ctz 64 y : Nat)) := by
  obtain ⟨h1, h2, h3⟩ := ctz_bits y hy0 hy
  have hf := Hf.out
  have hb := Hy.out _ h1
  rw [h2] at hb
  have hb' : has l1 (64 * q + Lib.ctz 64 y) = true ∧ n ≤ 64 * q + Lib.ctz 64 y := by simpa using hb.symm
  right
  refine ⟨64 * q + Lib.ctz 64 y, by omega, by rw [← Hh.out]; exact hb'.1, by have := hb'.2; split at hf <;> omega, fun k hk hnk => ?_⟩
  rcases Nat.lt_or_ge k (64 * q + Lib.ctz 64 y) with hlt | hge
  · exfalso
    rw [← Hh.out] at hk
    have hnk' : n ≤ k := by split at hf <;> omega
    rcases Nat.lt_or_ge k (64 * q) with h | h
    · rw [Hno.out k hnk' h] at hk; cases hk
    · have := h3 (k - 64 * q) (by omega)
      rw [Hy.out _ (by omega), show 64 * q + (k - 64 * q) = k from by omega, hk, decide_eq_true hnk'] at this
      cases this
  · exact hge
theorem next_skip {l1 : List Nat} {n q y : Nat} (Hno : Hid (∀ m, n ≤ m → m < 64 * q → has l1 m = false))
    (Hy : Hid (∀ j, j < 64 → y.testBit j = (has l1 (64 * q + j) && decide (n ≤ 64 * q + j)))) (hy0 : y = 0) : Hid (∀ m, n ≤ m → m < 64 * (q + 1) → has l1 m = false) := by
  intro m h1 h2
  rcases Nat.lt_or_ge m (64 * q) with h | h
  · exact Hno.out m h1 h
  · have := Hy.out (m - 64 * q) (by omega)
    rw [hy0, Nat.zero_testBit, show 64 * q + (m - 64 * q) = m from by omega, decide_eq_true h1, Bool.and_true] at this
    exact this.symm

set_option maxRecDepth 100000 in
theorem next_core (w : World) (v : Value) (l : List Nat) (f n0 : Int) (n : Nat) (hf0 : (if n0 < 0 then (0:Int) else n0) = (n : Int)) (hn0 : n0 ≤ 9223372036854775807) (hv : Words w v l) (hl : l.length ≤ 1024) (hf : Fit l) (hT : Tab 0 w) :
    Calls Tryd.prog 8 #[v, .int .i64 n0] w fun e w' => ∃ r, e = .returned (.int .i64 r) ∧ IsNext l n0 r ∧ w = w' := by
  have hn63 : (n : Int) ≤ 9223372036854775807 := by split at hf0 <;> omega
  have s1 := seen_n w v l hv hl
  have e1 := seen_le l
  have f1 := seen_fit hf
  have Hh := (show Hid (∀ n, has (seenl l) n = has l n) from seen_has l)
  obtain ⟨a, len, cap, rfl, -⟩ := Words.wn hv
  generalize seenl l = l1 at *
  go_enter Tryd.func8, Tryd.ntmps8
  go_wp2_with fail
  refine s1.mono ?_
  rintro e w' ⟨a1, k, cap1, rfl, h1, rfl⟩
  clear s1
  have hk : k ≤ 1024 := by have := h1.len.out; omega
  have hkl := h1.len
  clear e1 hl
  have Hf := (show Hid _ from hf0)
  clear hf0
  go_wp2_with fail
  go_loopg [6] k (fun g n1 W => ∃ (q : Nat), n1 = .int .i64 q ∧ k ≤ g + q ∧ n / 64 ≤ q ∧ Hid (∀ m, n ≤ m → m < 64 * q → has l1 m = false) ∧ W = w)
  case atStart => exact ⟨n / 64, by simp, by omega, Nat.le_refl _, fun m h1 h2 => by omega, rfl⟩
  case round =>
    obtain ⟨q, rfl, hq, hnq, Hno, rfl⟩ := hrel
    by_cases hqn : q < k
    · obtain ⟨b1, o1, rfl, hc⟩ := h1.at_ q hqn
      have hx := f1.getD q
      have Hbit := (show Hid (∀ j, j < 64 → has l1 (64 * q + j) = (l1.getD q 0).testBit j) from fun j hj => has_at l1 q j hj)
      generalize l1.getD q 0 = x at hc hx Hbit
      by_cases he : n / 64 = q
      · have heq : (n : Int) / 64 = (q : Int) := by omega
        have hshl := shl_mask (n % 64) (by omega)
        have hand := bits_and_u64_nat x (18446744073709551616 - 2 ^ (n % 64)) hx (by have := Nat.two_pow_pos (n % 64); omega)
        have Hy : Hid (∀ j, j < 64 → (x &&& (18446744073709551616 - 2 ^ (n % 64))).testBit j = (has l1 (64 * q + j) && decide (n ≤ 64 * q + j))) := by
          intro j hj
          have := wmask_bit x (n % 64) j (by omega) hj
          unfold wmask at this
          rw [this, Hbit.out j hj]
          congr 1
          simp only [decide_eq_decide]
          omega
        have hy : x &&& (18446744073709551616 - 2 ^ (n % 64)) < 18446744073709551616 := Nat.lt_of_le_of_lt Nat.and_le_left hx
        generalize x &&& (18446744073709551616 - 2 ^ (n % 64)) = y at hand Hy hy
        by_cases hy0 : y = 0
        · have Hno' := next_skip Hno Hy hy0
          subst hy0
          clear Hy hy Hno
          go_wp2_with fail
          go_roundg (gk - 1)
          case measure => omega
          case rel => exact ⟨q + 1, by go_num, by omega, by omega, Hno', rfl⟩
        · have hr := next_found Hf Hh Hno Hy hy0 hy
          have htz := tz_ok y hy wr hT
          have hne : ((y : Int) != 0) = true := by simp; omega
          have hctl : Lib.ctz 64 y ≤ 64 := by have := (ctz_bits y hy0 hy).1; omega
          have Hr := (show Hid _ from hr)
          clear hr Hf
          generalize Lib.ctz 64 y = c at htz hctl Hr
          go_wp2_with fail
          refine htz.mono ?_
          rintro e w' ⟨rfl, rfl⟩
          clear htz
          go_wp2_with fail
          go_ret
          exact ⟨_, rfl, Hr.out, rfl⟩
      · have heq : ¬ ((q : Int) = (n : Int) / 64) := by omega
        have Hy : Hid (∀ j, j < 64 → x.testBit j = (has l1 (64 * q + j) && decide (n ≤ 64 * q + j))) := by
          intro j hj
          rw [Hbit.out j hj, decide_eq_true (by omega), Bool.and_true]
        by_cases hy0 : x = 0
        · have Hno' := next_skip Hno Hy hy0
          subst hy0
          clear Hy Hno
          go_wp2_with fail
          go_roundg (gk - 1)
          case measure => omega
          case rel => exact ⟨q + 1, by go_num, by omega, by omega, Hno', rfl⟩
        · have hr := next_found Hf Hh Hno Hy hy0 hx
          have htz := tz_ok x hx wr hT
          have hne : ((x : Int) != 0) = true := by simp; omega
          have hctl : Lib.ctz 64 x ≤ 64 := by have := (ctz_bits x hy0 hx).1; omega
          have Hr := (show Hid _ from hr)
          clear hr Hf
          generalize Lib.ctz 64 x = c at htz hctl Hr
          go_wp2_with fail
          refine htz.mono ?_
          rintro e w' ⟨rfl, rfl⟩
          clear htz
          go_wp2_with fail
          go_ret
          exact ⟨_, rfl, Hr.out, rfl⟩
    · have hfin : IsNext l n0 (-1) := by
        left
        refine ⟨rfl, fun m hm => ?_⟩
        have hf := Hf.out
        rcases Int.lt_or_le (m : Int) n0 with h | h
        · exact h
        · have hlt : m < 64 * l1.length := by rw [← Hh.out] at hm; exact has_lt hm
          rw [← Hh.out, Hno.out m (by split at hf <;> omega) (by have := hkl.out; omega)] at hm
          cases hm
      clear Hf
      go_wp2_with fail
      go_ret
      exact ⟨-1, rfl, hfin, rfl⟩
theorem next_ok (w : World) (v : Value) (l : List Nat) (n : Int) (hn : n ≤ 9223372036854775807) (hv : Words w v l) (hl : l.length ≤ 1024) (hf : Fit l) (hT : Tab 0 w) :
    Calls Tryd.prog 8 #[v, .int .i64 n] w fun e w' => ∃ r, e = .returned (.int .i64 r) ∧ IsNext l n r ∧ w = w' := by
  refine next_core w v l n n n.toNat ?_ hn hv hl hf hT
  split <;> omega
theorem next_one {l : List Nat} {n r s : Int} (h : IsNext l n r) (k : IsNext l n s) : r = s := by
  rcases h with ⟨rfl, h⟩ | ⟨m, rfl, h1, h2, h3⟩ <;> rcases k with ⟨rfl, k⟩ | ⟨m', rfl, k1, k2, k3⟩
  · rfl
  · have := h m' k1; omega
  · have := k m h1; omega
  · have e1 := h3 m' k1 k2
    have e2 := k3 m h1 h2
    omega
end Go.Proofs.YtccccbkllplojaaDoor
