/-
  Of no program: how many bits of a number are set, reckoned by lanes as math/bits.OnesCount64 does. No condition beyond those that each theorem states.
-/
import Derived.Laws.Bits64b
namespace Go.Proofs.YtccccbkllplojaaDoor

/-- AND goes lane by lane -/
theorem land_lane (s a b c d : Nat) (ha : a < 2 ^ s) (hc : c < 2 ^ s) : (a + 2 ^ s * b) &&& (c + 2 ^ s * d) = (a &&& c) + 2 ^ s * (b &&& d) := by
  have hac : a &&& c < 2 ^ s := Nat.and_lt_two_pow _ hc
  apply Nat.eq_of_testBit_eq
  intro i
  rw [Nat.testBit_and]
  rw [Nat.add_comm a, Nat.add_comm c, Nat.add_comm (a &&& c)]
  rw [Nat.testBit_two_pow_mul_add b ha, Nat.testBit_two_pow_mul_add d hc, Nat.testBit_two_pow_mul_add (b &&& d) hac]
  split
  · rw [Nat.testBit_and]
  · rw [Nat.testBit_and]

/-- the number of some digits of k bits, the lowest one first -/
def val (k : Nat) : List Nat → Nat
  | [] => 0
  | d :: r => d + 2 ^ k * val k r
/-- n lanes of k bits, each holding m -/
def lanes (k m : Nat) : Nat → Nat
  | 0 => 0
  | n + 1 => m + 2 ^ k * lanes k m n
def evens : List Nat → List Nat
  | a :: _ :: r => a :: evens r
  | r => r
def pairs : List Nat → List Nat
  | a :: b :: r => (a + b) :: pairs r
  | r => r
/-- the n lowest digits -/
def digs (k : Nat) : Nat → Nat → List Nat
  | 0, _ => []
  | n + 1, x => x % 2 ^ k :: digs k n (x / 2 ^ k)

theorem digs_len (k n x : Nat) : (digs k n x).length = n := by
  induction n generalizing x with
  | zero => rfl
  | succ n ih => simp [digs, ih]
theorem digs_lt (k n x : Nat) : ∀ d ∈ digs k n x, d < 2 ^ k := by
  induction n generalizing x with
  | zero => simp [digs]
  | succ n ih =>
    intro d hd
    rcases List.mem_cons.1 hd with rfl | hd
    · exact Nat.mod_lt _ (Nat.two_pow_pos _)
    · exact ih _ d hd
theorem val_digs (k n x : Nat) (hx : x < 2 ^ (k * n)) : val k (digs k n x) = x := by
  induction n generalizing x with
  | zero => simp at hx; subst hx; rfl
  | succ n ih =>
    rw [digs, val, ih]
    · exact Nat.mod_add_div _ _
    · rw [Nat.div_lt_iff_lt_mul (Nat.two_pow_pos _), ← Nat.pow_add]
      rw [Nat.mul_succ] at hx
      exact hx

theorem two_h (h : Nat) : 2 ^ (2 * h) = 2 ^ h * 2 ^ h := by rw [Nat.two_mul, Nat.pow_add]

/-- the lower halves of lanes -/
theorem land_val (h : Nat) (n : Nat) (ds : List Nat) (hl : ds.length = 2 * n) (hd : ∀ d ∈ ds, d < 2 ^ h) : val h ds &&& lanes (2 * h) (2 ^ h - 1) n = val (2 * h) (evens ds) := by
  induction n generalizing ds with
  | zero =>
    obtain rfl : ds = [] := List.eq_nil_of_length_eq_zero (by omega)
    simp [val, lanes, evens]
  | succ n ih =>
    match ds, hl with
    | a :: b :: r, hl =>
      have ha := hd a (by simp)
      have hb := hd b (by simp)
      have hle : 2 ^ h ≤ 2 ^ h * 2 ^ h := Nat.le_mul_of_pos_right _ (Nat.two_pow_pos h)
      have hab : a + 2 ^ h * b < 2 ^ (2 * h) := by
        rw [two_h]
        have := Nat.mul_le_mul_left (2 ^ h) (show b + 1 ≤ 2 ^ h from hb)
        rw [Nat.mul_add] at this
        omega
      have e : val h (a :: b :: r) = (a + 2 ^ h * b) + 2 ^ (2 * h) * val h r := by
        simp only [val]
        rw [two_h, Nat.mul_add, Nat.mul_assoc]
        omega
      have hm : 2 ^ h - 1 < 2 ^ (2 * h) := by rw [two_h]; have := Nat.two_pow_pos h; omega
      have h1 : (a + 2 ^ h * b) &&& (2 ^ h - 1) = a := by
        rw [Nat.and_two_pow_sub_one_eq_mod, Nat.add_mul_mod_self_left, Nat.mod_eq_of_lt ha]
      rw [e, lanes, land_lane _ _ _ _ _ hab hm, h1, ih r (by simp at hl; omega) (fun d hd' => hd d (by simp [hd']))]
      rfl

theorem val_tail (h : Nat) (a : Nat) (r : List Nat) (ha : a < 2 ^ h) : val h (a :: r) / 2 ^ h = val h r := by
  rw [val, Nat.add_mul_div_left _ _ (Nat.two_pow_pos h), Nat.div_eq_of_lt ha, Nat.zero_add]
theorem val_zero (h : Nat) (r : List Nat) : val h (r ++ [0]) = val h r := by
  induction r with
  | nil => simp [val]
  | cons a r ih => simp [val, ih]
theorem evens_add (k : Nat) : ∀ (a : Nat) (r : List Nat) (n : Nat), (a :: r).length = 2 * n → val k (evens (r ++ [0])) + val k (evens (a :: r)) = val k (pairs (a :: r))
  | a, [b], n, _ => by simp [evens, pairs, val]; omega
  | a, b :: c :: r, n, hl => by
    have := evens_add k c r (n - 1) (by simp at hl ⊢; omega)
    show val k (b :: evens (r ++ [0])) + val k (a :: evens (c :: r)) = val k ((a + b) :: pairs (c :: r))
    simp only [val]
    rw [← this, Nat.mul_add]
    omega
  | a, [], n, hl => by simp at hl; omega

/-- one step: the halves of the lanes are added -/
theorem step_pairs (h n x : Nat) (hn : 0 < n) (ds : List Nat) (hl : ds.length = 2 * n) (hd : ∀ d ∈ ds, d < 2 ^ h) :
    (val h ds / 2 ^ h &&& lanes (2 * h) (2 ^ h - 1) n) + (val h ds &&& lanes (2 * h) (2 ^ h - 1) n) = val (2 * h) (pairs ds) := by
  match ds, hl with
  | a :: r, hl =>
    rw [val_tail h a r (hd a (by simp)), ← val_zero h r, land_val h n _ (by simpa using hl) ?_, land_val h n _ hl hd]
    · exact evens_add _ a r n hl
    · intro d hd'
      rcases List.mem_append.1 hd' with h1 | h1
      · exact hd d (by simp [h1])
      · simp at h1; subst h1; exact Nat.two_pow_pos h
  | [], hl => simp at hl; omega

theorem val_add (h : Nat) : ∀ (r s : List Nat), r.length = s.length → val h r + val h s = val h (List.zipWith (· + ·) r s)
  | [], [], _ => rfl
  | a :: r, b :: s, hl => by
    have := val_add h r s (by simpa using hl)
    simp only [val, List.zipWith_cons_cons]
    rw [← this, Nat.mul_add]
    omega
theorem evens_zip : ∀ (a : Nat) (r : List Nat) (n : Nat), (a :: r).length = 2 * n → evens (List.zipWith (· + ·) (r ++ [0]) (a :: r)) = pairs (a :: r)
  | a, [b], n, _ => by simp [evens, pairs]; omega
  | a, b :: c :: r, n, hl => by
    have := evens_zip c r (n - 1) (by simp at hl ⊢; omega)
    show (b + a) :: evens (List.zipWith (· + ·) (r ++ [0]) (c :: r)) = (a + b) :: pairs (c :: r)
    rw [this, Nat.add_comm]
  | a, [], n, hl => by simp at hl; omega
/-- .. where the sums still fit into the halves -/
theorem step_sums (h n B : Nat) (hn : 0 < n) (hB : B + B < 2 ^ h) (ds : List Nat) (hl : ds.length = 2 * n) (hd : ∀ d ∈ ds, d ≤ B) :
    (val h ds / 2 ^ h + val h ds) &&& lanes (2 * h) (2 ^ h - 1) n = val (2 * h) (pairs ds) := by
  match ds, hl with
  | a :: r, hl =>
    have ha := hd a (by simp)
    rw [val_tail h a r (by omega), ← val_zero h r, val_add h _ _ (by simp), land_val h n _ (by simpa using hl) ?_]
    · rw [evens_zip a r n hl]
    · intro d hd'
      obtain ⟨i, hi, e⟩ := List.getElem_of_mem hd'
      rw [List.getElem_zipWith] at e
      have h1 : ∀ x ∈ r ++ [0], x ≤ B := by
        intro x hx
        rcases List.mem_append.1 hx with hx | hx
        · exact hd x (by simp [hx])
        · simp at hx; omega
      have g1 := h1 _ (List.getElem_mem (l := r ++ [0]) (n := i) (by simp at hi ⊢; omega))
      have g2 := hd _ (List.getElem_mem (l := a :: r) (n := i) (by simp at hi ⊢; omega))
      omega
  | [], hl => simp at hl; omega

theorem pairs_sum : ∀ (ds : List Nat), (pairs ds).sum = ds.sum
  | [] => rfl
  | [a] => rfl
  | a :: b :: r => by simp [pairs, pairs_sum r]; omega
theorem pairs_le (B : Nat) : ∀ (ds : List Nat) (n : Nat), ds.length = 2 * n → (∀ d ∈ ds, d ≤ B) → (pairs ds).length = n ∧ ∀ d ∈ pairs ds, d ≤ 2 * B
  | [], n, hl, _ => by
    obtain rfl : n = 0 := by simp at hl; omega
    simp [pairs]
  | [a], n, hl, _ => by simp at hl; omega
  | a :: b :: r, n, hl, hd => by
    obtain ⟨h1, h2⟩ := pairs_le B r (n - 1) (by simp at hl; omega) (fun d hd' => hd d (by simp [hd']))
    refine ⟨by simp [pairs, h1]; simp at hl; omega, ?_⟩
    intro d hd'
    simp only [pairs, List.mem_cons] at hd'
    rcases hd' with rfl | hd'
    · have := hd a (by simp)
      have := hd b (by simp)
      omega
    · exact h2 d hd'

/-- how many bits of x are set -/
def pop (x : Nat) : Nat := (digs 1 64 x).sum
def pop1 (x : Nat) : Nat := (x / 2 &&& 6148914691236517205) + (x &&& 6148914691236517205)
def pop2 (x : Nat) : Nat := (x / 4 &&& 3689348814741910323) + (x &&& 3689348814741910323)
def pop3 (x : Nat) : Nat := (x / 16 + x) &&& 1085102592571150095
def pop4 (x : Nat) : Nat := x + x / 256
def pop5 (x : Nat) : Nat := x + x / 65536
def pop6 (x : Nat) : Nat := x + x / 4294967296

/-- three steps: the bytes each hold how many of their bits are set -/
theorem pop_three (x : Nat) (hx : x < 18446744073709551616) : ∃ ds, pop3 (pop2 (pop1 x)) = val 8 ds ∧ ds.length = 8 ∧ (∀ d ∈ ds, d ≤ 8) ∧ ds.sum = pop x := by
  have hl0 := digs_len 1 64 x
  have hd0 := digs_lt 1 64 x
  have hv := val_digs 1 64 x (by simpa using hx)
  have hd0' : ∀ d ∈ digs 1 64 x, d ≤ 1 := fun d hd => by have := hd0 d hd; omega
  have h1 := step_pairs 1 32 x (by omega) _ hl0 hd0
  rw [hv] at h1
  have e1 : pop1 x = val 2 (pairs (digs 1 64 x)) := h1
  obtain ⟨hl1, hd1⟩ := pairs_le 1 _ 32 hl0 hd0'
  have h2 := step_pairs 2 16 x (by omega) _ hl1 (fun d hd => by have := hd1 d hd; omega)
  rw [← e1] at h2
  have e2 : pop2 (pop1 x) = val 4 (pairs (pairs (digs 1 64 x))) := h2
  obtain ⟨hl2, hd2⟩ := pairs_le 2 _ 16 hl1 hd1
  have h3 := step_sums 4 8 4 (by omega) (by omega) _ hl2 (fun d hd => by have := hd2 d hd; omega)
  rw [← e2] at h3
  have e3 : pop3 (pop2 (pop1 x)) = val 8 (pairs (pairs (pairs (digs 1 64 x)))) := h3
  obtain ⟨hl3, hd3⟩ := pairs_le 4 _ 8 hl2 (fun d hd => by have := hd2 d hd; omega)
  exact ⟨_, e3, hl3, fun d hd => by have := hd3 d hd; omega, by rw [pairs_sum, pairs_sum, pairs_sum]; rfl⟩
end Go.Proofs.YtccccbkllplojaaDoor
