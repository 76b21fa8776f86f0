/-
  Plain law: an item hangs on its own bytes alone: in a piece of a text that ends at a caret the items are the text's. No condition beyond those that each theorem states.
-/
import Derived.Test.YtpmgccjhflcoiaaDoorCarets
namespace Go.Proofs.YtpmgccjhflcoiaaDoor
open Go.RowKit
set_option linter.unusedSimpArgs false
set_option linter.unusedVariables false

theorem racc_congr (s t : ByteArray) (i j n k : Nat) (h : ∀ m, m ≤ k → byteAt s (i + m) = byteAt t (j + m)) : racc s i n k = racc t j n k := by
  induction k with
  | zero => have := h 0 (Nat.le_refl _); simp only [Nat.add_zero] at this; unfold racc; rw [this]
  | succ k ih => unfold racc; rw [ih fun m hm => h m (by omega), h (k + 1) (Nat.le_refl _)]
theorem match_congr (s t : ByteArray) (i j n : Nat) (hn : 1 ≤ n) (hs : i + n ≤ s.size) (ht : j + n ≤ t.size) (h : ∀ m, m < n → byteAt s (i + m) = byteAt t (j + m)) : matchAt s i n = matchAt t j n := by
  have hb : bytesAt s i n = bytesAt t j n := by
    unfold bytesAt
    apply List.map_congr_left
    intro x hx
    exact h x (List.mem_range.1 hx)
  rw [Bool.eq_iff_iff, match_iff s i n hs, match_iff t j n ht, hb, racc_congr s t i j n (n - 1) fun m hm => h m (by omega)]
theorem item_of_match (s : ByteArray) (i n : Nat) (h1 : 1 ≤ n) (h4 : n ≤ 4) (hs : i + n ≤ s.size) (hm : matchAt s i n = true) (hno : ∀ m, 1 ≤ m → m < n → matchAt s i m = false) : okAt s i = true ∧ dec s i = (racc s i n (n - 1), n) := by
  rcases dec_cases s i (by omega) with ⟨k, k1, k4, ks, km, kno, hok, hd⟩ | ⟨hall, _⟩
  · rcases Nat.lt_trichotomy k n with h | h | h
    · rw [hno k k1 h] at km; cases km
    · subst h; exact ⟨hok, hd⟩
    · rw [kno n h1 h] at hm; cases hm
  · rw [hall n h1 h4 hs] at hm; cases hm
theorem item_none (s : ByteArray) (i : Nat) (hi : i < s.size) (h : ∀ n, 1 ≤ n → n ≤ 4 → i + n ≤ s.size → matchAt s i n = false) : okAt s i = false := by
  rcases dec_cases s i hi with ⟨k, k1, k4, ks, km, _⟩ | ⟨_, h0⟩
  · rw [h k k1 k4 ks] at km; cases km
  · exact h0
/-- a sign of the one text, all of whose bytes stand in the other one, is a sign there -/
theorem item_carry (s t : ByteArray) (i j : Nat) (hi : i < s.size) (hok : okAt s i = true) (ht : j + (dec s i).2 ≤ t.size) (h : ∀ m, m < (dec s i).2 → byteAt s (i + m) = byteAt t (j + m)) : okAt t j = true ∧ dec t j = dec s i := by
  rcases dec_cases s i hi with ⟨n, n1, n4, ns, nm, nno, _, hd⟩ | ⟨_, h0⟩
  · rw [hd] at ht h ⊢
    simp only at ht h
    have := item_of_match t j n n1 n4 ht (by rw [← match_congr s t i j n n1 ns ht h]; exact nm) (fun m m1 m2 => by rw [← match_congr s t i j m m1 (by omega) (by omega) fun x hx => h x (by omega)]; exact nno m m1 m2)
    refine ⟨this.1, ?_⟩
    rw [this.2, racc_congr s t i j n (n - 1) fun m hm => h m (by omega)]
  · rw [h0] at hok; cases hok
theorem ext_byteAt (s : ByteArray) (q e i : Nat) (hqe : q ≤ e) (he : e ≤ s.size) (hi : q + i < e) : byteAt (s.extract q e) i = byteAt s (q + i) := by
  have hz : (s.extract q e).size = e - q := by simp; omega
  unfold byteAt
  rw [Utf8W.get!_of_lt _ i (by omega), Utf8W.get!_of_lt s (q + i) (by omega), ByteArray.getElem_extract]
theorem ext_len (s : ByteArray) (q e : Nat) (he : e ≤ s.size) : (s.extract q e).size = e - q := by simp; omega
/-- in a piece that ends at a caret the items are the text's -/
theorem item_ext (s : ByteArray) (q e i : Nat) (hqe : q ≤ e) (he : e ≤ s.size) (hc : caretN s e = true) (hi : q + i < e) :
    okAt (s.extract q e) i = okAt s (q + i) ∧ (okAt s (q + i) = true → dec (s.extract q e) i = dec s (q + i)) := by
  have hz := ext_len s q e he
  have hb := ext_byteAt s q e
  cases hok : okAt s (q + i) with
  | true =>
    have hfit : q + i + (dec s (q + i)).2 ≤ e := by
      rcases Nat.lt_or_ge e (q + i + (dec s (q + i)).2) with h | h
      · exfalso
        have hd := dec_bounds s (q + i)
        unfold caretN at hc
        rw [decide_eq_true_iff] at hc
        have := hc (q + i) hi (by omega)
        unfold overB at this
        rw [hok, Bool.true_and, decide_eq_false_iff_not] at this
        omega
      · exact h
    have := item_carry s (s.extract q e) (q + i) i (by omega) hok (by rw [hz]; omega) fun m hm => by rw [hb (i + m) hqe he (by omega)]; congr 1; omega
    exact ⟨this.1, fun _ => this.2⟩
  | false =>
    refine ⟨?_, fun h => by cases h⟩
    cases ht : okAt (s.extract q e) i with
    | false => rfl
    | true =>
      exfalso
      have hfit := wid_in (s.extract q e) i (by rw [hz]; omega)
      unfold wid at hfit
      rw [ht, if_pos rfl, hz] at hfit
      have := item_carry (s.extract q e) s i (q + i) (by rw [hz]; omega) ht (by omega) fun m hm => by rw [hb (i + m) hqe he (by omega)]; congr 1; omega
      rw [this.1] at hok; cases hok
theorem wid_ext (s : ByteArray) (q e i : Nat) (hqe : q ≤ e) (he : e ≤ s.size) (hc : caretN s e = true) (hi : q + i < e) : wid (s.extract q e) i = wid s (q + i) := by
  obtain ⟨h1, h2⟩ := item_ext s q e i hqe he hc hi
  unfold wid
  rw [h1]
  by_cases hok : okAt s (q + i) = true
  · rw [if_pos hok, if_pos hok, h2 hok]
  · rw [if_neg hok, if_neg hok]
/-- where the items begin, from a place on -/
def posF (s : ByteArray) (q : Nat) : Nat → Nat
  | 0 => q
  | k + 1 => posF s q k + wid s (posF s q k)
theorem posF_zero (s : ByteArray) (k : Nat) : posF s 0 k = pos s k := by
  induction k with
  | zero => rfl
  | succ k ih => unfold posF pos; rw [ih]
theorem posF_pos (s : ByteArray) (a k : Nat) : posF s (pos s a) k = pos s (a + k) := by
  induction k with
  | zero => rfl
  | succ k ih =>
    have e : posF s (pos s a) (k + 1) = posF s (pos s a) k + wid s (posF s (pos s a) k) := rfl
    have e2 : pos s (a + k + 1) = pos s (a + k) + wid s (pos s (a + k)) := rfl
    rw [e, ih, show a + (k + 1) = a + k + 1 from rfl, e2]
theorem posF_lt (s : ByteArray) (q k : Nat) : posF s q k < posF s q (k + 1) := by
  have := wid_pos s (posF s q k)
  show posF s q k < posF s q k + _
  omega
theorem posF_mono (s : ByteArray) (q : Nat) {a b : Nat} (h : a ≤ b) : posF s q a ≤ posF s q b := by
  induction b with
  | zero => obtain rfl : a = 0 := by omega
            exact Nat.le_refl _
  | succ b ih =>
    rcases Nat.lt_or_ge a (b + 1) with h1 | h1
    · have := ih (by omega); have := posF_lt s q b; omega
    · obtain rfl : a = b + 1 := by omega
      exact Nat.le_refl _
theorem posF_ge (s : ByteArray) (q k : Nat) : q ≤ posF s q k := posF_mono s q (Nat.zero_le k)
theorem posF_inj (s : ByteArray) (q : Nat) {a b : Nat} (h : posF s q a = posF s q b) : a = b := by
  rcases Nat.lt_trichotomy a b with h1 | h1 | h1
  · have := posF_lt s q a; have := posF_mono s q (show a + 1 ≤ b from h1); omega
  · exact h1
  · have := posF_lt s q b; have := posF_mono s q (show b + 1 ≤ a from h1); omega
/-- the items of a piece that ends at a caret -/
theorem pos_ext (s : ByteArray) (q e k : Nat) (hqe : q ≤ e) (he : e ≤ s.size) (hc : caretN s e = true) (h : ∀ j, j < k → posF s q j < e) : q + pos (s.extract q e) k = posF s q k := by
  induction k with
  | zero => rfl
  | succ k ih =>
    have h0 := ih fun j hj => h j (by omega)
    have hk := h k (Nat.lt_succ_self k)
    show q + (pos (s.extract q e) k + wid (s.extract q e) (pos (s.extract q e) k)) = posF s q k + wid s (posF s q k)
    rw [wid_ext s q e _ hqe he hc (by omega), h0]
    omega
/-- how many items a piece has -/
theorem count_ext (s : ByteArray) (q e k n : Nat) (hqe : q ≤ e) (he : e ≤ s.size) (hc : caretN s e = true) (hk : posF s q k = e) (hn : pos (s.extract q e) n = (s.extract q e).size) : n = k := by
  have h := pos_ext s q e k hqe he hc (fun j hj => by have := posF_lt s q j; have := posF_mono s q (show j + 1 ≤ k from hj); omega)
  have hz := ext_len s q e he
  rw [← posF_zero] at hn h
  exact posF_inj (s.extract q e) 0 (by omega)
end Go.Proofs.YtpmgccjhflcoiaaDoor
