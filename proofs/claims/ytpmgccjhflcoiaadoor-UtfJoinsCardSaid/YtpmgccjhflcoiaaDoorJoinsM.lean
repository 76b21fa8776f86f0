/-
  Plain law: two texts together have as many items as both just if a caret stands between them. No condition beyond those that each theorem states.
-/
import Derived.Test.YtpmgccjhflcoiaaDoorUBackWalk
namespace Go.Proofs.YtpmgccjhflcoiaaDoor
open Go.RowKit
set_option linter.unusedSimpArgs false
set_option linter.unusedVariables false

/-- how many carets stand before a place -/
def cnt (s : ByteArray) : Nat → Nat
  | 0 => 0
  | k + 1 => cnt s k + if caretN s k then 1 else 0
theorem cnt_pos (s : ByteArray) (j : Nat) (h : pos s j ≤ s.size) : cnt s (pos s j) = j := by
  induction j with
  | zero => rfl
  | succ j ih =>
    have e1 : pos s (j + 1) = pos s j + wid s (pos s j) := rfl
    have hw := wid_pos s (pos s j)
    have h0 := ih (by omega)
    have hd : ∀ d, d < wid s (pos s j) → cnt s (pos s j + (d + 1)) = j + 1 := by
      intro d
      induction d with
      | zero =>
        intro _
        have hc : caretN s (pos s j) = true := (caret_iff s _ (by omega)).2 ⟨j, rfl⟩
        show cnt s (pos s j) + (if caretN s (pos s j) then 1 else 0) = j + 1
        rw [hc, if_pos rfl, h0]
      | succ d ihd =>
        intro hlt
        have hc : caretN s (pos s j + (d + 1)) = false := by
          rw [Bool.eq_false_iff]
          intro hc
          obtain ⟨k, hk⟩ := (caret_iff s _ (by omega)).1 hc
          rcases Nat.lt_or_ge j k with h1 | h1
          · have := pos_mono s (show j + 1 ≤ k from h1); omega
          · have := pos_mono s h1; omega
        show cnt s (pos s j + (d + 1)) + (if caretN s (pos s j + (d + 1)) then 1 else 0) = j + 1
        rw [hc, ihd (by omega)]
        simp
    have := hd (wid s (pos s j) - 1) (by omega)
    rw [show wid s (pos s j) - 1 + 1 = wid s (pos s j) from by omega, ← e1] at this
    exact this
theorem over_carry (s t : ByteArray) (p f g : Nat) (hf : f < s.size) (ht : ∀ m, f + m < s.size → byteAt s (f + m) = byteAt t (g + m)) (hz : g + (s.size - f) ≤ t.size) (hp : f < p) (h : overB s p f = true) : overB t (g + (p - f)) g = true := by
  unfold overB at h ⊢
  rw [Bool.and_eq_true, decide_eq_true_iff] at h
  obtain ⟨h1, h2⟩ := h
  have hw := wid_in s f hf
  unfold wid at hw
  rw [if_pos h1] at hw
  obtain ⟨e1, e2⟩ := item_carry s t f g hf h1 (by omega) (fun m hm => ht m (by omega))
  rw [e1, e2, Bool.true_and, decide_eq_true_iff]
  omega
theorem caretN_iff (s : ByteArray) (p : Nat) : caretN s p = true ↔ ∀ f, f < p → p - 3 ≤ f → overB s p f = false := by
  unfold caretN; rw [decide_eq_true_iff]
theorem caret_leftpart (a b : ByteArray) (i : Nat) (hi : i ≤ a.size) (h : caretN (a ++ b) i = true) : caretN a i = true := by
  have hz : (a ++ b).size = a.size + b.size := ByteArray.size_append
  rw [caretN_iff] at h ⊢
  intro f h1 h2
  rw [Bool.eq_false_iff]
  intro ho
  have := over_carry a (a ++ b) i f f (by omega) (fun m hm => (join_left a b _ hm).symm) (by omega) h1 ho
  rw [show f + (i - f) = i from by omega, h f h1 h2] at this
  cases this
theorem caret_rightpart (a b : ByteArray) (i : Nat) (hi : i ≤ b.size) (h : caretN (a ++ b) (a.size + i) = true) : caretN b i = true := by
  have hz : (a ++ b).size = a.size + b.size := ByteArray.size_append
  rw [caretN_iff] at h ⊢
  intro f h1 h2
  rw [Bool.eq_false_iff]
  intro ho
  have := over_carry b (a ++ b) i f (a.size + f) (by omega) (fun m hm => by rw [Nat.add_assoc]; exact (join_right a b _ hm).symm) (by omega) h1 ho
  rw [show a.size + f + (i - f) = a.size + i from by omega, h (a.size + f) (by omega) (by omega)] at this
  cases this
theorem cnt_left (a b : ByteArray) (i : Nat) (hi : i ≤ a.size) : cnt (a ++ b) i ≤ cnt a i := by
  induction i with
  | zero => exact Nat.le_refl _
  | succ i ih =>
    have h1 := ih (by omega)
    have h2 := caret_leftpart a b i (by omega)
    show cnt (a ++ b) i + (if caretN (a ++ b) i then 1 else 0) ≤ cnt a i + (if caretN a i then 1 else 0)
    cases h : caretN (a ++ b) i with
    | false => simp; omega
    | true => rw [h2 h]; simp; omega
theorem cnt_right (a b : ByteArray) (hc : caretN (a ++ b) a.size = false) (i : Nat) (hi : i < b.size) : cnt (a ++ b) (a.size + (i + 1)) + 1 ≤ cnt a a.size + cnt b (i + 1) := by
  induction i with
  | zero =>
    have h1 := cnt_left a b a.size (Nat.le_refl _)
    have h0 : caretN b 0 = true := (caret_iff b 0 (by omega)).2 ⟨0, rfl⟩
    show cnt (a ++ b) (a.size + 0) + (if caretN (a ++ b) (a.size + 0) then 1 else 0) + 1 ≤ cnt a a.size + (cnt b 0 + (if caretN b 0 then 1 else 0))
    simp only [Nat.add_zero, hc, h0]
    simp
    omega
  | succ i ih =>
    have h1 := ih (by omega)
    have h2 := caret_rightpart a b (i + 1) (by omega)
    show cnt (a ++ b) (a.size + (i + 1)) + (if caretN (a ++ b) (a.size + (i + 1)) then 1 else 0) + 1 ≤ cnt a a.size + (cnt b (i + 1) + (if caretN b (i + 1) then 1 else 0))
    cases h : caretN (a ++ b) (a.size + (i + 1)) with
    | false => simp; omega
    | true => rw [h2 h]; simp; omega
/-- a text that two make has fewer items than both if a sign goes over from the one to the other -/
theorem joins_no (a b : ByteArray) (m n q : Nat) (hm : pos a m = a.size) (hn : pos b n = b.size) (hq : pos (a ++ b) q = (a ++ b).size) (hc : caretN (a ++ b) a.size = false) : q < m + n := by
  have hz : (a ++ b).size = a.size + b.size := ByteArray.size_append
  have c1 := cnt_pos a m (by omega)
  have c2 := cnt_pos b n (by omega)
  have c3 := cnt_pos (a ++ b) q (by omega)
  rw [hm] at c1
  rw [hn] at c2
  rw [hq, hz] at c3
  have hb : 0 < b.size := by
    rcases Nat.eq_zero_or_pos b.size with h | h
    · rw [show a.size = (a ++ b).size from by omega, caret_end2] at hc
      cases hc
    · exact h
  have := cnt_right a b hc (b.size - 1) (by omega)
  rw [show b.size - 1 + 1 = b.size from by omega] at this
  omega
theorem head_is (a b : ByteArray) : (a ++ b).extract 0 a.size = a := by
  apply bytes_ext
  rw [ByteArray.data_extract, ByteArray.data_append]
  simp
  exact List.take_of_length_le (by rw [← Lib.size_eq]; exact Nat.le_refl _)
theorem item_head (a b : ByteArray) (hc : caretN (a ++ b) a.size = true) (i : Nat) (h : i < a.size) : okAt (a ++ b) i = okAt a i ∧ wid (a ++ b) i = wid a i ∧ (okAt a i = true → dec (a ++ b) i = dec a i) := by
  have hz : (a ++ b).size = a.size + b.size := ByteArray.size_append
  have h1 := item_ext (a ++ b) 0 a.size i (by omega) (by omega) hc (by omega)
  have h2 := wid_ext (a ++ b) 0 a.size i (by omega) (by omega) hc (by omega)
  rw [head_is, Nat.zero_add] at h1 h2
  refine ⟨h1.1.symm, h2.symm, fun hk => ?_⟩
  exact (h1.2 (by rw [← h1.1]; exact hk)).symm
theorem pos_head (a b : ByteArray) (hc : caretN (a ++ b) a.size = true) (m : Nat) (hm : pos a m = a.size) (k : Nat) (hk : k ≤ m) : pos (a ++ b) k = pos a k := by
  induction k with
  | zero => rfl
  | succ k ih =>
    have h1 := ih (by omega)
    have h2 := (pos_below a hm).1 (show k < m by omega)
    show pos (a ++ b) k + wid (a ++ b) (pos (a ++ b) k) = pos a k + wid a (pos a k)
    rw [h1, (item_head a b hc _ h2).2.1]
theorem pos_rest (a b : ByteArray) (hc : caretN (a ++ b) a.size = true) (m n : Nat) (hm : pos a m = a.size) (hn : pos b n = b.size) (j : Nat) (hj : j ≤ n) : pos (a ++ b) (m + j) = a.size + pos b j := by
  rw [← posF_pos, pos_head a b hc m hm m (Nat.le_refl _), hm]
  exact pos_tail2 a b n hn j hj
theorem joins_yes (a b : ByteArray) (m n q : Nat) (hm : pos a m = a.size) (hn : pos b n = b.size) (hq : pos (a ++ b) q = (a ++ b).size) (hc : caretN (a ++ b) a.size = true) : q = m + n := by
  have hz : (a ++ b).size = a.size + b.size := ByteArray.size_append
  have := pos_rest a b hc m n hm hn n (Nat.le_refl _)
  rw [hn, ← hz] at this
  exact pos_inj _ (hq.trans this.symm)
theorem rune_congr {s t : ByteArray} {i j : Nat} (h1 : okAt s i = okAt t j) (h2 : okAt t j = true → dec s i = dec t j) : runeI s i = runeI t j := by
  unfold runeI
  cases h : okAt t j with
  | false => simp only [h1, h, Bool.false_eq_true, if_false]
  | true => simp only [h1, h, if_true, h2 h]
/-- the row of items of the text that two make, told by the items of both -/
theorem row_left {a b : ByteArray} {W : World} {g m n k : Nat} (h : RowI (a ++ b) W g (m + n)) (hc : caretN (a ++ b) a.size = true) (hm : pos a m = a.size) (hk : k < m) :
    W.cell? ⟨g, k * 4, none⟩ = some (.int .i64 (pos a k : Nat)) ∧ W.cell? ⟨g, k * 4 + 1, none⟩ = some (.int .i64 (wid a (pos a k) : Nat)) ∧ W.cell? ⟨g, k * 4 + 2, none⟩ = some (.int .i32 (runeI a (pos a k))) ∧ W.cell? ⟨g, k * 4 + 3, none⟩ = some (.bool (okAt a (pos a k))) := by
  have h1 := h k (by omega)
  obtain ⟨e1, e2, e3⟩ := item_head a b hc _ ((pos_below a hm).1 hk)
  rw [pos_head a b hc m hm k (by omega), e1, e2, rune_congr e1 e3] at h1
  exact h1
theorem row_right {a b : ByteArray} {W : World} {g m n j : Nat} (h : RowI (a ++ b) W g (m + n)) (hc : caretN (a ++ b) a.size = true) (hm : pos a m = a.size) (hn : pos b n = b.size) (hj : j < n) :
    W.cell? ⟨g, (m + j) * 4, none⟩ = some (.int .i64 ((pos b j : Int) + (a.size : Int))) ∧ W.cell? ⟨g, (m + j) * 4 + 1, none⟩ = some (.int .i64 (wid b (pos b j) : Nat)) ∧ W.cell? ⟨g, (m + j) * 4 + 2, none⟩ = some (.int .i32 (runeI b (pos b j))) ∧ W.cell? ⟨g, (m + j) * 4 + 3, none⟩ = some (.bool (okAt b (pos b j))) := by
  have h1 := h (m + j) (by omega)
  obtain ⟨e1, e2, e3⟩ := item_tail a b _ ((pos_below b hn).1 hj)
  rw [pos_rest a b hc m n hm hn j (by omega), e1, e2, rune_congr e1 e3, show ((a.size + pos b j : Nat) : Int) = (pos b j : Int) + (a.size : Int) from by omega] at h1
  exact h1
end Go.Proofs.YtpmgccjhflcoiaaDoor
