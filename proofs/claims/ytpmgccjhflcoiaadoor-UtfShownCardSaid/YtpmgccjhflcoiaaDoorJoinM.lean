/-
  Plain law: a sign is read from its bytes, whatever stands behind. No condition beyond those that each theorem states.
-/
import Derived.Test.YtpmgccjhflcoiaaDoorWorksA
import Derived.Test.YtpmgccjhflcoiaaDoorSplice
namespace Go.Proofs.YtpmgccjhflcoiaaDoor
open Go.RowKit
set_option linter.unusedSimpArgs false
set_option linter.unusedVariables false

theorem caret_end2 (s : ByteArray) : caretN s s.size = true := caret_of_lead s s.size (Nat.le_refl _) (Or.inl rfl)
theorem enc_size (r : Nat) : (bytesOf (encN r)).size = (encN r).length := by unfold bytesOf; show (List.toArray _).size = _; simp
theorem join_left (a b : ByteArray) (i : Nat) (h : i < a.size) : byteAt (a ++ b) i = byteAt a i := by
  have hz : (a ++ b).size = a.size + b.size := ByteArray.size_append
  rw [byteAt_l _ _ (by omega), byteAt_l a i h, ByteArray.data_append, Array.toList_append, List.getD_eq_getElem?_getD, List.getD_eq_getElem?_getD, List.getElem?_append_left (by rw [← Lib.size_eq]; exact h)]
theorem join_right (a b : ByteArray) (i : Nat) (h : i < b.size) : byteAt (a ++ b) (a.size + i) = byteAt b i := by
  have hz : (a ++ b).size = a.size + b.size := ByteArray.size_append
  rw [byteAt_l _ _ (by omega), byteAt_l b i h, ByteArray.data_append, Array.toList_append, List.getD_eq_getElem?_getD, List.getD_eq_getElem?_getD, List.getElem?_append_right (by rw [← Lib.size_eq]; omega), ← Lib.size_eq]
  congr 3
  omega
theorem bytesOf_at (l : List Nat) (hl : ∀ x ∈ l, x < 256) (i : Nat) (h : i < l.length) : byteAt (bytesOf l) i = l[i]'h := by
  have hz : (bytesOf l).size = l.length := by unfold bytesOf; show (List.toArray _).size = _; simp
  rw [byteAt_l _ _ (by omega)]
  unfold bytesOf
  have := hl _ (List.getElem_mem h)
  simp [List.getD_eq_getElem?_getD, h]
  omega
set_option maxHeartbeats 4000000 in
/-- the first item of a text that begins with a sign's bytes -/
theorem enc_first (r : Nat) (hr : isSign r) (s : ByteArray) : okAt (bytesOf (encN r) ++ s) 0 = true ∧ dec (bytesOf (encN r) ++ s) 0 = (r, (encN r).length) := by
  obtain ⟨_, h2, h3⟩ := hr
  have hz : (bytesOf (encN r) ++ s).size = (encN r).length + s.size := by rw [ByteArray.size_append, enc_size]
  have hb : ∀ i, (h : i < (encN r).length) → byteAt (bytesOf (encN r) ++ s) i = (encN r)[i]'h := fun i h => by
    rw [join_left _ _ i (by rw [enc_size]; exact h), bytesOf_at _ (encN_lt r) i h]
  generalize bytesOf (encN r) ++ s = t at *
  have x1 := m1 t 0
  have x2 := m2 t 0
  have x3 := m3 t 0
  have x4 := m4 t 0
  have q1 : racc t 0 1 0 = byteAt t 0 := rfl
  have q2 : racc t 0 2 1 = 64 * (byteAt t 0 % 32) + byteAt t (0 + 1) % 64 := rfl
  have q3 : racc t 0 3 2 = 64 * (64 * (byteAt t 0 % 16) + byteAt t (0 + 1) % 64) + byteAt t (0 + 2) % 64 := rfl
  have q4 : racc t 0 4 3 = 64 * (64 * (64 * (byteAt t 0 % 8) + byteAt t (0 + 1) % 64) + byteAt t (0 + 2) % 64) + byteAt t (0 + 3) % 64 := rfl
  simp only [Nat.zero_add] at x1 x2 x3 x4 q2 q3 q4
  by_cases c1 : r < 128
  · have e : encN r = [r] := by unfold encN; rw [if_neg (by omega), if_pos c1]
    rw [e] at hz hb ⊢
    have b0 := hb 0 (by simp)
    simp only [List.getElem_cons_zero] at b0
    simp only [List.length_cons, List.length_nil] at hz
    have := item_of_match t 0 1 (by omega) (by omega) (by omega) ((x1 (by omega)).2 (by omega)) (fun m h1 h2 => by omega)
    rw [show 1 - 1 = 0 from rfl, q1, b0] at this
    exact this
  · by_cases c2 : r < 2048
    · have e : encN r = [192 + r / 64, 128 + r % 64] := by unfold encN; rw [if_neg (by omega), if_neg c1, if_pos c2]
      rw [e] at hz hb ⊢
      have b0 := hb 0 (by simp)
      have b1 := hb 1 (by simp)
      simp only [List.getElem_cons_zero, List.getElem_cons_succ] at b0 b1
      simp only [List.length_cons, List.length_nil] at hz
      have := item_of_match t 0 2 (by omega) (by omega) (by omega) ((x2 (by omega)).2 (by omega)) (fun m h1 h2 => by
        obtain rfl : m = 1 := by omega
        exact Bool.eq_false_iff.2 fun h => by have := (x1 (by omega)).1 h; omega)
      rw [show 2 - 1 = 1 from rfl, q2, b0, b1] at this
      rw [this.2]
      exact ⟨this.1, by congr 1; omega⟩
    · by_cases c3 : r < 65536
      · have e : encN r = [224 + r / 4096, 128 + r / 64 % 64, 128 + r % 64] := by unfold encN; rw [if_neg (by omega), if_neg c1, if_neg c2, if_pos c3]
        rw [e] at hz hb ⊢
        have b0 := hb 0 (by simp)
        have b1 := hb 1 (by simp)
        have b2 := hb 2 (by simp)
        simp only [List.getElem_cons_zero, List.getElem_cons_succ] at b0 b1 b2
        simp only [List.length_cons, List.length_nil] at hz
        have := item_of_match t 0 3 (by omega) (by omega) (by omega) ((x3 (by omega)).2 (by omega)) (fun m h1 h2 => by
          rcases (show m = 1 ∨ m = 2 by omega) with rfl | rfl
          · exact Bool.eq_false_iff.2 fun h => by have := (x1 (by omega)).1 h; omega
          · exact Bool.eq_false_iff.2 fun h => by have := (x2 (by omega)).1 h; omega)
        rw [show 3 - 1 = 2 from rfl, q3, b0, b1, b2] at this
        rw [this.2]
        exact ⟨this.1, by congr 1; omega⟩
      · have e : encN r = [240 + r / 262144, 128 + r / 4096 % 64, 128 + r / 64 % 64, 128 + r % 64] := by unfold encN; rw [if_neg (by omega), if_neg c1, if_neg c2, if_neg c3]
        rw [e] at hz hb ⊢
        have b0 := hb 0 (by simp)
        have b1 := hb 1 (by simp)
        have b2 := hb 2 (by simp)
        have b3 := hb 3 (by simp)
        simp only [List.getElem_cons_zero, List.getElem_cons_succ] at b0 b1 b2 b3
        simp only [List.length_cons, List.length_nil] at hz
        have := item_of_match t 0 4 (by omega) (by omega) (by omega) ((x4 (by omega)).2 (by omega)) (fun m h1 h2 => by
          rcases (show m = 1 ∨ m = 2 ∨ m = 3 by omega) with rfl | rfl | rfl
          · exact Bool.eq_false_iff.2 fun h => by have := (x1 (by omega)).1 h; omega
          · exact Bool.eq_false_iff.2 fun h => by have := (x2 (by omega)).1 h; omega
          · exact Bool.eq_false_iff.2 fun h => by have := (x3 (by omega)).1 h; omega)
        rw [show 4 - 1 = 3 from rfl, q4, b0, b1, b2, b3] at this
        rw [this.2]
        exact ⟨this.1, by congr 1; omega⟩
theorem tail_is (a b : ByteArray) : (a ++ b).extract a.size (a ++ b).size = b := by
  apply bytes_ext
  rw [Lib.extract_to_end, ByteArray.data_append, Array.toList_append, List.drop_append_of_le_length (by rw [← Lib.size_eq]; exact Nat.le_refl _), List.drop_of_length_le (by rw [← Lib.size_eq]; exact Nat.le_refl _), List.nil_append]
/-- items behind a place are the items of what stands behind it -/
theorem pos_tail (a b : ByteArray) (k : Nat) (h : ∀ j, j < k → posF (a ++ b) a.size j < (a ++ b).size) : posF (a ++ b) a.size k = a.size + pos b k := by
  have hz : (a ++ b).size = a.size + b.size := ByteArray.size_append
  have := pos_ext (a ++ b) a.size (a ++ b).size k (by omega) (Nat.le_refl _) (caret_end2 _) h
  rw [tail_is] at this
  exact this.symm
theorem item_tail (a b : ByteArray) (i : Nat) (h : i < b.size) : okAt (a ++ b) (a.size + i) = okAt b i ∧ wid (a ++ b) (a.size + i) = wid b i ∧ (okAt b i = true → dec (a ++ b) (a.size + i) = dec b i) := by
  have hz : (a ++ b).size = a.size + b.size := ByteArray.size_append
  have h1 := item_ext (a ++ b) a.size (a ++ b).size i (by omega) (Nat.le_refl _) (caret_end2 _) (by omega)
  have h2 := wid_ext (a ++ b) a.size (a ++ b).size i (by omega) (Nat.le_refl _) (caret_end2 _) (by omega)
  rw [tail_is] at h1 h2
  refine ⟨h1.1.symm, h2.symm, fun hk => ?_⟩
  exact (h1.2 (by rw [← h1.1]; exact hk)).symm
end Go.Proofs.YtpmgccjhflcoiaaDoor
