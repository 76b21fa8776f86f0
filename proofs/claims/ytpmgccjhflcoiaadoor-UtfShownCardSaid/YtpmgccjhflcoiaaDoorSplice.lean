/-
  Plain law: what an edit makes of a text, byte by byte; two edits in either order. No condition beyond those that each theorem states.
-/
import Derived.Test.YtpmgccjhflcoiaaDoorApply
import Derived.Test.YtpmgccjhflcoiaaDoorRight
namespace Go.Proofs.YtpmgccjhflcoiaaDoor
open Go.RowKit
set_option linter.unusedSimpArgs false
set_option linter.unusedVariables false

def appL (l : List UInt8) (a c : Nat) (p : List UInt8) : List UInt8 := l.take a ++ p ++ l.drop (a + c)
theorem appL_parts (X C Z p : List UInt8) (a c : Nat) (ha : a = X.length) (hc : c = C.length) : appL (X ++ (C ++ Z)) a c p = X ++ p ++ Z := by
  subst ha hc
  unfold appL
  rw [List.take_append_of_le_length (Nat.le_refl _), List.take_length, ← List.append_assoc X C Z, List.drop_append_of_le_length (by simp), List.drop_of_length_le (by simp), List.nil_append]
theorem list_parts (l : List UInt8) (a c : Nat) (h : a + c ≤ l.length) : ∃ X C Z, l = X ++ (C ++ Z) ∧ X.length = a ∧ C.length = c :=
  ⟨l.take a, (l.drop a).take c, l.drop (a + c), by rw [← List.drop_drop, List.take_append_drop, List.take_append_drop], by simp; omega, by simp; omega⟩
theorem app_list (s : ByteArray) (a c : Nat) (put : ByteArray) (h : a + c ≤ s.size) : (applied s a c put).data.toList = appL s.data.toList a c put.data.toList := by
  unfold applied appL
  rw [ByteArray.data_append, ByteArray.data_append, Array.toList_append, Array.toList_append, Lib.extract_data, Lib.extract_to_end, List.drop_zero, Nat.sub_zero]
theorem app_size (s : ByteArray) (a c : Nat) (put : ByteArray) (h : a + c ≤ s.size) : (applied s a c put).size = s.size - c + put.size := by
  unfold applied
  rw [ByteArray.size_append, ByteArray.size_append, ByteArray.size_extract, ByteArray.size_extract]
  omega
theorem bytes_ext {s t : ByteArray} (h : s.data.toList = t.data.toList) : s = t := ByteArray.ext (Array.toList_inj.1 h)
theorem byteAt_l (s : ByteArray) (i : Nat) (h : i < s.size) : byteAt s i = (s.data.toList.getD i 0).toNat := by
  unfold byteAt
  rw [Utf8W.get!_of_lt s i h, List.getD_eq_getElem?_getD, List.getElem?_eq_getElem (by rw [← Lib.size_eq]; exact h)]
  rfl
theorem app_right (s : ByteArray) (a c : Nat) (put : ByteArray) (h : a + c ≤ s.size) (p : Nat) (h1 : a + c ≤ p) (h2 : p < s.size) : byteAt (applied s a c put) (p - c + put.size) = byteAt s p := by
  have hz := app_size s a c put h
  rw [byteAt_l _ _ (by omega), byteAt_l s p h2, app_list s a c put h]
  obtain ⟨X, C, Z, e, hX, hC⟩ := list_parts s.data.toList a c (by rw [← Lib.size_eq]; exact h)
  rw [e, appL_parts X C Z _ a c hX.symm hC.symm]
  have hp : put.data.toList.length = put.size := (Lib.size_eq put).symm
  congr 1
  rw [List.getD_eq_getElem?_getD, List.getD_eq_getElem?_getD, List.getElem?_append_right (by simp; omega), List.getElem?_append_right (by omega), List.getElem?_append_right (by omega)]
  congr 2
  simp; omega
theorem app_left (s : ByteArray) (a c : Nat) (put : ByteArray) (h : a + c ≤ s.size) (p : Nat) (h1 : p < a) : byteAt (applied s a c put) p = byteAt s p := by
  have hz := app_size s a c put h
  rw [byteAt_l _ _ (by omega), byteAt_l s p (by omega), app_list s a c put h]
  obtain ⟨X, C, Z, e, hX, hC⟩ := list_parts s.data.toList a c (by rw [← Lib.size_eq]; exact h)
  rw [e, appL_parts X C Z _ a c hX.symm hC.symm]
  congr 1
  rw [List.getD_eq_getElem?_getD, List.getD_eq_getElem?_getD, List.getElem?_append_left (by simp; omega), List.getElem?_append_left (by omega), List.getElem?_append_left (by omega)]
/-- two edits, of which the second one is wholly behind what the first one cuts -/
theorem app_commute (s : ByteArray) (a c b d : Nat) (p q : ByteArray) (h1 : a + c ≤ b) (h2 : b + d ≤ s.size) :
    applied (applied s a c p) (b - c + p.size) d q = applied (applied s b d q) a c p := by
  have z1 := app_size s a c p (by omega)
  have z2 := app_size s b d q h2
  apply bytes_ext
  rw [app_list (applied s a c p) (b - c + p.size) d q (by omega), app_list (applied s b d q) a c p (by omega), app_list s a c p (by omega), app_list s b d q h2]
  have hp : p.data.toList.length = p.size := (Lib.size_eq p).symm
  obtain ⟨X, D, Z, e, hX, hD⟩ := list_parts s.data.toList b d (by rw [← Lib.size_eq]; exact h2)
  obtain ⟨A, C, M, e2, hA, hC⟩ := list_parts X a c (by omega)
  have hM : A.length + (C.length + M.length) = b := by have := congrArg List.length e2; simp at this; omega
  rw [e, appL_parts X D Z _ b d hX.symm hD.symm, e2]
  rw [show A ++ (C ++ M) ++ (D ++ Z) = A ++ (C ++ (M ++ (D ++ Z))) from by simp only [List.append_assoc], appL_parts A C _ _ a c hA.symm hC.symm]
  rw [show A ++ p.data.toList ++ (M ++ (D ++ Z)) = (A ++ p.data.toList ++ M) ++ (D ++ Z) from by simp only [List.append_assoc], appL_parts _ D Z _ _ d (by simp; omega) hD.symm]
  rw [show A ++ (C ++ M) ++ q.data.toList ++ Z = A ++ (C ++ (M ++ q.data.toList ++ Z)) from by simp only [List.append_assoc], appL_parts A C _ _ a c hA.symm hC.symm]
  simp only [List.append_assoc]
/-- what is done is undone -/
theorem app_back (s : ByteArray) (a c : Nat) (p : ByteArray) (h : a + c ≤ s.size) : applied (applied s a c p) a p.size (s.extract a (a + c)) = s := by
  have z1 := app_size s a c p h
  apply bytes_ext
  rw [app_list (applied s a c p) a p.size _ (by omega), app_list s a c p h]
  have hp : p.data.toList.length = p.size := (Lib.size_eq p).symm
  obtain ⟨X, C, Z, e, hX, hC⟩ := list_parts s.data.toList a c (by rw [← Lib.size_eq]; exact h)
  have e3 : (s.extract a (a + c)).data.toList = C := by
    rw [Lib.extract_data, e, List.drop_append_of_le_length (by omega), List.drop_of_length_le (by omega), List.nil_append, List.take_append_of_le_length (by omega), List.take_of_length_le (by omega)]
  rw [e3, e, appL_parts X C Z _ a c hX.symm hC.symm, show X ++ p.data.toList ++ Z = X ++ (p.data.toList ++ Z) from by simp only [List.append_assoc], appL_parts X _ Z C a p.size hX.symm hp.symm]
  simp only [List.append_assoc]
theorem caretI_nat (s : ByteArray) (p : Nat) (h : p ≤ s.size) : caretI s p = caretN s p := by
  unfold caretI
  rw [decide_eq_true (by omega), Bool.true_and, Int.toNat_natCast]
theorem may_carets {s : ByteArray} {a c : Nat} {put : ByteArray} (h : mayN s a c put = 0) : a + c ≤ s.size ∧ caretN s a = true ∧ caretN s (a + c) = true := by
  have hz := mayN_zero h
  have hac : a + c ≤ s.size := by omega
  unfold mayN at h
  rw [if_neg (by omega)] at h
  have e1 := caretI_nat s a (by omega)
  have e2 := caretI_nat s (a + c) hac
  rw [show ((a + c : Nat) : Int) = (a : Int) + (c : Int) from by omega] at e2
  rw [e1, e2] at h
  refine ⟨hac, ?_, ?_⟩
  · cases hc : caretN s a with
    | true => rfl
    | false => rw [hc, if_pos (Or.inl rfl)] at h; cases h
  · cases hc : caretN s (a + c) with
    | true => rfl
    | false => rw [hc, if_pos (Or.inr rfl)] at h; cases h
theorem may_of {s : ByteArray} {a c : Nat} {put : ByteArray} (h : a + c ≤ s.size) (h1 : caretN s a = true) (h2 : caretN s (a + c) = true) (h3 : s.size - c + put.size ≤ 65536) : mayN s a c put = 0 := by
  unfold mayN
  have e1 := caretI_nat s a (by omega)
  have e2 := caretI_nat s (a + c) h
  rw [show ((a + c : Nat) : Int) = (a : Int) + (c : Int) from by omega] at e2
  rw [if_neg (by omega), e1, e2, h1, h2, if_neg (by simp), if_neg (by omega)]
/-- of a text of signs alone both edits are done in either order -/
theorem right_both (s : ByteArray) (a c b d : Nat) (p q : ByteArray) (hr : rightB s = true) (ha : mayN s a c p = 0) (hb : mayN s b d q = 0) (h : a + c < b) (hs : s.size ≤ 1000) (hp : p.size ≤ 1000) (hq : q.size ≤ 1000) :
    mayN (applied s a c p) (b - c + p.size : Nat) d q = 0 ∧ mayN (applied s b d q) a c p = 0 := by
  obtain ⟨a1, a2, a3⟩ := may_carets ha
  obtain ⟨b1, b2, b3⟩ := may_carets hb
  have z1 := app_size s a c p a1
  have z2 := app_size s b d q b1
  have mv : ∀ x, a + c ≤ x → x ≤ s.size → caretN s x = true → caretN (applied s a c p) (x - c + p.size) = true := by
    intro x x1 x2 x3
    refine caret_of_lead _ _ (by omega) ?_
    rcases Nat.lt_or_ge x s.size with h | h
    · exact Or.inr (by rw [app_right s a c p a1 x x1 h]; exact lead_of_caret s x h hr x3)
    · exact Or.inl (by omega)
  have st : ∀ x, x < b → caretN s x = true → caretN (applied s b d q) x = true := by
    intro x x1 x3
    exact caret_of_lead _ _ (by omega) (Or.inr (by rw [app_left s b d q b1 x x1]; exact lead_of_caret s x (by omega) hr x3))
  refine ⟨may_of (by omega) (mv b (by omega) (by omega) b2) ?_ (by omega), may_of (by omega) (st a (by omega) a2) (st (a + c) (by omega) a3) (by omega)⟩
  have := mv (b + d) (by omega) b1 b3
  rw [show b + d - c + p.size = b - c + p.size + d from by omega] at this
  exact this
end Go.Proofs.YtpmgccjhflcoiaaDoor
