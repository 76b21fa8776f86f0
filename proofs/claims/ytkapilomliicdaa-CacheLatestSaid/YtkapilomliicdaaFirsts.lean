/-
  Plain facts on lists: the first ones of their kind, as many as there is room for. No condition.
-/
import Derived.Test.YtkapilomliicdaaPut
namespace Go.Proofs.Ytkapilomliicdaa
set_option linter.unusedSimpArgs false
set_option linter.unusedVariables false
open Classical

/-- each one where it stands first -/
noncomputable def firsts : List ByteArray → List ByteArray
  | [] => []
  | k :: r => k :: (firsts r).filter (fun x => x ≠ k)

theorem firsts_cons (k : ByteArray) (r : List ByteArray) : firsts (k :: r) = k :: (firsts r).filter (fun x => x ≠ k) := rfl

theorem firsts_nodup (l : List ByteArray) : (firsts l).Nodup := by
  induction l with
  | nil => exact List.nodup_nil
  | cons k r ih =>
    unfold firsts
    rw [List.nodup_cons]
    exact ⟨fun h => by simpa using (List.mem_filter.1 h).2, ih.filter _⟩
theorem mem_firsts {l : List ByteArray} {x : ByteArray} (h : x ∈ firsts l) : x ∈ l := by
  induction l with
  | nil => cases h
  | cons k r ih =>
    unfold firsts at h
    rcases List.mem_cons.1 h with h | h
    · simp [h]
    · exact List.mem_cons_of_mem _ (ih (List.mem_filter.1 h).1)
theorem firsts_length (l : List ByteArray) : (firsts l).length ≤ l.length := by
  induction l with
  | nil => exact Nat.le_refl _
  | cons k r ih =>
    unfold firsts
    have := List.length_filter_le (fun x => decide (x ≠ k)) (firsts r)
    simp only [List.length_cons]
    omega

theorem filter_take (k : ByteArray) : ∀ (l : List ByteArray) (R : Nat), l.Nodup → k ∈ l.take R → (l.take R).filter (fun x => x ≠ k) = (l.filter (fun x => x ≠ k)).take (R - 1)
  | [], _, _, h => by simp at h
  | a :: l, 0, _, h => by simp at h
  | a :: l, R + 1, hn, h => by
    rw [List.nodup_cons] at hn
    rw [List.take_succ_cons, List.filter_cons, List.filter_cons]
    by_cases hak : a = k
    · subst hak
      rw [if_neg (by simp), if_neg (by simp)]
      have h1 : l.filter (fun x => x ≠ a) = l := by
        rw [List.filter_eq_self]
        intro x hx
        simp
        rintro rfl
        exact hn.1 hx
      have h2 : (l.take R).filter (fun x => x ≠ a) = l.take R := by
        rw [List.filter_eq_self]
        intro x hx
        simp
        rintro rfl
        exact hn.1 (List.mem_of_mem_take hx)
      rw [h1, h2]
      simp
    · rw [if_pos (by simpa using hak), if_pos (by simpa using hak)]
      have hm : k ∈ l.take R := by
        rw [List.take_succ_cons] at h
        rcases List.mem_cons.1 h with h | h
        · exact absurd h.symm hak
        · exact h
      have hR : 0 < R := by
        rcases Nat.eq_zero_or_pos R with h0 | h0
        · subst h0; simp at hm
        · exact h0
      rw [filter_take k l R hn.2 hm, show R + 1 - 1 = (R - 1) + 1 from by omega, List.take_succ_cons]

theorem filter_take_not (k : ByteArray) : ∀ (l : List ByteArray) (R : Nat), k ∉ l.take R → (l.filter (fun x => x ≠ k)).take R = l.take R
  | [], _, _ => by simp
  | a :: l, 0, _ => by simp
  | a :: l, R + 1, h => by
    rw [List.take_succ_cons] at h
    simp only [List.mem_cons, not_or] at h
    rw [List.filter_cons, if_pos (by simpa using Ne.symm h.1), List.take_succ_cons, List.take_succ_cons, filter_take_not k l R h.2]

/-- what one more put makes of what is kept -/
theorem put_firsts (R : Nat) (hR : 0 < R) (k : ByteArray) (r : List ByteArray) :
    (k ∈ (firsts r).take R → k :: ((firsts r).take R).filter (fun x => x ≠ k) = (firsts (k :: r)).take R) ∧
    (k ∉ (firsts r).take R → k :: ((firsts r).take R).take (R - 1) = (firsts (k :: r)).take R) := by
  have e : (firsts (k :: r)).take R = k :: ((firsts r).filter (fun x => x ≠ k)).take (R - 1) := by
    conv => lhs; rw [show R = (R - 1) + 1 from by omega]
    rw [firsts, List.take_succ_cons]
  constructor
  · intro h
    rw [e, filter_take k _ R (firsts_nodup r) h]
  · intro h
    rw [e, filter_take_not k _ (R - 1) (fun hm => h (by
      have : (firsts r).take (R - 1) = ((firsts r).take R).take (R - 1) := by rw [List.take_take, Nat.min_eq_left (by omega)]
      rw [this] at hm
      exact List.mem_of_mem_take hm)), List.take_take, Nat.min_eq_left (by omega)]

/-- those that are not among others -/
noncomputable def notIn (acc l : List ByteArray) : List ByteArray := l.filter (fun x => x ∉ acc)

/-- going through the list, one by one: what has been taken, and those ahead that are not among it -/
theorem firsts_step (acc : List ByteArray) (k : ByteArray) (r : List ByteArray) :
    acc ++ notIn acc (firsts (k :: r)) = (if k ∈ acc then acc else acc ++ [k]) ++ notIn (if k ∈ acc then acc else acc ++ [k]) (firsts r) := by
  unfold notIn
  rw [firsts_cons, List.filter_cons]
  by_cases hk : k ∈ acc
  · rw [if_neg (by simpa using hk), if_pos hk, List.filter_filter]
    congr 1
    apply List.filter_congr
    intro x _
    by_cases hx : x ∈ acc
    · simp [hx]
    · have : x ≠ k := fun e => hx (e ▸ hk)
      simp [hx, this]
  · rw [if_pos (by simpa using hk), if_neg hk, List.filter_filter, List.append_assoc, List.singleton_append]
    congr 2
    apply List.filter_congr
    intro x _
    simp [List.mem_append, not_or]
end Go.Proofs.Ytkapilomliicdaa
