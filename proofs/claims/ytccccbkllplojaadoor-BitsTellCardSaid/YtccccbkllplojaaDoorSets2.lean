/-
  The contracts of package bits once more, told by the numbers of sets. No condition beyond those that each theorem states.
-/
import Derived.Test.YtccccbkllplojaaDoorWorks
namespace Go.Proofs.YtccccbkllplojaaDoor
open Go.RowKit
set_option linter.unusedSimpArgs false
set_option linter.unusedVariables false

/-- a set in memory, of words told -/
structure St (w : World) (v : Value) (t : List Nat) : Prop where
  words : Words w v t
  len : t.length ≤ 1024
  fit : Fit t
theorem St.below {w w' : World} {v : Value} {t : List Nat} (h : St w v t) (hb : Below w.heap.size w w') : St w' v t := ⟨h.words.below hb, h.len, h.fit⟩
section
variable {w : World} {u v : Value} {a b : List Nat}
theorem or_s (hu : St w u a) (hv : St w v b) : Calls Tryd.prog 21 #[u, v] w fun e w' => ∃ v' t, e = .returned v' ∧ St w' v' t ∧ Tidy t ∧ Hid (∀ k, has t k = (has a k || has b k)) ∧ Below w.heap.size w w' := by
  refine (or_ok w u v a b hu.words hv.words hu.len hv.len hu.fit hv.fit).mono ?_
  rintro e w' ⟨v', t, rfl, ho, hl, ht, hf, hg, hb⟩
  exact ⟨v', t, rfl, ⟨ho.words, hl, hf⟩, ht, has_or hg, hb⟩
theorem and_s (hu : St w u a) (hv : St w v b) : Calls Tryd.prog 22 #[u, v] w fun e w' => ∃ v' t, e = .returned v' ∧ St w' v' t ∧ Tidy t ∧ Hid (∀ k, has t k = (has a k && has b k)) ∧ Below w.heap.size w w' := by
  refine (and_ok w u v a b hu.words hv.words hu.len hv.len hu.fit hv.fit).mono ?_
  rintro e w' ⟨v', t, rfl, ho, hl, ht, hf, hg, hb⟩
  exact ⟨v', t, rfl, ⟨ho.words, hl, hf⟩, ht, has_and hg, hb⟩
theorem less_s (hu : St w u a) (hv : St w v b) : Calls Tryd.prog 23 #[u, v] w fun e w' => ∃ v' t, e = .returned v' ∧ St w' v' t ∧ Tidy t ∧ Hid (∀ k, has t k = (has a k && !has b k)) ∧ Below w.heap.size w w' := by
  refine (less_ok w u v a b hu.words hv.words hu.len hv.len hu.fit hv.fit).mono ?_
  rintro e w' ⟨v', t, rfl, ho, hl, ht, hf, hg, hb⟩
  exact ⟨v', t, rfl, ⟨ho.words, hl, hf⟩, ht, has_less hv.fit hg, hb⟩
theorem with_s (n : Int) (hu : St w u a) : Calls Tryd.prog 19 #[u, .int .i64 n] w fun e w' => ∃ v' t, e = .returned v' ∧ St w' v' t ∧ Tidy t ∧ Hid (∀ k : Nat, has t k = true ↔ has a k = true ∨ ((k : Int) = n ∧ k < 65536)) ∧ Below w.heap.size w w' := by
  refine (with_ok w u a n hu.words hu.len hu.fit).mono ?_
  rintro e w' ⟨v', t, rfl, ho, hl, ht, hf, hg, hb⟩
  exact ⟨v', t, rfl, ⟨ho.words, hl, hf⟩, ht, hg, hb⟩
theorem without_s (n : Int) (hu : St w u a) : Calls Tryd.prog 20 #[u, .int .i64 n] w fun e w' => ∃ v' t, e = .returned v' ∧ St w' v' t ∧ Tidy t ∧ Hid (∀ k : Nat, has t k = true ↔ has a k = true ∧ ¬ (k : Int) = n) ∧ Below w.heap.size w w' := by
  refine (without_ok w u a n hu.words hu.len hu.fit).mono ?_
  rintro e w' ⟨v', t, rfl, ho, hl, ht, hf, hg, hb⟩
  exact ⟨v', t, rfl, ⟨ho.words, hl, hf⟩, ht, hg, hb⟩
theorem same_true (hu : St w u a) (hv : St w v b) (h : ∀ k, has a k = has b k) : Calls Tryd.prog 10 #[u, v] w fun e w' => e = .returned (.bool true) ∧ w = w' := by
  have := same_ok w u v a b hu.words hv.words hu.len hv.len
  rwa [decide_eq_true ((seen_eq_iff hu.fit hv.fit).2 h)] at this
theorem same_false (hu : St w u a) (hv : St w v b) (h : ¬ ∀ k, has a k = has b k) : Calls Tryd.prog 10 #[u, v] w fun e w' => e = .returned (.bool false) ∧ w = w' := by
  have := same_ok w u v a b hu.words hv.words hu.len hv.len
  rwa [decide_eq_false (fun e => h ((seen_eq_iff hu.fit hv.fit).1 e))] at this
theorem count_s (hu : St w u a) : Calls Tryd.prog 12 #[u] w fun e w' => e = .returned (.int .i64 ((lst a).length : Nat)) ∧ w = w' :=
  count_ok w u a hu.words hu.len hu.fit
theorem key_s (hu : St w u a) : Calls Tryd.prog 11 #[u] w fun e w' => e = .returned (.string (keyOf' a)) ∧ Below w.heap.size w w' :=
  key_ok w u a hu.words hu.len hu.fit
theorem list_s (hu : St w u a) (hT : Tab 0 w) : Calls Tryd.prog 7 #[u] w fun e w' => ∃ v', e = .returned v' ∧ OwnI w.heap.size w' v' (lst a) ∧ Below w.heap.size w w' :=
  list_ok w u a hu.words hu.len hu.fit hT
theorem rlist_s (hu : St w u a) : Calls Tryd.prog 14 #[u] w fun e w' => ∃ v', e = .returned v' ∧ OwnI w.heap.size w' v' (lst a) ∧ Below w.heap.size w w' :=
  rlist_ok w u a hu.words hu.len hu.fit
theorem next_s (hu : St w u a) (hT : Tab 0 w) (n : Int) (hn : n ≤ 9223372036854775807) : Calls Tryd.prog 8 #[u, .int .i64 n] w fun e w' => ∃ r, e = .returned (.int .i64 r) ∧ IsNext a n r ∧ w = w' :=
  next_ok w u a n hn hu.words hu.len hu.fit hT
theorem has_s (hu : St w u a) (n : Int) : Calls Tryd.prog 17 #[u, .int .i64 n] w fun e w' => e = .returned (.bool (decide (0 ≤ n ∧ n < 65536) && has a n.toNat)) ∧ w = w' :=
  has_ok w u a n hu.words hu.len hu.fit
theorem rhasn_s (hu : St w u a) (n : Int) : Calls Tryd.prog 18 #[u, .int .i64 n] w fun e w' => e = .returned (.bool (decide (0 ≤ n ∧ n < 65536) && has a n.toNat)) ∧ w = w' :=
  rhas_ok w u a n hu.words hu.len hu.fit
theorem nil_s (w : World) : St w (.slice none 0 0) [] := ⟨⟨none, 0, rfl, by simp, fun _ => rfl, fun i hi => by simp at hi⟩, by simp, fun x hx => by simp at hx⟩
end
theorem lst_le {a : List Nat} (h : a.length ≤ 1024) : (lst a).length ≤ 65536 := by
  rw [← cnt_lst]; have := cnt_le a; omega
theorem filter_two (L : List Nat) (p q : Nat → Bool) : (L.filter (fun k => p k || q k)).length + (L.filter (fun k => p k && q k)).length = (L.filter p).length + (L.filter q).length := by
  induction L with
  | nil => rfl
  | cons x r ih =>
    simp only [List.filter_cons]
    cases p x <;> cases q x <;> simp <;> omega
theorem count_two {a b s t : List Nat} (hs : ∀ k, has s k = (has a k || has b k)) (ht : ∀ k, has t k = (has a k && has b k)) : (lst s).length + (lst t).length = (lst a).length + (lst b).length := by
  have hM : ∃ M, 64 * a.length ≤ M ∧ 64 * b.length ≤ M ∧ 64 * s.length ≤ M ∧ 64 * t.length ≤ M := ⟨64 * (a.length + b.length + s.length + t.length), by omega, by omega, by omega, by omega⟩
  obtain ⟨M, h1, h2, h3, h4⟩ := hM
  rw [← lst_range a M h1, ← lst_range b M h2, ← lst_range s M h3, ← lst_range t M h4]
  have e1 : has s = fun k => has a k || has b k := funext hs
  have e2 : has t = fun k => has a k && has b k := funext ht
  rw [e1, e2]
  exact filter_two (List.range M) (has a) (has b)
theorem count_zero {a : List Nat} (h : ∀ k, has a k = false) : (lst a).length = 0 := by
  unfold lst
  rw [List.filter_eq_nil_iff.2 (fun k _ => by rw [h]; simp)]
  rfl
end Go.Proofs.YtccccbkllplojaaDoor
