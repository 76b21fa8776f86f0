/-
  Plain facts for the walk of BitsTell. No condition beyond those that each theorem states.
-/
import Derived.Test.YtccccbkllplojaaDoorTellR
namespace Go.Proofs.YtccccbkllplojaaDoor
open Go.RowKit Go.Maps
set_option linter.unusedSimpArgs false
set_option linter.unusedVariables false

theorem lst_sorted (a : List Nat) : (lst a).Pairwise (· < ·) := List.Pairwise.filter _ List.pairwise_lt_range
theorem take_lt {L : List Nat} (h : L.Pairwise (· < ·)) {q m : Nat} (hm : m ∈ L.take q) (hq : q < L.length) : m < L.getD q 0 := by
  obtain ⟨i, hi, rfl⟩ := List.getElem_of_mem hm
  have hi' : i < q := by simp at hi; omega
  rw [getD_lt L q hq, List.getElem_take]
  exact List.pairwise_iff_getElem.1 h i q (by omega) hq hi'
theorem mem_take_n (l : List Nat) (q : Nat) (h : q < l.length) (x : Nat) : x ∈ l.take (q + 1) ↔ x ∈ l.take q ∨ x = l.getD q 0 := by
  rw [getD_lt l q h, List.take_add_one, List.getElem?_eq_getElem h, List.mem_append]
  simp
/-- the first of the numbers ahead of a place that is not below n -/
def NxUp (L : List Nat) (n : Int) (q : Nat) (nx : Int) : Prop :=
  (nx = -1 ∧ ∀ m ∈ L.take q, (m : Int) < n) ∨ ∃ m : Nat, nx = m ∧ m ∈ L.take q ∧ n ≤ m ∧ ∀ k ∈ L.take q, n ≤ (k : Int) → m ≤ k
theorem NxUp.set {L : List Nat} {n : Int} {q : Nat} {nx : Int} (h : NxUp L n q nx) (h0 : nx < 0) (hq : q < L.length) (hx : n ≤ (L.getD q 0 : Int)) : NxUp L n (q + 1) (L.getD q 0 : Int) := by
  rcases h with ⟨_, h⟩ | ⟨m, rfl, _⟩
  · right
    refine ⟨_, rfl, (mem_take_n L q hq _).2 (Or.inr rfl), hx, fun k hk hn => ?_⟩
    rcases (mem_take_n L q hq k).1 hk with h' | rfl
    · have := h k h'; omega
    · exact Nat.le_refl _
  · omega
theorem NxUp.low {L : List Nat} {n : Int} {q : Nat} {nx : Int} (h : NxUp L n q nx) (hq : q < L.length) (hx : (L.getD q 0 : Int) < n) : NxUp L n (q + 1) nx := by
  rcases h with ⟨rfl, h⟩ | ⟨m, rfl, h1, h2, h3⟩
  · left
    refine ⟨rfl, fun k hk => ?_⟩
    rcases (mem_take_n L q hq k).1 hk with h' | rfl
    · exact h k h'
    · exact hx
  · right
    refine ⟨m, rfl, (mem_take_n L q hq _).2 (Or.inl h1), h2, fun k hk hn => ?_⟩
    rcases (mem_take_n L q hq k).1 hk with h' | rfl
    · exact h3 k h' hn
    · omega
theorem NxUp.keep {L : List Nat} {n : Int} {q : Nat} {nx : Int} (h : NxUp L n q nx) (h0 : ¬ nx < 0) (hs : L.Pairwise (· < ·)) (hq : q < L.length) : NxUp L n (q + 1) nx := by
  rcases h with ⟨rfl, h⟩ | ⟨m, rfl, h1, h2, h3⟩
  · omega
  · right
    refine ⟨m, rfl, (mem_take_n L q hq _).2 (Or.inl h1), h2, fun k hk hn => ?_⟩
    rcases (mem_take_n L q hq k).1 hk with h' | rfl
    · exact h3 k h' hn
    · have := take_lt hs h1 hq; omega
theorem NxUp.next {a : List Nat} {n nx : Int} {q : Nat} (h : NxUp (lst a) n q nx) (hq : q = (lst a).length) : IsNext a n nx := by
  subst hq
  unfold NxUp at h
  rw [List.take_length] at h
  rcases h with ⟨rfl, h⟩ | ⟨m, rfl, h1, h2, h3⟩
  · exact Or.inl ⟨rfl, fun m hm => h m ((mem_lst a m).2 hm)⟩
  · exact Or.inr ⟨m, rfl, (mem_lst a m).1 h1, h2, fun k hk hn => h3 k ((mem_lst a k).2 hk) hn⟩
/-- what is put into the row of those with n, and into the one of those without it -/
structure Rows2 (L : List Nat) (n : Int) (q : Nat) (hd : Bool) (lw lo : List Nat) (e : Nat) : Prop where
  rng : hd = false → 0 ≤ n ∧ n < 65536
  mw : ∀ m, m ∈ lw ↔ (m ∈ L.take q ∧ ¬ (m : Int) = n) ∨ (hd = true ∧ (m : Int) = n ∧ m < 65536)
  mo : ∀ m, m ∈ lo ↔ m ∈ L.take q ∧ ¬ (m : Int) = n
  lw : lw.length ≤ 2 * q + e
  lo : lo.length ≤ q
theorem Rows2.put {L : List Nat} {q : Nat} {lw lo : List Nat} {m0 : Nat} (h : Rows2 L (m0 : Int) q false lw lo 0) : Rows2 L (m0 : Int) q true (lw ++ [m0]) lo 1 := by
  refine ⟨(fun e => nomatch e), fun m => ?_, h.mo, by have := h.lw; simp; omega, h.lo⟩
  rw [List.mem_append, h.mw]
  simp only [List.mem_singleton]
  constructor
  · rintro ((h1 | ⟨h1, _⟩) | rfl)
    · exact Or.inl h1
    · cases h1
    · have := (h.rng rfl).2; exact Or.inr ⟨trivial, rfl, by omega⟩
  · rintro (h1 | ⟨_, h1, _⟩)
    · exact Or.inl (Or.inl h1)
    · exact Or.inr (by omega)
theorem Rows2.more {L : List Nat} {n : Int} {q : Nat} {hd : Bool} {lw lo : List Nat} (h : Rows2 L n q hd lw lo 1) (hq : q < L.length) (hx : ¬ ((L.getD q 0 : Nat) : Int) = n) : Rows2 L n (q + 1) hd (lw ++ [L.getD q 0]) (lo ++ [L.getD q 0]) 0 := by
  have hm := mem_take_n L q hq
  refine ⟨h.rng, fun m => ?_, fun m => ?_, by have := h.lw; simp; omega, by have := h.lo; simp; omega⟩
  · rw [List.mem_append, h.mw, hm]
    simp only [List.mem_singleton]
    constructor
    · rintro ((⟨h1, h2⟩ | h1) | rfl)
      · exact Or.inl ⟨Or.inl h1, h2⟩
      · exact Or.inr h1
      · exact Or.inl ⟨Or.inr rfl, hx⟩
    · rintro (⟨h1 | h1, h2⟩ | h1)
      · exact Or.inl (Or.inl ⟨h1, h2⟩)
      · exact Or.inr h1
      · exact Or.inl (Or.inr h1)
  · rw [List.mem_append, h.mo, hm]
    simp only [List.mem_singleton]
    constructor
    · rintro (⟨h1, h2⟩ | rfl)
      · exact ⟨Or.inl h1, h2⟩
      · exact ⟨Or.inr rfl, hx⟩
    · rintro ⟨h1 | h1, h2⟩
      · exact Or.inl ⟨h1, h2⟩
      · exact Or.inr h1
theorem Rows2.skip {L : List Nat} {n : Int} {q : Nat} {hd : Bool} {lw lo : List Nat} (h : Rows2 L n q hd lw lo 1) (hq : q < L.length) (hx : ((L.getD q 0 : Nat) : Int) = n) : Rows2 L n (q + 1) hd lw lo 0 := by
  have hm := mem_take_n L q hq
  have key : ∀ m, (m ∈ L.take (q + 1) ∧ ¬ (m : Int) = n) ↔ (m ∈ L.take q ∧ ¬ (m : Int) = n) := fun m => by
    rw [hm]
    constructor
    · rintro ⟨h1 | rfl, h2⟩
      · exact ⟨h1, h2⟩
      · exact absurd hx h2
    · rintro ⟨h1, h2⟩; exact ⟨Or.inl h1, h2⟩
  exact ⟨h.rng, fun m => by rw [h.mw, key], fun m => by rw [h.mo, key], by have := h.lw; omega, by have := h.lo; omega⟩
theorem Rows2.one {L : List Nat} {n : Int} {q : Nat} {hd : Bool} {lw lo : List Nat} (h : Rows2 L n q hd lw lo 0) : Rows2 L n q hd lw lo 1 := ⟨h.rng, h.mw, h.mo, by have := h.lw; omega, h.lo⟩

theorem icell {B : Nat} {w : World} {a : Option Addr} {n cap : Nat} {l : List Nat} (h : OwnI B w (.slice a n cap) l) (q : Nat) (hq : q < l.length) : ∃ g, a = some ⟨g, 0, none⟩ ∧ w.cell? ⟨g, q, none⟩ = some (.int .i64 ((l.getD q 0 : Nat) : Int)) := by
  unfold OwnI at h
  have h0 := h
  rcases h.2 with ⟨e, h0⟩ | ⟨g, cap', cur, e, _⟩
  · omega
  · cases e
    refine ⟨g, rfl, ?_⟩
    rw [World.ownsRow.cellAt h q (by omega), getD_lt l q hq]
    simp [hq]
theorem ishape {B : Nat} {w : World} {v : Value} {l : List Nat} (h : OwnI B w v l) : ∃ a cap, v = .slice a l.length cap := by
  unfold OwnI at h
  rcases h.2 with ⟨rfl, h0⟩ | ⟨g, cap, cur, rfl, _⟩
  · exact ⟨none, 0, by rw [h0]⟩
  · exact ⟨_, _, rfl⟩
end Go.Proofs.YtccccbkllplojaaDoor
