/-
  Contracts of the calls of package stack that only tell: Long, has, Ret, At, Find, Links. No condition beyond those that each theorem states.
-/
import Derived.Test.YtlnhganinomaaaaBase
namespace Go.Proofs.Ytlnhganinomaaaa
open Go.RowKit Go.Maps
set_option linter.unusedSimpArgs false
set_option linter.unusedVariables false

theorem flat_at (pl : List (Int × Int)) (i : Nat) (hi : i < pl.length) : (pl.flatMap pcell)[i * 2]? = some (.int .i64 pl[i].1) ∧ (pl.flatMap pcell)[i * 2 + 1]? = some (.int .i64 pl[i].2) := by
  induction pl generalizing i with
  | nil => simp at hi
  | cons p r ih =>
    cases i with
    | zero => simp [pcell]
    | succ i =>
      have := ih i (by simpa using hi)
      rw [show (i + 1) * 2 = i * 2 + 2 from by omega, show i * 2 + 2 + 1 = i * 2 + 1 + 2 from by omega]
      simpa [pcell] using this

section
variable {w : World} {B s mn ml N : Nat} {ql : List (Value × Value)} {pl : List (Int × Int)} {us : List (List Int)} {pv uv : Value} {vs : List Value}

theorem Inv.pos (h : Inv N pl us) : 0 < pl.length := by
  obtain ⟨r, hr, _⟩ := h.root
  rw [hr]; simp

theorem long_st (h : St w B s (nodesOf pl) ql pl us pv uv vs mn ml) : Calls Try.prog 8 #[.pointer (some ⟨s, 0, none⟩)] w fun e w' => e = .returned (.int .i64 pl.length) ∧ w = w' := by
  obtain ⟨a, cap, rfl⟩ := ownsRow_shape h.prow
  have c0 : w.cell? ⟨s, 0, none⟩ = some (.slice a pl.length cap) := blk_cell h.hd rfl
  go_enter Try.func8, Try.ntmps8
  go_wp2
  go_ret
  exact ⟨rfl, rfl⟩

theorem links_st (h : St w B s (nodesOf pl) ql pl us pv uv vs mn ml) : Calls Try.prog 13 #[.pointer (some ⟨s, 0, none⟩)] w fun e w' => e = .returned (.int .i64 (ql.length : Nat)) ∧ w = w' := by
  have hl := h.links.len Try.underlying41 3
  have c3 : w.cell? ⟨s, 3, none⟩ = some (.map (some ml)) := blk_cell h.hd rfl
  go_enter Try.func13, Try.ntmps13
  go_wp2
  go_ret
  exact ⟨rfl, rfl⟩

theorem has_st (h : St w B s (nodesOf pl) ql pl us pv uv vs mn ml) (hpl : pl.length ≤ 100000) (n : Int) : Calls Try.prog 16 #[.pointer (some ⟨s, 0, none⟩), .int .i64 n] w fun e w' => e = .returned (.bool (decide (0 ≤ n ∧ n < pl.length))) ∧ w = w' := by
  obtain ⟨a, cap, rfl⟩ := ownsRow_shape h.prow
  have c0 : w.cell? ⟨s, 0, none⟩ = some (.slice a pl.length cap) := blk_cell h.hd rfl
  by_cases h0 : 0 ≤ n
  · by_cases h1 : n < pl.length
    · go_enter Try.func16, Try.ntmps16
      go_wp2
      go_ret
      exact ⟨by simp [h0, h1], rfl⟩
    · go_enter Try.func16, Try.ntmps16
      go_wp2
      go_ret
      exact ⟨by simp [h0, h1], rfl⟩
  · go_enter Try.func16, Try.ntmps16
    go_wp2
    go_ret
    exact ⟨by rw [show decide (0 ≤ n) = false from by simp; omega]; rfl, rfl⟩

theorem ret_st (h : St w B s (nodesOf pl) ql pl us pv uv vs mn ml) (hpl : pl.length ≤ 100000) (i : Nat) (hi : i < pl.length) : Calls Try.prog 10 #[.pointer (some ⟨s, 0, none⟩), .int .i64 i] w fun e w' => e = .returned (.int .i64 pl[i].1) ∧ w = w' := by
  have hh := has_st h hpl i
  rw [show decide ((0 : Int) ≤ i ∧ (i : Int) < pl.length) = true from by simp; omega] at hh
  obtain ⟨g, cap, rfl, hc, _⟩ := ownsRow_cell h.prow (by omega)
  have c0 : w.cell? ⟨s, 0, none⟩ = some (.slice (some ⟨g, 0, none⟩) pl.length cap) := blk_cell h.hd rfl
  have ci : w.cell? ⟨g, i * 2, none⟩ = some (.int .i64 pl[i].1) := (hc _ (by omega)).trans (flat_at pl i hi).1
  generalize pl[i].1 = q at ci ⊢
  clear hc
  go_enter Try.func10, Try.ntmps10
  go_wp2_with (go_at_call 16; refine hh.mono ?_; rintro e w' ⟨rfl, rfl⟩)
  go_ret
  exact ⟨rfl, rfl⟩

theorem at_st (h : St w B s (nodesOf pl) ql pl us pv uv vs mn ml) (hpl : pl.length ≤ 100000) (i : Nat) (hi : i < pl.length) : Calls Try.prog 11 #[.pointer (some ⟨s, 0, none⟩), .int .i64 i] w fun e w' => e = .returned (.int .i64 pl[i].2) ∧ w = w' := by
  have hh := has_st h hpl i
  rw [show decide ((0 : Int) ≤ i ∧ (i : Int) < pl.length) = true from by simp; omega] at hh
  obtain ⟨g, cap, rfl, hc, _⟩ := ownsRow_cell h.prow (by omega)
  have c0 : w.cell? ⟨s, 0, none⟩ = some (.slice (some ⟨g, 0, none⟩) pl.length cap) := blk_cell h.hd rfl
  have ci : w.cell? ⟨g, i * 2 + 1, none⟩ = some (.int .i64 pl[i].2) := (hc _ (by omega)).trans (flat_at pl i hi).2
  generalize pl[i].2 = q at ci ⊢
  clear hc
  go_enter Try.func11, Try.ntmps11
  go_wp2_with (go_at_call 16; refine hh.mono ?_; rintro e w' ⟨rfl, rfl⟩)
  go_ret
  exact ⟨rfl, rfl⟩

theorem mem_nodesFrom {j : Nat} {r : List (Int × Int)} {x : Value × Value} : x ∈ nodesFrom j r ↔ ∃ i, ∃ hi : i < r.length, x = (agg2 r[i].1 r[i].2, .int .i64 ((j + i : Nat) : Int)) := by
  induction r generalizing j with
  | nil => simp [nodesFrom]
  | cons p r ih =>
    rw [nodesFrom, List.mem_cons, ih]
    constructor
    · rintro (rfl | ⟨i, hi, rfl⟩)
      · exact ⟨0, by simp, rfl⟩
      · exact ⟨i + 1, by simpa using hi, by simp; omega⟩
    · rintro ⟨i, hi, rfl⟩
      cases i with
      | zero => left; rfl
      | succ i => right; exact ⟨i, by simpa using hi, by simp; omega⟩

theorem mem_nodesOf {x : Value × Value} : x ∈ nodesOf pl ↔ ∃ i, ∃ hi : i < pl.length, 0 < i ∧ x = (agg2 pl[i].1 pl[i].2, .int .i64 (i : Int)) := by
  unfold nodesOf
  rw [mem_nodesFrom]
  constructor
  · rintro ⟨i, hi, rfl⟩
    simp at hi
    refine ⟨1 + i, by omega, by omega, ?_⟩
    simp [Nat.add_comm]
  · rintro ⟨i, hi, h0, rfl⟩
    obtain ⟨k, rfl⟩ : ∃ k, i = 1 + k := ⟨i - 1, by omega⟩
    refine ⟨k, by simp; omega, ?_⟩
    simp [Nat.add_comm]

theorem agg2_inj {a b c d : Int} (h : agg2 a b = agg2 c d) : a = c ∧ b = d := by
  simpa [agg2] using h

theorem Inv.ok (h : Inv N pl us) (i : Nat) (hi : i < pl.length) (h0 : 0 < i) : (0 ≤ pl[i].1 ∧ i64ok pl[i].1) ∧ (0 ≤ pl[i].2 ∧ i64ok pl[i].2) := by
  obtain ⟨r, rfl, hr⟩ := h.root
  cases i with
  | zero => omega
  | succ i =>
    have : i < r.length := by simpa using hi
    exact hr _ (by simp)

theorem Inv.nodes_ok (h : Inv N pl us) : ∀ p ∈ nodesOf pl, ∃ l, keyOf Try.prog 46 p.1 = some l := by
  intro p hp
  obtain ⟨i, hi, h0, rfl⟩ := mem_nodesOf.1 hp
  have := h.ok i hi h0
  exact key46 this.1.2 this.2.2

/-- is a node there? -/
theorem look_st (h : St w B s (nodesOf pl) ql pl us pv uv vs mn ml) (hI : Inv N pl us) {a b : Int} (ha : 0 ≤ a ∧ i64ok a) (hb : i64ok b) :
    ((a, b) ∉ pl ∧ (Instr.lookup 40 (.map (some mn)) (agg2 a b) true).run Try.prog w = .ok (.tuple #[.int .i64 0, .bool false]) w) ∨
    ∃ i, ∃ hi : i < pl.length, 0 < i ∧ pl[i] = (a, b) ∧ (Instr.lookup 40 (.map (some mn)) (agg2 a b) true).run Try.prog w = .ok (.tuple #[.int .i64 i, .bool true]) w := by
  obtain ⟨kl, hkl⟩ := key46 ha.2 hb
  rcases h.nodes.look law46 Try.underlying40 (zero3 w) hI.nodes_ok hkl with ⟨h1, h2⟩ | ⟨v, h1, h2⟩
  · left
    refine ⟨fun hm => ?_, h1⟩
    obtain ⟨i, hi, e⟩ := List.getElem_of_mem hm
    have h0 : 0 < i := by
      rcases Nat.eq_zero_or_pos i with rfl | h0
      · obtain ⟨r, rfl, _⟩ := hI.root
        simp only [List.getElem_cons_zero, Prod.mk.injEq] at e
        omega
      · exact h0
    exact h2 _ (mem_nodesOf.2 ⟨i, hi, h0, rfl⟩) (by rw [e]; rfl)
  · right
    obtain ⟨i, hi, h0, e⟩ := mem_nodesOf.1 h2
    simp only [Prod.mk.injEq] at e
    obtain ⟨e1, rfl⟩ := e
    have := agg2_inj e1
    exact ⟨i, hi, h0, by ext <;> simp [this.1, this.2], h1⟩

theorem find_st (h : St w B s (nodesOf pl) ql pl us pv uv vs mn ml) (hI : Inv N pl us) (hN : N ≤ 1000) (i : Nat) (hi : i < pl.length) (h0 : 0 < i) :
    Calls Try.prog 12 #[.pointer (some ⟨s, 0, none⟩), .int .i64 pl[i].1, .int .i64 pl[i].2] w fun e w' => e = .returned (.int .i64 i) ∧ w = w' := by
  have hok := hI.ok i hi h0
  have hl := long_st h
  have hps := hI.size
  have hpos : ((pl.length : Int) == 0) = false := by rw [beq_eq_false_iff_ne]; omega
  have c2 : w.cell? ⟨s, 2, none⟩ = some (.map (some mn)) := blk_cell h.hd rfl
  have hlook : (Instr.lookup 40 (.map (some mn)) (.agg #[.int .i64 pl[i].1, .int .i64 pl[i].2]) true).run Try.prog w = .ok (.tuple #[.int .i64 i, .bool true]) w := by
    rcases look_st h hI hok.1 hok.2.2 with ⟨h1, _⟩ | ⟨j, hj, _, e, h1⟩
    · exact absurd (List.getElem_mem hi) h1
    · have : j = i := (List.getElem_inj hI.nd).1 e
      subst this
      exact h1
  generalize pl[i].1 = q1 at hlook ⊢
  generalize pl[i].2 = q2 at hlook ⊢
  clear hok
  go_enter Try.func12, Try.ntmps12
  go_wp2_with (go_at_call 8; refine hl.mono ?_; rintro e w' ⟨rfl, rfl⟩)
  go_ret
  exact ⟨rfl, rfl⟩
end
end Go.Proofs.Ytlnhganinomaaaa
