/-
  Contract of Ups of package stack: a row of its own, of the nodes to which a node goes on. No condition beyond those that each theorem states.
-/
import Derived.Test.YtlnhganinomaaaaTells
import Derived.Laws.AppendOwnNone
namespace Go.Proofs.Ytlnhganinomaaaa
open Go.RowKit Go.Maps
set_option linter.unusedSimpArgs false
set_option linter.unusedVariables false

theorem ints_one (l : List Int) : ∀ u ∈ l.map (Value.int .i64), u.oneCell' = true := by
  intro u hu
  obtain ⟨x, _, rfl⟩ := List.mem_map.1 hu
  rfl

/-- the cells of a row that is owned, as append asks for them -/
theorem own_cells {w : World} {B e n : Nat} {g cap : Nat} {xs : List Value} (h : w.ownsRow B e 1 (.slice (some ⟨g, 0, none⟩) n cap) n xs) : ∀ j u, xs[j]? = some u → w.cell? ((⟨g, 0, none⟩ : Addr).add j) = some u := by
  intro j u hu
  have hj : j < xs.length := (List.getElem?_eq_some_iff.1 hu).1
  have hl := h.1
  have := World.ownsRow.cellAt h j (by omega)
  unfold Addr.add
  split
  · rename_i h0; subst h0; rw [this, hu]
  · simpa [hu] using this

theorem ups_st {w : World} {B s mn ml N : Nat} {ql : List (Value × Value)} {pl : List (Int × Int)} {us : List (List Int)} {pv uv : Value} {vs : List Value} (h : St w B s (nodesOf pl) ql pl us pv uv vs mn ml) (hI : Inv N pl us) (hN : N ≤ 1000) (i : Nat) (hi : i < us.length) :
    Calls Try.prog 9 #[.pointer (some ⟨s, 0, none⟩), .int .i64 i] w fun e w' => ∃ v, e = .returned v ∧ w'.ownsRow w.heap.size 3 1 v us[i].length (us[i].map (Value.int .i64)) ∧ Below w.heap.size w w' := by
  have hps := hI.size
  have hul := hI.len
  have hh := has_st h (by omega) i
  rw [show decide ((0 : Int) ≤ i ∧ (i : Int) < pl.length) = true from by simp; omega] at hh
  obtain ⟨v, hv, hown⟩ := h.rows i hi
  obtain ⟨g, cap, rfl, hc, _⟩ := ownsRow_cell h.urow (by omega)
  have c1 : w.cell? ⟨s, 1, none⟩ = some (.slice (some ⟨g, 0, none⟩) us.length cap) := blk_cell h.hd rfl
  have ci : w.cell? ⟨g, i, none⟩ = some v := (hc i (by omega)).trans hv
  have hlen := hI.rsize us[i] (List.getElem_mem _)
  generalize us[i] = l at hown hlen ⊢
  clear hc
  obtain ⟨i0, hi3, hz0, hz1, hz2⟩ := info_parts info3
  rcases hown.2 with ⟨rfl, h0⟩ | ⟨g2, cap2, cur, rfl, hg2⟩
  · obtain rfl : l = [] := List.eq_nil_of_length_eq_zero h0
    go_enter Try.func9, Try.ntmps9
    go_wp2_with (first | (go_at_call 16; refine hh.mono ?_; rintro e w' ⟨rfl, rfl⟩) | (at_builtin; refine wpList_append_own_none rfl _ _ 32 rfl w.heap.size 3 i0 1 Try.underlying32 hi3 _ 0 [] rfl (World.ownsRow_nil _ _ _ _) rfl ?_))
    go_ret
    exact ⟨_, rfl, World.ownsRow_nil _ _ _ _, Below.refl _ _⟩
  · have hcells := own_cells hown
    go_enter Try.func9, Try.ntmps9
    go_wp2_with (first | (go_at_call 16; refine hh.mono ?_; rintro e w' ⟨rfl, rfl⟩) | (at_builtin; refine wpList_append_own _ rfl _ _ 32 rfl w.heap.size 3 i0 (.int .i64 0) 1 8 Try.underlying32 hi3 hz0 hz1 hz2 rfl (by decide) _ 0 [] rfl (World.ownsRow_nil _ _ _ _) ⟨g2, 0, none⟩ l.length cap2 (l.map (Value.int .i64)) rfl (by simp) hcells (ints_one l) (by unfold maxLen; omega) (by omega) (Nat.le_refl _) ?_; intro v' w1 hown1 hgrow1 _))
    go_ret
    exact ⟨_, rfl, by simpa using hown1, (Below.refl _ _).grown hgrow1 (Nat.le_refl _) (fun k hk => by cases hk)⟩
end Go.Proofs.Ytlnhganinomaaaa
