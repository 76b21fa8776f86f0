/-
  Contracts of the calls of package stack where nothing is put: of what may not be put; of a stack that nobody made. No condition beyond those that each theorem states.
-/
import Derived.Test.YtlnhganinomaaaaUps
namespace Go.Proofs.Ytlnhganinomaaaa
open Go.RowKit Go.Maps
set_option linter.unusedSimpArgs false
set_option linter.unusedVariables false

set_option maxRecDepth 100000 in
theorem put_bad {w : World} {B s mn ml N : Nat} {ql : List (Value × Value)} {pl : List (Int × Int)} {us : List (List Int)} {pv uv : Value} {vs : List Value} (h : St w B s (nodesOf pl) ql pl us pv uv vs mn ml) (hI : Inv N pl us) (hN : N ≤ 1000)
    (ret at_ up : Int) (hbad : ret < 0 ∨ at_ < 0 ∨ ¬ (0 ≤ up ∧ up < pl.length)) :
    Calls Try.prog 6 #[.pointer (some ⟨s, 0, none⟩), .int .i64 ret, .int .i64 at_, .int .i64 up] w fun e w' => e = .returned (.tuple #[.int .i64 0, .bool false, .bool false, .int .i64 2]) ∧ w = w' := by
  have hps := hI.size
  have hl := long_st h
  have hh := has_st h (by omega) up
  have hpos := hI.pos
  have hpos' : ((pl.length : Int) == 0) = false := by rw [beq_eq_false_iff_ne]; omega
  by_cases h1 : ret < 0
  · clear hbad hh
    go_enter Try.func6, Try.ntmps6
    go_wp2_with (go_at_call 8; refine hl.mono ?_; rintro e w' ⟨rfl, rfl⟩)
    refine bodyPost_ret (v := .tuple #[.int .i64 0, .bool false, .bool false, .int .i64 2]) (by simp [results, Try.results6, go_sem]) rfl ?_
    exact ⟨rfl, rfl⟩
  · by_cases h2 : at_ < 0
    · clear hbad hh
      go_enter Try.func6, Try.ntmps6
      go_wp2_with (go_at_call 8; refine hl.mono ?_; rintro e w' ⟨rfl, rfl⟩)
      refine bodyPost_ret (v := .tuple #[.int .i64 0, .bool false, .bool false, .int .i64 2]) (by simp [results, Try.results6, go_sem]) rfl ?_
      exact ⟨rfl, rfl⟩
    · have h3 : ¬ (0 ≤ up ∧ up < pl.length) := by omega
      rw [show decide (0 ≤ up ∧ up < pl.length) = false from by simpa using h3] at hh
      clear hbad h3
      go_enter Try.func6, Try.ntmps6
      go_wp2_with (first | (go_at_call 8; refine hl.mono ?_; rintro e w' ⟨rfl, rfl⟩) | (go_at_call 16; refine hh.mono ?_; rintro e w' ⟨rfl, rfl⟩))
      refine bodyPost_ret (v := .tuple #[.int .i64 0, .bool false, .bool false, .int .i64 2]) (by simp [results, Try.results6, go_sem]) rfl ?_
      exact ⟨rfl, rfl⟩

/-- a stack that nobody made: none, or one of no fields -/
def NoSt (w : World) (p : Value) : Prop := p = .pointer none ∨ ∃ s, p = .pointer (some ⟨s, 0, none⟩) ∧ w.heap[s]? = some (.cells #[.slice none 0 0, .slice none 0 0, .map none, .map none] 43 (0, 0))

theorem no_long {w : World} {p : Value} (h : NoSt w p) : Calls Try.prog 8 #[p] w fun e w' => e = .returned (.int .i64 0) ∧ w = w' := by
  rcases h with rfl | ⟨s, rfl, hs⟩
  · go_enter Try.func8, Try.ntmps8
    go_wp2
    go_ret
    exact ⟨rfl, rfl⟩
  · have c0 : w.cell? ⟨s, 0, none⟩ = some (.slice none 0 0) := blk_cell hs rfl
    go_enter Try.func8, Try.ntmps8
    go_wp2
    go_ret
    exact ⟨rfl, rfl⟩
theorem run_len_nil (w : World) : (Builtin.len_ #[41] 3 #[.map none]).run Try.prog w = .ok (.int .i64 0) w := by kernel_rfl
theorem no_links {w : World} {p : Value} (h : NoSt w p) : Calls Try.prog 13 #[p] w fun e w' => e = .returned (.int .i64 0) ∧ w = w' := by
  rcases h with rfl | ⟨s, rfl, hs⟩
  · go_enter Try.func13, Try.ntmps13
    go_wp2
    go_ret
    exact ⟨rfl, rfl⟩
  · have c3 : w.cell? ⟨s, 3, none⟩ = some (.map none) := blk_cell hs rfl
    go_enter Try.func13, Try.ntmps13
    go_wp2
    go_ret
    exact ⟨rfl, rfl⟩
theorem no_has {w : World} {p : Value} (h : NoSt w p) : Calls Try.prog 16 #[p, .int .i64 0] w fun e w' => e = .returned (.bool false) ∧ w = w' := by
  rcases h with rfl | ⟨s, rfl, hs⟩
  · go_enter Try.func16, Try.ntmps16
    go_wp2
    go_ret
    exact ⟨rfl, rfl⟩
  · have c0 : w.cell? ⟨s, 0, none⟩ = some (.slice none 0 0) := blk_cell hs rfl
    go_enter Try.func16, Try.ntmps16
    go_wp2
    go_ret
    exact ⟨rfl, rfl⟩
theorem no_ret {w : World} {p : Value} (h : NoSt w p) : Calls Try.prog 10 #[p, .int .i64 0] w fun e w' => e = .returned (.int .i64 (-1)) ∧ w = w' := by
  have hh := no_has h
  go_enter Try.func10, Try.ntmps10
  go_wp2_with (go_at_call 16; refine hh.mono ?_; rintro e w' ⟨rfl, rfl⟩)
  go_ret
  exact ⟨rfl, rfl⟩
theorem no_at {w : World} {p : Value} (h : NoSt w p) : Calls Try.prog 11 #[p, .int .i64 0] w fun e w' => e = .returned (.int .i64 (-1)) ∧ w = w' := by
  have hh := no_has h
  go_enter Try.func11, Try.ntmps11
  go_wp2_with (go_at_call 16; refine hh.mono ?_; rintro e w' ⟨rfl, rfl⟩)
  go_ret
  exact ⟨rfl, rfl⟩
theorem no_ups {w : World} {p : Value} (h : NoSt w p) : Calls Try.prog 9 #[p, .int .i64 0] w fun e w' => e = .returned (.slice none 0 0) ∧ w = w' := by
  have hh := no_has h
  go_enter Try.func9, Try.ntmps9
  go_wp2_with (go_at_call 16; refine hh.mono ?_; rintro e w' ⟨rfl, rfl⟩)
  go_ret
  exact ⟨rfl, rfl⟩
theorem no_find {w : World} {p : Value} (h : NoSt w p) (a b : Int) : Calls Try.prog 12 #[p, .int .i64 a, .int .i64 b] w fun e w' => e = .returned (.int .i64 (-1)) ∧ w = w' := by
  have hh := no_long h
  go_enter Try.func12, Try.ntmps12
  go_wp2_with (go_at_call 8; refine hh.mono ?_; rintro e w' ⟨rfl, rfl⟩)
  go_ret
  exact ⟨rfl, rfl⟩
theorem no_cut {w : World} {p : Value} (h : NoSt w p) (n : Int) : Calls Try.prog 7 #[p, .int .i64 n] w fun e w' => e = .returned (.pointer none) ∧ w = w' := by
  have hh := no_long h
  go_enter Try.func7, Try.ntmps7
  go_wp2_with (go_at_call 8; refine hh.mono ?_; rintro e w' ⟨rfl, rfl⟩)
  go_ret
  exact ⟨rfl, rfl⟩
theorem no_clone {w : World} {p : Value} (h : NoSt w p) : Calls Try.prog 15 #[p] w fun e w' => e = .returned (.pointer none) ∧ w = w' := by
  have hh := no_long h
  have hc := no_cut h 0
  go_enter Try.func15, Try.ntmps15
  go_wp2_with (first | (go_at_call 8; refine hh.mono ?_; rintro e w' ⟨rfl, rfl⟩) | (go_at_call 7; refine hc.mono ?_; rintro e w' ⟨rfl, rfl⟩))
  go_ret
  exact ⟨rfl, rfl⟩
theorem no_put {w : World} {p : Value} (h : NoSt w p) (a b c : Int) : Calls Try.prog 6 #[p, .int .i64 a, .int .i64 b, .int .i64 c] w fun e w' => e = .returned (.tuple #[.int .i64 0, .bool false, .bool false, .int .i64 1]) ∧ w = w' := by
  have hh := no_long h
  go_enter Try.func6, Try.ntmps6
  go_wp2_with (go_at_call 8; refine hh.mono ?_; rintro e w' ⟨rfl, rfl⟩)
  refine bodyPost_ret (v := .tuple #[.int .i64 0, .bool false, .bool false, .int .i64 1]) (by simp [results, Try.results6, go_sem]) rfl ?_
  exact ⟨rfl, rfl⟩
end Go.Proofs.Ytlnhganinomaaaa
