/-
  Contract of works, of the laws on package stack. No condition.
-/
import Derived.Test.YtlnhganinomaaaaAny
namespace Go.Proofs.Ytlnhganinomaaaa
open Go.RowKit Go.Maps
set_option linter.unusedSimpArgs false
set_option linter.unusedVariables false

set_option maxRecDepth 100000 in
set_option maxHeartbeats 1000000 in
theorem works_ok (w : World) : Calls Try.prog 14 #[] w fun e w' => e = .returned (.bool true) ∧ Below w.heap.size w w' := by
  have hnew := new_any w
  go_enter Try.func14, Try.ntmps14
  go_wp2_with fail
  refine hnew.mono ?_
  rintro e w1 ⟨rfl, bs1, hs1, hb1⟩
  clear hnew
  generalize w.heap.size + 4 = s at hs1 ⊢
  have hp1 := put_any hs1 inv_new (by omega) hb1.size 5 0 0 (by unfold i64ok; omega) (by unfold i64ok; omega)
  go_wp2_with fail
  refine hp1.mono ?_
  rintro e w2 ⟨node, fresh, link, er, pl2, us2, bs2, rfl, hr2, hs2, hI2, hb2⟩
  clear hp1
  obtain ⟨rfl, rfl, rfl, rfl, rfl, rfl⟩ : node = 1 ∧ fresh = true ∧ link = true ∧ er = 0 ∧ pl2 = [(-1, 0), (5, 0)] ∧ us2 = [[], [0]] := by
    rcases hr2 with ⟨rfl, pl1, us1, hn, rfl, hl⟩ | ⟨_, h, _⟩
    · rcases hn with ⟨e1, _, rfl, rfl, rfl⟩ | ⟨_, h0, h1, _⟩
      · rcases hl with ⟨_, hn, hm, _⟩ | ⟨rfl, hn, hm, rfl⟩
        · simp at hm
        · exact ⟨rfl, by simpa using e1, rfl, rfl, rfl, rfl⟩
      · simp at h1; omega
    · simp at h
  clear hr2
  have hp2 := put_any hs2 hI2 (by omega) (Nat.le_trans hb1.size hb2.size) 5 0 0 (by unfold i64ok; omega) (by unfold i64ok; omega)
  go_wp2_with fail
  refine hp2.mono ?_
  rintro e w3 ⟨node, fresh, link, er, pl3, us3, bs3, rfl, hr3, hs3, hI3, hb3⟩
  clear hp2
  obtain ⟨rfl, rfl, rfl, rfl, rfl, rfl⟩ : node = 1 ∧ fresh = false ∧ link = false ∧ er = 0 ∧ pl3 = [(-1, 0), (5, 0)] ∧ us3 = [[], [0]] := by
    rcases hr3 with ⟨rfl, pl1, us1, hn, rfl, hl⟩ | ⟨_, h, _⟩
    · rcases hn with ⟨_, hn, _⟩ | ⟨e1, h0, h1, _, rfl, rfl⟩
      · simp at hn
      · obtain rfl : node = 1 := by simp at h1; omega
        rcases hl with ⟨rfl, hn, hm, rfl⟩ | ⟨_, hn, hm, _⟩
        · exact ⟨rfl, by simpa using e1, rfl, rfl, rfl, rfl⟩
        · simp at hm
    · simp at h
  clear hr3
  have c1 := long_any hs3
  have c2 := links_any hs3
  have c3 := ret_any hs3 hI3 (by omega) 1 (by simp)
  have c4 := ret_any hs3 hI3 (by omega) 0 (by simp)
  have c5 := ups_any hs3 hI3 (by omega) 1 (by simp)
  have hbb := (hb1.trans hb2).trans hb3
  clear hs1 hb1 hs2 hb2 hb3
  simp [linksOf, linksFrom] at c1 c2 c3 c4 c5
  go_wp2_with fail
  refine c1.mono ?_
  rintro e w' ⟨rfl, rfl⟩
  go_wp2_with fail
  refine c2.mono ?_
  rintro e w' ⟨rfl, rfl⟩
  go_wp2_with fail
  refine c3.mono ?_
  rintro e w' ⟨rfl, rfl⟩
  go_wp2_with fail
  refine c4.mono ?_
  rintro e w' ⟨rfl, rfl⟩
  go_wp2_with fail
  refine c5.mono ?_
  rintro e w' ⟨v, rfl, ho, hb⟩
  obtain ⟨av, cav, rfl⟩ := ownsRow_shape ho
  go_wp2_with fail
  go_ret
  exact ⟨rfl, hbb.trans (hb.mono hbb.size)⟩
end Go.Proofs.Ytlnhganinomaaaa
