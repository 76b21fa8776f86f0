/-
  Plain law: the answer's At tells what the library's decoder tells; carets by items are carets by looking back. No condition beyond those that each theorem states.
-/
import Derived.Test.YtpmgccjhflcoiaaDoorMath
import Derived.Test.YtpmgccjhflcoiaaDoorCaret
namespace Go.Proofs.YtpmgccjhflcoiaaDoor
open Go.RowKit
set_option linter.unusedSimpArgs false
set_option linter.unusedVariables false

theorem dec_eq (s : ByteArray) (i : Nat) : dec s i = Lib.decodeN (s.size - i) (byteAt s i) (byteAt s (i + 1)) (byteAt s (i + 2)) (byteAt s (i + 3)) := Lib.decode_at s i
theorem m1 (s : ByteArray) (i : Nat) (h : i + 1 ≤ s.size) : matchAt s i 1 = true ↔ byteAt s i < 128 := by
  rw [match_iff s i 1 h, ← enc1 _ (byteAt_lt s i)]
  exact Iff.rfl
theorem m2 (s : ByteArray) (i : Nat) (h : i + 2 ≤ s.size) : matchAt s i 2 = true ↔ (byteAt s i / 32 = 6 ∧ byteAt s (i + 1) / 64 = 2 ∧ 128 ≤ 64 * (byteAt s i % 32) + byteAt s (i + 1) % 64) := by
  rw [match_iff s i 2 h, ← enc2 _ _ (byteAt_lt s i) (byteAt_lt s (i + 1))]
  exact Iff.rfl
theorem m3 (s : ByteArray) (i : Nat) (h : i + 3 ≤ s.size) : matchAt s i 3 = true ↔ (byteAt s i / 16 = 14 ∧ byteAt s (i + 1) / 64 = 2 ∧ byteAt s (i + 2) / 64 = 2 ∧ 2048 ≤ 64 * (64 * (byteAt s i % 16) + byteAt s (i + 1) % 64) + byteAt s (i + 2) % 64 ∧ ¬ (55296 ≤ 64 * (64 * (byteAt s i % 16) + byteAt s (i + 1) % 64) + byteAt s (i + 2) % 64 ∧ 64 * (64 * (byteAt s i % 16) + byteAt s (i + 1) % 64) + byteAt s (i + 2) % 64 ≤ 57343)) := by
  rw [match_iff s i 3 h, ← enc3 _ _ _ (byteAt_lt s i) (byteAt_lt s (i + 1)) (byteAt_lt s (i + 2))]
  exact Iff.rfl
theorem m4 (s : ByteArray) (i : Nat) (h : i + 4 ≤ s.size) : matchAt s i 4 = true ↔ (byteAt s i / 8 = 30 ∧ byteAt s (i + 1) / 64 = 2 ∧ byteAt s (i + 2) / 64 = 2 ∧ byteAt s (i + 3) / 64 = 2 ∧ 65536 ≤ 64 * (64 * (64 * (byteAt s i % 8) + byteAt s (i + 1) % 64) + byteAt s (i + 2) % 64) + byteAt s (i + 3) % 64 ∧ 64 * (64 * (64 * (byteAt s i % 8) + byteAt s (i + 1) % 64) + byteAt s (i + 2) % 64) + byteAt s (i + 3) % 64 ≤ 1114111) := by
  rw [match_iff s i 4 h, ← enc4 _ _ _ _ (byteAt_lt s i) (byteAt_lt s (i + 1)) (byteAt_lt s (i + 2)) (byteAt_lt s (i + 3))]
  exact Iff.rfl

/-- what the library reads, by the answer's own tests -/
theorem dec_cases (s : ByteArray) (i : Nat) (hi : i < s.size) :
    (∃ n, 1 ≤ n ∧ n ≤ 4 ∧ i + n ≤ s.size ∧ matchAt s i n = true ∧ (∀ m, 1 ≤ m → m < n → matchAt s i m = false) ∧ okAt s i = true ∧ dec s i = (racc s i n (n - 1), n)) ∨
    ((∀ n, 1 ≤ n → n ≤ 4 → i + n ≤ s.size → matchAt s i n = false) ∧ okAt s i = false) := by
  have b0 := byteAt_lt s i
  have b1 := byteAt_lt s (i + 1)
  have b2 := byteAt_lt s (i + 2)
  have b3 := byteAt_lt s (i + 3)
  have hd := dec_eq s i
  have r1 : racc s i 1 0 = byteAt s i := rfl
  have r2 : racc s i 2 1 = 64 * (byteAt s i % 32) + byteAt s (i + 1) % 64 := rfl
  have r3 : racc s i 3 2 = 64 * (64 * (byteAt s i % 16) + byteAt s (i + 1) % 64) + byteAt s (i + 2) % 64 := rfl
  have r4 : racc s i 4 3 = 64 * (64 * (64 * (byteAt s i % 8) + byteAt s (i + 1) % 64) + byteAt s (i + 2) % 64) + byteAt s (i + 3) % 64 := rfl
  have x1 := m1 s i (by omega)
  have x2 := m2 s i
  have x3 := m3 s i
  have x4 := m4 s i
  generalize byteAt s i = c0 at *
  generalize byteAt s (i + 1) = c1 at *
  generalize byteAt s (i + 2) = c2 at *
  generalize byteAt s (i + 3) = c3 at *
  unfold okAt
  by_cases y1 : c0 < 128
  · left
    have e : dec s i = (c0, 1) := by rw [hd]; unfold Lib.decodeN; rw [if_pos y1]
    refine ⟨1, by omega, by omega, by omega, x1.2 y1, fun m h1 h2 => by omega, ?_, by rw [e, r1]⟩
    rw [e]; simp; omega
  · have n1 : matchAt s i 1 = false := Bool.eq_false_iff.2 fun h => y1 (x1.1 h)
    by_cases y2 : i + 2 ≤ s.size ∧ (c0 / 32 = 6 ∧ c1 / 64 = 2 ∧ 128 ≤ 64 * (c0 % 32) + c1 % 64)
    · left
      have e : dec s i = (64 * (c0 % 32) + c1 % 64, 2) := by
        rw [hd]; unfold Lib.decodeN
        rw [if_neg y1, if_pos (by omega), if_pos (by omega)]
        congr 1; omega
      refine ⟨2, by omega, by omega, y2.1, (x2 y2.1).2 y2.2, fun m h1 h2 => ?_, ?_, by rw [e, r2]⟩
      · obtain rfl : m = 1 := by omega
        exact n1
      · rw [e]; simp
    · have n2 : i + 2 ≤ s.size → matchAt s i 2 = false := fun h => Bool.eq_false_iff.2 fun e => y2 ⟨h, (x2 h).1 e⟩
      by_cases y3 : i + 3 ≤ s.size ∧ (c0 / 16 = 14 ∧ c1 / 64 = 2 ∧ c2 / 64 = 2 ∧ 2048 ≤ 64 * (64 * (c0 % 16) + c1 % 64) + c2 % 64 ∧ ¬ (55296 ≤ 64 * (64 * (c0 % 16) + c1 % 64) + c2 % 64 ∧ 64 * (64 * (c0 % 16) + c1 % 64) + c2 % 64 ≤ 57343))
      · left
        have e : dec s i = (64 * (64 * (c0 % 16) + c1 % 64) + c2 % 64, 3) := by
          rw [hd]; unfold Lib.decodeN
          rw [if_neg y1, if_neg (by omega), if_pos (by omega), if_pos (by omega)]
          congr 1; omega
        refine ⟨3, by omega, by omega, y3.1, (x3 y3.1).2 y3.2, fun m h1 h2 => ?_, ?_, by rw [e, r3]⟩
        · rcases (show m = 1 ∨ m = 2 by omega) with rfl | rfl
          · exact n1
          · exact n2 (by omega)
        · rw [e]; simp
      · have n3 : i + 3 ≤ s.size → matchAt s i 3 = false := fun h => Bool.eq_false_iff.2 fun e => y3 ⟨h, (x3 h).1 e⟩
        by_cases y4 : i + 4 ≤ s.size ∧ (c0 / 8 = 30 ∧ c1 / 64 = 2 ∧ c2 / 64 = 2 ∧ c3 / 64 = 2 ∧ 65536 ≤ 64 * (64 * (64 * (c0 % 8) + c1 % 64) + c2 % 64) + c3 % 64 ∧ 64 * (64 * (64 * (c0 % 8) + c1 % 64) + c2 % 64) + c3 % 64 ≤ 1114111)
        · left
          have e : dec s i = (64 * (64 * (64 * (c0 % 8) + c1 % 64) + c2 % 64) + c3 % 64, 4) := by
            rw [hd]; unfold Lib.decodeN
            rw [if_neg y1, if_neg (by omega), if_neg (by omega), if_pos (by omega), if_pos (by omega)]
            congr 1; omega
          refine ⟨4, by omega, by omega, y4.1, (x4 y4.1).2 y4.2, fun m h1 h2 => ?_, ?_, by rw [e, r4]⟩
          · rcases (show m = 1 ∨ m = 2 ∨ m = 3 by omega) with rfl | rfl | rfl
            · exact n1
            · exact n2 (by omega)
            · exact n3 (by omega)
          · rw [e]; simp
        · have n4 : i + 4 ≤ s.size → matchAt s i 4 = false := fun h => Bool.eq_false_iff.2 fun e => y4 ⟨h, (x4 h).1 e⟩
          right
          refine ⟨fun n h1 h2 h3 => ?_, ?_⟩
          · rcases (show n = 1 ∨ n = 2 ∨ n = 3 ∨ n = 4 by omega) with rfl | rfl | rfl | rfl
            · exact n1
            · exact n2 h3
            · exact n3 h3
            · exact n4 h3
          · have e : dec s i = (65533, 1) := by
              rw [hd]; unfold Lib.decodeN
              rw [if_neg y1]
              split
              · rw [if_neg (by omega)]
              · split
                · rw [if_neg (by omega)]
                · split
                  · rw [if_neg (by omega)]
                  · rfl
            rw [e]; simp
end Go.Proofs.YtpmgccjhflcoiaaDoor
