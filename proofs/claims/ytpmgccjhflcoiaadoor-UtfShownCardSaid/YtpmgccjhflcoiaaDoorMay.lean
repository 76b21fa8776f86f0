/-
  Contracts of may of package edit and of the answer's Apply. No condition beyond those that each theorem states.
-/
import Derived.Test.YtpmgccjhflcoiaaDoorRCaret
namespace Go.Proofs.YtpmgccjhflcoiaaDoor
open Go.RowKit
set_option linter.unusedSimpArgs false
set_option linter.unusedVariables false

/-- why an edit may not be -/
def mayN (s : ByteArray) (a c : Int) (put : ByteArray) : Int :=
  if a < 0 ∨ c < 0 ∨ (s.size : Int) < a ∨ (s.size : Int) - a < c then 2 else
  if caretI s a = false ∨ caretI s (a + c) = false then 30 else
  if (65536 : Int) < s.size - c ∨ 65536 - ((s.size : Int) - c) < put.size then 3 else 0
def editV (a c : Int) (put : ByteArray) : Value := .agg #[.int .i64 a, .int .i64 c, .string put]

set_option maxRecDepth 100000 in
theorem may_ok (s : ByteArray) (a c : Int) (put : ByteArray) (hs : s.size ≤ 100000) (hp : put.size ≤ 100000) (ha : -9223372036854775808 ≤ a ∧ a ≤ 9223372036854775807) (hc : -9223372036854775808 ≤ c ∧ c ≤ 9223372036854775807) (w : World) (hT : Tabs w) :
    Calls Tryd.prog 38 #[.agg #[.int .i64 a, .int .i64 c, .string put], .string s] w fun e w' => e = .returned (.int .i64 (mayN s a c put)) ∧ Below w.heap.size w w' := by
  unfold mayN
  by_cases h1 : a < 0 ∨ c < 0 ∨ (s.size : Int) < a ∨ (s.size : Int) - a < c
  · rw [if_pos h1]
    rcases (show a < 0 ∨ (¬ a < 0 ∧ c < 0) ∨ (¬ a < 0 ∧ ¬ c < 0 ∧ (s.size : Int) < a) ∨ (¬ a < 0 ∧ ¬ c < 0 ∧ ¬ (s.size : Int) < a ∧ (s.size : Int) - a < c) by omega) with h | ⟨h, h2⟩ | ⟨h, h2, h3⟩ | ⟨h, h2, h3, h4⟩
    all_goals
      clear h1
      go_enter Tryd.func38, Tryd.ntmps38
      go_wp2_with fail
      go_ret
      exact ⟨rfl, (Below.refl _ _).alloc (Nat.le_refl _) _⟩
  · rw [if_neg h1]
    have g1 : ¬ a < 0 := by omega
    have g2 : ¬ c < 0 := by omega
    have g3 : ¬ (s.size : Int) < a := by omega
    have g4 : ¬ (s.size : Int) - a < c := by omega
    have hb0 : Below w.heap.size w (w.alloc (.cells #[.int .i64 a, .int .i64 c, .string put] 23)) := (Below.refl _ _).alloc (Nat.le_refl _) _
    have c1 := ucaret_ok s a (by omega) (w.alloc (.cells #[.int .i64 a, .int .i64 c, .string put] 23)) (Utf8Tabs_below hT hb0)
    have hblk := blk_new w (.cells #[.int .i64 a, .int .i64 c, .string put] 23)
    have hsz : w.heap.size < (w.alloc (.cells #[.int .i64 a, .int .i64 c, .string put] 23)).heap.size := by simp
    have Hsp := (show Hid (s.size ≤ 100000 ∧ put.size ≤ 100000) from ⟨hs, hp⟩)
    have HB := (show Hid (∀ W, Below (w.alloc (.cells #[.int .i64 a, .int .i64 c, .string put] 23)).heap.size (w.alloc (.cells #[.int .i64 a, .int .i64 c, .string put] 23)) W → W.heap[w.heap.size]? = some (.cells #[.int .i64 a, .int .i64 c, .string put] 23 (0, 0)) ∧ Below w.heap.size w W) from
      fun W h => ⟨(h.block _ hsz).trans hblk, hb0.trans (h.mono (Nat.le_of_lt hsz))⟩)
    have HT0 := (show Hid (Tabs (w.alloc (.cells #[.int .i64 a, .int .i64 c, .string put] 23))) from Utf8Tabs_below hT hb0)
    clear hb0 hblk hT h1
    cases hc1 : caretI s a with
    | false =>
      rw [hc1] at c1
      rw [if_pos (Or.inl rfl)]
      clear hc1
      go_enter Tryd.func38, Tryd.ntmps38
      go_wp2_with fail
      refine c1.mono ?_
      rintro e w2 ⟨rfl, hb2⟩
      clear c1
      have hq := (HB.out w2 hb2).2
      go_wp2_with fail
      go_ret
      exact ⟨rfl, hq⟩
    | true =>
      rw [hc1] at c1
      have C2 := (show Hid (∀ W, Below (w.alloc (.cells #[.int .i64 a, .int .i64 c, .string put] 23)).heap.size (w.alloc (.cells #[.int .i64 a, .int .i64 c, .string put] 23)) W → Calls Tryd.prog 33 #[.string s, .int .i64 (a + c)] W fun e w' => e = .returned (.bool (caretI s (a + c))) ∧ Below W.heap.size W w') from
        fun W h => ucaret_ok s (a + c) (by omega) W (Utf8Tabs_below HT0.out h))
      clear hc1
      cases hc2 : caretI s (a + c) with
      | false =>
        rw [hc2] at C2
        rw [if_pos (Or.inr rfl)]
        clear hc2
        go_enter Tryd.func38, Tryd.ntmps38
        go_wp2_with fail
        refine c1.mono ?_
        rintro e w2 ⟨rfl, hb2⟩
        clear c1
        have hcell := (HB.out w2 hb2).1
        have d0 : w2.cell? ⟨w.heap.size, 0, none⟩ = some (.int .i64 a) := blk_cell hcell rfl
        have d1 : w2.cell? ⟨w.heap.size, 1, none⟩ = some (.int .i64 c) := blk_cell hcell rfl
        have c2 := C2.out w2 hb2
        have HQ := (show Hid _ from hb2)
        clear hcell hb2
        go_wp2_with fail
        refine c2.mono ?_
        rintro e w3 ⟨rfl, hb3⟩
        clear c2 d0 d1
        have hq := (HB.out w3 (HQ.out.trans (hb3.mono HQ.out.size))).2
        go_wp2_with fail
        go_ret
        exact ⟨rfl, hq⟩
      | true =>
        rw [hc2] at C2
        rw [if_neg (by simp)]
        clear hc2
        by_cases h3 : (65536 : Int) < s.size - c ∨ 65536 - ((s.size : Int) - c) < put.size
        · rw [if_pos h3]
          rcases (show (65536 : Int) < s.size - c ∨ (¬ (65536 : Int) < s.size - c ∧ 65536 - ((s.size : Int) - c) < put.size) by omega) with h4 | ⟨h4, h5⟩
          all_goals
            clear h3
            go_enter Tryd.func38, Tryd.ntmps38
            go_wp2_with fail
            refine c1.mono ?_
            rintro e w2 ⟨rfl, hb2⟩
            clear c1
            have hcell := (HB.out w2 hb2).1
            have d0 : w2.cell? ⟨w.heap.size, 0, none⟩ = some (.int .i64 a) := blk_cell hcell rfl
            have d1 : w2.cell? ⟨w.heap.size, 1, none⟩ = some (.int .i64 c) := blk_cell hcell rfl
            have c2 := C2.out w2 hb2
            have HQ := (show Hid _ from hb2)
            clear hcell hb2
            go_wp2_with fail
            refine c2.mono ?_
            rintro e w3 ⟨rfl, hb3⟩
            clear c2 d0 d1
            have hall := HB.out w3 (HQ.out.trans (hb3.mono HQ.out.size))
            have d1 : w3.cell? ⟨w.heap.size, 1, none⟩ = some (.int .i64 c) := blk_cell hall.1 rfl
            have d2 : w3.cell? ⟨w.heap.size, 2, none⟩ = some (.string put) := blk_cell hall.1 rfl
            have hq := (show Hid _ from hall.2)
            clear hall hb3
            go_wp2_with fail
            go_ret
            exact ⟨rfl, hq.out⟩
        · rw [if_neg h3]
          have h4 : ¬ (65536 : Int) < s.size - c := by omega
          have h5 : ¬ 65536 - ((s.size : Int) - c) < put.size := by omega
          clear h3
          go_enter Tryd.func38, Tryd.ntmps38
          go_wp2_with fail
          refine c1.mono ?_
          rintro e w2 ⟨rfl, hb2⟩
          clear c1
          have hcell := (HB.out w2 hb2).1
          have d0 : w2.cell? ⟨w.heap.size, 0, none⟩ = some (.int .i64 a) := blk_cell hcell rfl
          have d1 : w2.cell? ⟨w.heap.size, 1, none⟩ = some (.int .i64 c) := blk_cell hcell rfl
          have c2 := C2.out w2 hb2
          have HQ := (show Hid _ from hb2)
          clear hcell hb2
          go_wp2_with fail
          refine c2.mono ?_
          rintro e w3 ⟨rfl, hb3⟩
          clear c2 d0 d1
          have hall := HB.out w3 (HQ.out.trans (hb3.mono HQ.out.size))
          have d1 : w3.cell? ⟨w.heap.size, 1, none⟩ = some (.int .i64 c) := blk_cell hall.1 rfl
          have d2 : w3.cell? ⟨w.heap.size, 2, none⟩ = some (.string put) := blk_cell hall.1 rfl
          have hq := (show Hid _ from hall.2)
          clear hall hb3
          go_wp2_with fail
          go_ret
          exact ⟨rfl, hq.out⟩
end Go.Proofs.YtpmgccjhflcoiaaDoor
