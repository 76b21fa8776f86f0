/-
  Contract of works, the play that the statements of layer 2 ask last. No condition beyond those that each theorem states.
-/
import Derived.Test.YtpmgccjhflcoiaaDoorLine
namespace Go.Proofs.YtpmgccjhflcoiaaDoor
open Go.RowKit
set_option linter.unusedSimpArgs false
set_option linter.unusedVariables false

theorem w_may : mayN ⟨#[97, 98, 99, 100]⟩ 1 2 ⟨#[120]⟩ = 0 := by decide +kernel
theorem w_applied : applied ⟨#[97, 98, 99, 100]⟩ 1 2 ⟨#[120]⟩ = ⟨#[97, 120, 100]⟩ := by decide +kernel
theorem w_cut : ByteArray.extract ⟨#[97, 98, 99, 100]⟩ 1 (1 + 2) = ⟨#[98, 99]⟩ := by decide +kernel
theorem w_caret : caretI ⟨#[97, 10, 98, 99]⟩ 3 = true := by decide +kernel
theorem w_nl : nl ⟨#[97, 10, 98, 99]⟩ 3 = 1 := by decide +kernel
theorem w_nl4 : nl ⟨#[97, 10, 98, 99]⟩ 4 = 1 := by decide +kernel
theorem w_line (k : Nat) (h : LineIs ⟨#[97, 10, 98, 99]⟩ 3 k) : k = 1 := by
  obtain ⟨q, h1, h2, h3, h4⟩ := h
  have hb : Begins ⟨#[97, 10, 98, 99]⟩ 2 := Or.inr ⟨by omega, by decide +kernel⟩
  have hq := begins_inj _ h2 hb (by rw [h3]; decide +kernel)
  subst hq
  have e : posF ⟨#[97, 10, 98, 99]⟩ 2 1 = 3 := by decide +kernel
  exact posF_inj _ 2 (h4.trans e.symm)
set_option maxRecDepth 100000 in
theorem works2_ok (w : World) (hT : Tabs w) :
    Calls Tryd.prog 16 #[] w fun e w' => e = .returned (.bool true) ∧ Below w.heap.size w w' := by
  have c1 := apply_yes ⟨#[97, 98, 99, 100]⟩ 1 2 ⟨#[120]⟩ (by decide) (by decide) w hT w_may
  rw [w_applied] at c1
  have C2 := (show Hid (∀ W, Below w.heap.size w W → Calls Tryd.prog 34 #[.string ⟨#[97, 98, 99, 100]⟩, .agg #[.int .i64 1, .int .i64 2, .string ⟨#[120]⟩]] W fun e w' => e = .returned (.agg #[.int .i64 1, .int .i64 1, .string ⟨#[98, 99]⟩]) ∧ Below W.heap.size W w') from fun W h => by
    have c2 := back_yes ⟨#[97, 98, 99, 100]⟩ 1 2 ⟨#[120]⟩ (by decide) (by decide) W (Utf8Tabs_below hT h) w_may
    rw [w_cut] at c2
    exact c2)
  have C3 := (show Hid (∀ W, Below w.heap.size w W → Calls Tryd.prog 26 #[.string ⟨#[97, 10, 98, 99]⟩, .int .i64 3] W fun e w' => e = .returned (.tuple #[.int .i64 1, .int .i64 1, .bool true]) ∧ Below W.heap.size W w') from fun W h => by
    refine (line_yes ⟨#[97, 10, 98, 99]⟩ 3 (by decide) W (Utf8Tabs_below hT h) w_caret).mono ?_
    rintro e w' ⟨k, rfl, hk, hb⟩
    have := w_line k hk
    subst this
    rw [w_nl]
    exact ⟨rfl, hb⟩)
  have C4 := (show Hid (∀ W, Calls Tryd.prog 25 #[.string ⟨#[97, 10, 98, 99]⟩] W fun e w' => e = .returned (.int .i64 2) ∧ W = w') from fun W => by
    have := lines2_ok ⟨#[97, 10, 98, 99]⟩ (by decide) W
    rw [show (ByteArray.mk #[97, 10, 98, 99]).size = 4 from rfl, w_nl4] at this
    exact this)
  clear hT
  go_enter Tryd.func16, Tryd.ntmps16
  go_wp2_with fail
  refine c1.mono ?_
  rintro e w1 ⟨rfl, hb1⟩
  have c2 := C2.out w1 hb1
  have HB1 := (show Hid _ from hb1)
  clear c1 hb1
  go_wp2_with fail
  refine c2.mono ?_
  rintro e w2 ⟨rfl, hb2⟩
  clear c2
  have HB2 := (show Hid _ from (HB1.out.trans (hb2.mono HB1.out.size)))
  clear hb2
  go_wp2_with fail
  have c3 := C3.out (w2.alloc (.cells #[.int .i64 1, .int .i64 1, .string ⟨#[98, 99]⟩] 23)) (HB2.out.alloc HB2.out.size _)
  refine c3.mono ?_
  rintro e w3 ⟨rfl, hb3⟩
  clear c3
  have hblk := (hb3.block w2.heap.size (by simp)).trans (blk_new w2 (.cells #[.int .i64 1, .int .i64 1, .string ⟨#[98, 99]⟩] 23))
  have d0 : w3.cell? ⟨w2.heap.size, 0, none⟩ = some (.int .i64 1) := blk_cell hblk rfl
  have d1 : w3.cell? ⟨w2.heap.size, 1, none⟩ = some (.int .i64 1) := blk_cell hblk rfl
  have d2 : w3.cell? ⟨w2.heap.size, 2, none⟩ = some (.string ⟨#[98, 99]⟩) := blk_cell hblk rfl
  have HB3 := (show Hid _ from ((HB2.out.alloc HB2.out.size _).trans (hb3.mono (HB2.out.alloc HB2.out.size _).size)))
  have c4 := C4.out w3
  clear hb3 hblk
  go_wp2_with fail
  refine c4.mono ?_
  rintro e w4 ⟨rfl, rfl⟩
  clear c4
  go_wp2_with fail
  go_ret
  exact ⟨rfl, HB3.out⟩
end Go.Proofs.YtpmgccjhflcoiaaDoor
