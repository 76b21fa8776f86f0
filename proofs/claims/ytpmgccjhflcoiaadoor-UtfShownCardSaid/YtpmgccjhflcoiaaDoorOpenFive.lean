/-
  The five tables as a row's condition of layer 1 lays them. No condition beyond those that each theorem states.
-/
import Derived.Test.YtpmgccjhflcoiaaDoorOpen
import Derived.Test.YtpmgccjhflcoiaaDoorFmt
import Derived.Lib.TrailingZeros
namespace Go.Proofs.YtpmgccjhflcoiaaDoor
open Go.ChangeShapes Go.WideShapes Go.ChangeAt Go.RowKit Go.Deep
set_option linter.unusedVariables false
set_option linter.unusedSimpArgs false

theorem c106 : Tryd.prog.cellsOf 106 = 64 := by kernel_rfl
theorem c5b : Tryd.prog.cellsOf 5 = 1 := by kernel_rfl
theorem deb_name : Tryd.prog.globalNamed "math/bits.deBruijn64tab" = some 5 := by kernel_rfl
theorem deb_type : (Tryd.prog.globals[5]?).map (·.type) = some 106 := by kernel_rfl
theorem debIs : (Rows.laid_math_bits_deBruijn64tab : DataW Unit) = Lib.tabData .u8 (Lib.deBruijn64tab.map fun n : Nat => (n : Int)) := by kernel_rfl
theorem deb_of {W : World} (h : Lib.VarReads Tryd.prog W "math/bits.deBruijn64tab" (Lib.tabData .u8 (Lib.deBruijn64tab.map fun n : Nat => (n : Int)))) : Deb W := by
  obtain ⟨g, t, cs, fuel, p, hg, hty, hvar, hd⟩ := h
  obtain rfl := Option.some.inj (deb_name.symm.trans hg)
  obtain rfl := Option.some.inj (deb_type.symm.trans hty)
  have hcs := Lib.cells_of_tab Tryd.underlying106 Tryd.underlying5 c5b c106 hd
  have := World.var?_cell hg hvar 15
  unfold Deb
  rw [this, ← Array.getElem?_toList, hcs]
  rfl
theorem tabs_laid5 {W : World} (h : laidMetH Tryd.prog [("math/bits.deBruijn32tab", Rows.laid_math_bits_deBruijn32tab), ("math/bits.deBruijn64tab", Rows.laid_math_bits_deBruijn64tab), ("internal/strconv.uint64pow10", Rows.laid_internal_strconv_uint64pow10), ("unicode/utf8.acceptRanges", Rows.laid_unicode_utf8_acceptRanges), ("unicode/utf8.first", Rows.laid_unicode_utf8_first)] W) : Tabs W ∧ Deb W := by
  rw [MakeChecks.laidMetH_plain _ _ _ (by kernel_rfl)] at h
  rw [firstIs, acceptIs, debIs] at h
  exact ⟨tabs_of (Lib.laidMet.reads h (.tail _ (.tail _ (.tail _ (.tail _ (.head _)))))) (Lib.laidMet.reads h (.tail _ (.tail _ (.tail _ (.head _))))), deb_of (Lib.laidMet.reads h (.tail _ (.head _)))⟩
end Go.Proofs.YtpmgccjhflcoiaaDoor
