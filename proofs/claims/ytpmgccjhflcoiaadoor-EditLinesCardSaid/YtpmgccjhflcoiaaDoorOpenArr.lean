/-
  A pair of numbers that came in, opened. No condition beyond those that each theorem states.
-/
import Derived.Test.YtpmgccjhflcoiaaDoorOpen
namespace Go.Proofs.YtpmgccjhflcoiaaDoor
open Go.ChangeShapes Go.WideShapes Go.ChangeAt Go.RowKit Go.Deep
set_option linter.unusedVariables false
set_option linter.unusedSimpArgs false

theorem cells41 : Tryd.prog.cellsOf 41 = 2 := by kernel_rfl
theorem cells3 : Tryd.prog.cellsOf 3 = 1 := by kernel_rfl
set_option maxRecDepth 100000 in
theorem open_arr2 {H : Type} {enc : TypeId × Value → H} {w : World} {base : Nat} {spare : Nat → Bool} {held : Bool} {b0 : Nat} {v : Value} {d : DataW H} {p : List MemPlace}
    (hv : Value.okWide Tryd.prog w .any b0 41 v) (h : DataW.Trod enc Tryd.prog w base spare held 41 v d p) :
    ∃ (m n : Int), v = .agg #[.int .i64 m, .int .i64 n] ∧ (-9223372036854775808 ≤ m ∧ m ≤ 9223372036854775807) ∧ (-9223372036854775808 ≤ n ∧ n ≤ 9223372036854775807) := by
  obtain ⟨cs, rfl, hsz, _⟩ : ∃ cs, v = .agg cs ∧ cs.size = Tryd.prog.cellsOf 41 ∧ Row.okWide Tryd.prog w .any b0 41 cs := by
    simpa [Value.okWide, Tryd.underlying41] using hv
  rw [cells41] at hsz
  obtain ⟨c0, c1, rfl⟩ := Joins.array2 hsz
  obtain ⟨fuel, hf⟩ := h
  obtain ⟨xs, k, _, _, _, hl, hel⟩ := DataW.trod_array Tryd.underlying41 hf
  have h0 := hel 0 (by omega)
  have h1 := hel 1 (by omega)
  rw [cells3, List.getElem?_eq_getElem (by omega)] at h0 h1
  simp [Value.cells] at h0 h1
  obtain ⟨m, e0, _, wm⟩ := DataW.trod_int Tryd.underlying3 h0
  obtain ⟨n, e1, _, wn⟩ := DataW.trod_int Tryd.underlying3 h1
  simp at e0 e1
  subst e0 e1
  exact ⟨m, n, rfl, i64_ok wm, i64_ok wn⟩
end Go.Proofs.YtpmgccjhflcoiaaDoor
