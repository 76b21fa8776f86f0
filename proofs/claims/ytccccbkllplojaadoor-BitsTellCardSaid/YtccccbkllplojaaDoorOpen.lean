/-
  A set that came in, opened; the table as a row's condition lays it. No condition beyond those that each theorem states.
-/
import Derived.Test.YtccccbkllplojaaDoorSets2
import Derived.Test.YtccccbkllplojaaDoorCards
import Derived.Test.YtccccbkllplojaaDoorTie
import Derived.ProofKit
import Derived.OpenShut
import Derived.Deep.Slices
import Derived.ChangeSame
import Derived.ChangeVars
import Derived.JoinedOf
import Derived.LaidLaws
import Derived.LaidMore
import Derived.Lay
import Derived.Lib.LaidTab
import Derived.SevenTiedAt
import Derived.Stop.Joined
namespace Go.Proofs.YtccccbkllplojaaDoor
open Go.ChangeShapes Go.WideShapes Go.ChangeAt Go.RowKit Go.Deep
set_option linter.unusedVariables false
set_option linter.unusedSimpArgs false

theorem c41 : Tryd.prog.cellsOf 41 = 1 := by kernel_rfl
theorem c5 : Tryd.prog.cellsOf 5 = 1 := by kernel_rfl
theorem c47 : Tryd.prog.cellsOf 47 = 64 := by kernel_rfl
theorem laidOut : laidOutB Tryd.prog = true := by kernel_rfl
theorem own : ownKnob Tryd.prog.godebug = none := by kernel_rfl
theorem tab_name : Tryd.prog.globalNamed "math/bits.deBruijn64tab" = some 0 := by kernel_rfl
theorem tab_type : (Tryd.prog.globals[0]?).map (·.type) = some 47 := by kernel_rfl

theorem tab_laid {W : World} (h : laidMetH Tryd.prog [("math/bits.deBruijn64tab", Rows.laid_math_bits_deBruijn64tab)] W) : Tab 0 W := by
  rw [MakeChecks.laidMetH_plain _ _ _ (by kernel_rfl)] at h
  have hd : (Rows.laid_math_bits_deBruijn64tab : DataW Unit) = Lib.tabData .u8 (Lib.deBruijn64tab.map fun n : Nat => (n : Int)) := by rfl
  rw [hd] at h
  have ht := Lib.tabIs_of_head tab_name tab_type Tryd.underlying47 Tryd.underlying5 c5 c47 h
  intro j hj
  have := ht.cell tab_name j (by simpa using hj)
  rw [this]
  simp [List.getD_eq_getElem?_getD, List.getElem?_map, hj]

theorem u64_ok {a : Int} (h : (Lit.int .u64 a).wf = true) : 0 ≤ a ∧ a < 18446744073709551616 := by
  simp [Lit.wf, IntKind.min, IntKind.max, IntKind.bits, IntKind.signed] at h
  omega
theorem i64_top {a : Int} (h : (Lit.int .i64 a).wf = true) : a ≤ 9223372036854775807 := by
  simp [Lit.wf, IntKind.min, IntKind.max, IntKind.bits, IntKind.signed] at h
  omega

theorem open_words {H : Type} {enc : TypeId × Value → H} {w : World} {base : Nat} {spare : Nat → Bool} {held : Bool} {fuel : Nat} {a0 : Option Addr} {len cap : Nat} {x : DataW H × List MemPlace}
    (h : DataW.trod enc Tryd.prog w base spare held fuel 23 [.slice a0 len cap] = some x) : ∃ l, Words w (.slice a0 len cap) l ∧ Fit l := by
  rcases open_slice1 Tryd.underlying23 c41 h with ⟨e, _⟩ | ⟨a, l, c, m, n, V, D, Pl, e, hb, hl, hm, hmm, _, hx⟩
  · simp at e
    obtain ⟨rfl, rfl, rfl⟩ := e
    exact ⟨[], ⟨none, 0, rfl, by simp, fun _ => rfl, fun i hi => by simp at hi⟩, fun x hx => by simp at hx⟩
  · simp at e
    obtain ⟨rfl, rfl, rfl⟩ := e
    have hlm : len ≤ m := by rw [hmm]; split <;> omega
    have each : ∀ i, i < len → ∃ z : Nat, w.cell? (a.add i) = some (.int .u64 (z : Int)) ∧ z < 18446744073709551616 := by
      intro i hi
      obtain ⟨h1, h2⟩ := hx i (by omega)
      obtain ⟨z, e1, _, wz⟩ := DataW.trod_int Tryd.underlying41 h2
      simp at e1
      rw [e1] at h1
      have := u64_ok wz
      exact ⟨z.toNat, by rw [h1, Int.toNat_of_nonneg this.1], by omega⟩
    obtain ⟨z, hz⟩ := choose_lt each
    refine ⟨(List.range len).map z, ⟨some a, cap, by simp, by simpa using hl, by simp, fun i hi => ?_⟩, ?_⟩
    · have hi' : i < len := by simpa using hi
      obtain ⟨b, off, spot⟩ := a
      have hspot : spot = none := by
        have := (hz 0 (by omega)).1
        simp [Addr.add] at this
        simpa using World.cell?_spot this
      subst hspot
      refine ⟨b, off, rfl, ?_⟩
      have ha : (⟨b, off, none⟩ : Addr).add i = ⟨b, off + i, none⟩ := by
        unfold Addr.add
        split
        · rename_i h0; subst h0; rfl
        · rfl
      rw [← ha, (hz i hi').1]
      simp
    · intro x hx
      obtain ⟨i, hi, rfl⟩ := List.mem_map.1 hx
      exact (hz i (List.mem_range.1 hi)).2
end Go.Proofs.YtccccbkllplojaaDoor
