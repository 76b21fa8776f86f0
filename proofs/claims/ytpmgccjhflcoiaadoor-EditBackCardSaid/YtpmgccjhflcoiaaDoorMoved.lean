/-
  Contract of Moved of package edit. No condition beyond those that each theorem states.
-/
import Derived.Test.YtpmgccjhflcoiaaDoorWorksB
namespace Go.Proofs.YtpmgccjhflcoiaaDoor
open Go.RowKit
set_option linter.unusedSimpArgs false
set_option linter.unusedVariables false

/-- a number that is not below zero, and not great, stays -/
theorem clamp_ok (n : Nat) (hn : n ≤ 1000000) (w : World) : Calls Tryd.prog 51 #[.int .i64 n] w fun e w' => e = .returned (.int .i64 n) ∧ w' = w := by
  go_enter Tryd.func51, Tryd.ntmps51
  go_wp2_with fail
  go_ret
  refine ⟨?_, rfl⟩
  show Ending.returned (.int .i64 (min (n : Int) 1099511627776)) = _
  rw [Int.min_eq_left (by omega)]
/-- where a place goes -/
def movedN (a c z p : Nat) : Nat := if p ≤ a then p else if p ≤ a + c then a + z else p - c + z
set_option maxRecDepth 100000 in
set_option maxHeartbeats 1000000 in
theorem moved_ok (a c p : Nat) (put : ByteArray) (ha : a ≤ 1000000) (hc : c ≤ 1000000) (hp : p ≤ 1000000) (hz : put.size ≤ 1000000) (w : World) :
    Calls Tryd.prog 35 #[.agg #[.int .i64 a, .int .i64 c, .string put], .int .i64 p] w fun e w' => e = .returned (.int .i64 (movedN a c put.size p : Nat)) ∧ Below w.heap.size w w' := by
  have hb0 : Below w.heap.size w (w.alloc (.cells #[.int .i64 a, .int .i64 c, .string put] 23)) := (Below.refl _ _).alloc (Nat.le_refl _) _
  have fin : ∀ x : Int, x = (movedN a c put.size p : Nat) → ∀ W : World, Below w.heap.size w W → Ending.returned (.int .i64 x) = .returned (.int .i64 (movedN a c put.size p : Nat)) ∧ Below w.heap.size w W := fun x hx W hW => ⟨by rw [hx], hW⟩
  have HF := (show Hid _ from fin)
  clear fin
  have hmv : movedN a c put.size p = if p ≤ a then p else if p ≤ a + c then a + put.size else p - c + put.size := rfl
  by_cases h1 : p ≤ a
  · have h1' : (p : Int) ≤ (a : Int) := by omega
    have hx : ((p : Nat) : Int) = (movedN a c put.size p : Nat) := by rw [hmv, if_pos h1]
    have HX := (show Hid _ from hx)
    clear hx hmv
    generalize movedN a c put.size p = m at *
    go_enter Tryd.func35, Tryd.ntmps35
    go_wp2_with fail
    go_quiet ((go_at_call 51; refine Calls.quiet_of_same (clamp_ok _ (by assumption) _)))
    go_wp2_with fail
    go_ret
    exact HF.out _ HX.out _ (hb0.trans (drewN_below _ _ _))
  · by_cases h2 : p ≤ a + c
    · have h1' : ¬ (p : Int) ≤ (a : Int) := by omega
      have h2' : (p : Int) ≤ (a : Int) + (c : Int) := by omega
      have hx : ((a : Int) + (put.size : Int)) = (movedN a c put.size p : Nat) := by rw [hmv, if_neg h1, if_pos h2]; omega
      have HX := (show Hid _ from hx)
      clear hx hmv
      generalize movedN a c put.size p = m at *
      go_enter Tryd.func35, Tryd.ntmps35
      go_wp2_with fail
      go_quiet ((go_at_call 51; refine Calls.quiet_of_same (clamp_ok _ (by assumption) _)))
      go_wp2_with fail
      go_ret
      exact HF.out _ HX.out _ (hb0.trans (drewN_below _ _ _))
    · have h1' : ¬ (p : Int) ≤ (a : Int) := by omega
      have h2' : ¬ (p : Int) ≤ (a : Int) + (c : Int) := by omega
      have hx : ((p : Int) - (c : Int) + (put.size : Int)) = (movedN a c put.size p : Nat) := by rw [hmv, if_neg h1, if_neg h2]; omega
      have HX := (show Hid _ from hx)
      clear hx hmv
      generalize movedN a c put.size p = m at *
      go_enter Tryd.func35, Tryd.ntmps35
      go_wp2_with fail
      go_quiet ((go_at_call 51; refine Calls.quiet_of_same (clamp_ok _ (by assumption) _)))
      go_wp2_with fail
      go_ret
      exact HF.out _ HX.out _ (hb0.trans (drewN_below _ _ _))
end Go.Proofs.YtpmgccjhflcoiaaDoor
