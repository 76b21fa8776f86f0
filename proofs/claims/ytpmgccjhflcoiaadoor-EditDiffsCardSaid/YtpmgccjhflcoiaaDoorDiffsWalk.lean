/-
  The walk of EditDiffs. No condition beyond those that each theorem states.
-/
import Derived.Test.YtpmgccjhflcoiaaDoorRDiff
namespace Go.Proofs.YtpmgccjhflcoiaaDoor
open Go.RowKit
set_option linter.unusedSimpArgs false
set_option linter.unusedVariables false

theorem Below.drawn {B : Nat} {w W : World} (h : Below B w W) (n : Nat) : Below B w (W.drewN n) := h.trans (drewN_below _ _ _)
set_option maxRecDepth 100000 in
theorem editDiffs_walk (a b : ByteArray) (w : World) (hT : Tabs w) (ha : a.size ≤ 9223372036854775807) (hb : b.size ≤ 9223372036854775807) :
    Calls Tryd.prog 7 #[.string a, .string b] w fun e w' => e = .returned (.bool true) ∧ Below w.heap.size w w' := by
  by_cases h : 300 < a.size ∨ 300 < b.size
  · rcases (show (300 : Int) < a.size ∨ (¬ (300 : Int) < a.size ∧ (300 : Int) < b.size) by omega) with h1 | ⟨h1, h2⟩
    all_goals
      clear h
      go_enter Tryd.func7, Tryd.ntmps7
      go_wp2_with fail
      go_ret
      exact ⟨rfl, Below.refl _ _⟩
  · have h1 : ¬ (300 : Int) < a.size := by omega
    have h2 : ¬ (300 : Int) < b.size := by omega
    have HT := (show Hid (∀ W, Below w.heap.size w W → Tabs W) from fun W h => Utf8Tabs_below hT h)
    have hwork := (show Hid (∀ W, Below w.heap.size w W → Calls Tryd.prog 16 #[] W fun e w' => e = .returned (.bool true) ∧ Below W.heap.size W w') from fun W h => works2_ok W (HT.out W h))
    have c1 := rdiff_ok a b (by omega) (by omega) w
    have CD := (show Hid (∀ x y, DiffIs a b x y → ∀ W, Below w.heap.size w W → Calls Tryd.prog 31 #[.string a, .string b] W fun e w' => e = .returned (.agg #[.int .i64 x, .int .i64 (a.size - y - x : Nat), .string (b.extract x (b.size - y))]) ∧ Below W.heap.size W w') from fun x y hd W hW => by
      refine (diff_ok a b (by omega) (by omega) W (HT.out W hW)).mono ?_
      rintro e w' ⟨x', y', hd', rfl, hb'⟩
      obtain ⟨rfl, rfl⟩ := diff_inj hd' hd
      exact ⟨rfl, hb'⟩)
    clear hT h
    go_enter Tryd.func7, Tryd.ntmps7
    go_wp2_with fail
    refine c1.mono ?_
    rintro e w1 ⟨x, y, hd, rfl, hb1⟩
    clear c1
    have hdf := diff_facts hd
    have hxa := hdf.1
    have hxb := hdf.2.1
    have CX := Lib.hid (CD.out x y hd)
    have sa : (a.size : Int) - (y : Int) - (x : Int) = ((a.size - y - x : Nat) : Int) := by omega
    have sb : (b.size : Int) - (y : Int) = ((b.size - y : Nat) : Int) := by omega
    have z1 : (x : Int) ≤ ((b.size - y : Nat) : Int) := by omega
    have z2 : ((b.size - y : Nat) : Int) ≤ (b.size : Int) := by omega
    have s3 : IntKind.i64.wrap ((b.size - y : Nat) : Int) = ((b.size - y : Nat) : Int) := IntWalk.i64_in _ (by omega)
    have s2 : IntKind.i64.wrap ((a.size - y - x : Nat) : Int) = ((a.size - y - x : Nat) : Int) := IntWalk.i64_in _ (by omega)
    have s1 : IntKind.i64.wrap ((a.size : Int) - (y : Int)) = (a.size : Int) - (y : Int) := IntWalk.i64_in _ (by omega)
    clear hd hdf CD
    generalize a.size - y - x = r at *
    generalize b.size - y = q at *
    go_wp2_with fail
    go_region_held3 (fun W => Below w.heap.size w W) (first | assumption | (exact (by assumption : Below w.heap.size w _).trans ((by assumption : Below _ _ _).mono (by assumption : Below w.heap.size w _).size)) | (exact Below.drawn (by assumption) 1)) (first | (go_at_call 31; refine (CX.out _ (by first | assumption | exact Below.drawn (by assumption) 1)).mono ?_; rintro e w2 ⟨rfl, hb2⟩) | (go_at_call 16; refine (hwork.out _ (by first | assumption | exact Below.drawn (by assumption) 1)).mono ?_; rintro e w3 ⟨rfl, hb3⟩))
    all_goals
      go_wp2_with fail
      go_ret
      exact ⟨rfl, by assumption⟩
end Go.Proofs.YtpmgccjhflcoiaaDoor
