/-
  The walk of EditApplies. No condition beyond those that each theorem states.
-/
import Derived.Test.YtpmgccjhflcoiaaDoorWorksB
namespace Go.Proofs.YtpmgccjhflcoiaaDoor
open Go.RowKit
set_option linter.unusedSimpArgs false
set_option linter.unusedVariables false

set_option maxRecDepth 100000 in
theorem editApplies_walk (s : ByteArray) (a c : Int) (put : ByteArray) (w : World) (hT : Tabs w) (hs : s.size ≤ 9223372036854775807) (ha : -9223372036854775808 ≤ a ∧ a ≤ 9223372036854775807) (hc : -9223372036854775808 ≤ c ∧ c ≤ 9223372036854775807) (hp : put.size ≤ 9223372036854775807) :
    Calls Tryd.prog 3 #[.string s, .agg #[.int .i64 a, .int .i64 c, .string put]] w fun e w' => e = .returned (.bool true) ∧ Below w.heap.size w w' := by
  have hb0 : Below w.heap.size w (w.alloc (.cells #[.int .i64 a, .int .i64 c, .string put] 23)) := (Below.refl _ _).alloc (Nat.le_refl _) _
  by_cases h1 : 2000 < s.size
  · have h1' : (2000 : Int) < (s.size : Int) := by omega
    go_enter Tryd.func3, Tryd.ntmps3
    go_wp2_with fail
    go_ret
    exact ⟨rfl, hb0⟩
  by_cases h2 : 70000 < put.size
  · have h2' : (70000 : Int) < (put.size : Int) := by omega
    go_enter Tryd.func3, Tryd.ntmps3
    go_wp2_with fail
    go_ret
    exact ⟨rfl, hb0⟩
  have HT := (show Hid (∀ W, Below w.heap.size w W → Tabs W) from fun W h => Utf8Tabs_below hT h)
  have hblk := blk_new w (.cells #[.int .i64 a, .int .i64 c, .string put] 23)
  have HB := (show Hid _ from And.intro hb0 hblk)
  have h1' : ¬ ((2000 : Int) < (s.size : Int)) := by omega
  have h2' : ¬ ((70000 : Int) < (put.size : Int)) := by omega
  by_cases hm : mayN s a c put = 0
  · have hz := mayN_zero hm
    obtain ⟨a, rfl⟩ : ∃ n : Nat, a = n := ⟨a.toNat, by omega⟩
    obtain ⟨c, rfl⟩ : ∃ n : Nat, c = n := ⟨c.toNat, by omega⟩
    have c1 := apply_yes s a c put (by omega) (by omega) (w.alloc (.cells #[.int .i64 a, .int .i64 c, .string put] 23)) (HT.out _ hb0) hm
    have C2 := (show Hid (∀ W, Calls Tryd.prog 15 #[.string s, .int .i64 a, .int .i64 c, .string put] W fun e w' => e = .returned (.tuple #[.string (applied s a c put), .int .i64 0]) ∧ Below W.heap.size W w') from fun W => rapply_yes s a c put (by omega) (by omega) W hm)
    have Hs := (show Hid _ from And.intro hs hp)
    clear hz hm hb0 hblk hT hs hp h1 h2
    generalize applied s a c put = x at *
    go_enter Tryd.func3, Tryd.ntmps3
    go_wp2_with fail
    refine c1.mono ?_
    rintro e w1 ⟨rfl, hb1⟩
    have hcell := (hb1.block w.heap.size (by simp)).trans HB.out.2
    have d0 : w1.cell? ⟨w.heap.size, 0, none⟩ = some (.int .i64 a) := blk_cell hcell rfl
    have d1 : w1.cell? ⟨w.heap.size, 1, none⟩ = some (.int .i64 c) := blk_cell hcell rfl
    have d2 : w1.cell? ⟨w.heap.size, 2, none⟩ = some (.string put) := blk_cell hcell rfl
    have HB1 := (show Hid _ from HB.out.1.trans (hb1.mono HB.out.1.size))
    clear hcell hb1 c1
    have c2 := C2.out w1
    go_wp2_with fail
    refine c2.mono ?_
    rintro e w2 ⟨rfl, hb2⟩
    have HB2 := (show Hid _ from HB1.out.trans (hb2.mono HB1.out.size))
    clear hb2 c2 d0 d1 d2
    have c3 := works2_ok w2 (HT.out _ HB2.out)
    go_wp2_with fail
    refine c3.mono ?_
    rintro e w3 ⟨rfl, hb3⟩
    have HB3 := (show Hid _ from HB2.out.trans (hb3.mono HB2.out.size))
    clear hb3 c3
    go_wp2_with fail
    go_ret
    exact ⟨rfl, HB3.out⟩
  · have c1 := apply_no s a c put (by omega) (by omega) ha hc (w.alloc (.cells #[.int .i64 a, .int .i64 c, .string put] 23)) (HT.out _ hb0) hm
    have C2 := (show Hid (∀ W, Calls Tryd.prog 15 #[.string s, .int .i64 a, .int .i64 c, .string put] W fun e w' => e = .returned (.tuple #[.string ⟨#[]⟩, .int .i64 (mayN s a c put)]) ∧ Below W.heap.size W w') from fun W => rapply_no s a c put (by omega) (by omega) ha hc W hm)
    have Hs := (show Hid _ from And.intro hs hp)
    clear hm hb0 hblk hT hs hp h1 h2
    generalize mayN s a c put = code at *
    go_enter Tryd.func3, Tryd.ntmps3
    go_wp2_with fail
    refine c1.mono ?_
    rintro e w1 ⟨rfl, hb1⟩
    have hcell := (hb1.block w.heap.size (by simp)).trans HB.out.2
    have d0 : w1.cell? ⟨w.heap.size, 0, none⟩ = some (.int .i64 a) := blk_cell hcell rfl
    have d1 : w1.cell? ⟨w.heap.size, 1, none⟩ = some (.int .i64 c) := blk_cell hcell rfl
    have d2 : w1.cell? ⟨w.heap.size, 2, none⟩ = some (.string put) := blk_cell hcell rfl
    have HB1 := (show Hid _ from HB.out.1.trans (hb1.mono HB.out.1.size))
    clear hcell hb1 c1
    have c2 := C2.out w1
    go_wp2_with fail
    refine c2.mono ?_
    rintro e w2 ⟨rfl, hb2⟩
    have HB2 := (show Hid _ from HB1.out.trans (hb2.mono HB1.out.size))
    clear hb2 c2 d0 d1 d2
    have c3 := works2_ok w2 (HT.out _ HB2.out)
    go_wp2_with fail
    refine c3.mono ?_
    rintro e w3 ⟨rfl, hb3⟩
    have HB3 := (show Hid _ from HB2.out.trans (hb3.mono HB2.out.size))
    clear hb3 c3
    go_wp2_with fail
    go_ret
    exact ⟨rfl, HB3.out⟩
end Go.Proofs.YtpmgccjhflcoiaaDoor
