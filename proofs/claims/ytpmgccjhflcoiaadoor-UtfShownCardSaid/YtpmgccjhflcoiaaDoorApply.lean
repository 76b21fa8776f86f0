/-
  Contracts of Apply of package edit. No condition beyond those that each theorem states.
-/
import Derived.Test.YtpmgccjhflcoiaaDoorMay
namespace Go.Proofs.YtpmgccjhflcoiaaDoor
open Go.RowKit
set_option linter.unusedSimpArgs false
set_option linter.unusedVariables false

/-- a text as an edit leaves it -/
def applied (s : ByteArray) (a c : Nat) (put : ByteArray) : ByteArray := s.extract 0 a ++ put ++ s.extract (a + c) s.size
theorem mayN_zero {s : ByteArray} {a c : Int} {put : ByteArray} (h : mayN s a c put = 0) : 0 ≤ a ∧ 0 ≤ c ∧ a ≤ s.size ∧ c ≤ (s.size : Int) - a := by
  unfold mayN at h
  split at h
  · cases h
  · omega

set_option maxRecDepth 100000 in
theorem apply_no (s : ByteArray) (a c : Int) (put : ByteArray) (hs : s.size ≤ 100000) (hp : put.size ≤ 100000) (ha : -9223372036854775808 ≤ a ∧ a ≤ 9223372036854775807) (hc : -9223372036854775808 ≤ c ∧ c ≤ 9223372036854775807) (w : World) (hT : Tabs w) (hm : ¬ mayN s a c put = 0) :
    Calls Tryd.prog 14 #[.string s, .agg #[.int .i64 a, .int .i64 c, .string put]] w fun e w' => e = .returned (.tuple #[.string ⟨#[]⟩, .int .i64 (mayN s a c put)]) ∧ Below w.heap.size w w' := by
  have hb0 : Below w.heap.size w (w.alloc (.cells #[.int .i64 a, .int .i64 c, .string put] 23)) := (Below.refl _ _).alloc (Nat.le_refl _) _
  have c1 := may_ok s a c put hs hp ha hc (w.alloc (.cells #[.int .i64 a, .int .i64 c, .string put] 23)) (Utf8Tabs_below hT hb0)
  have HB := (show Hid _ from hb0)
  have Hs := (show Hid _ from And.intro hs hp)
  clear hb0 hT hs hp
  generalize mayN s a c put = code at *
  go_enter Tryd.func14, Tryd.ntmps14
  go_wp2_with fail
  refine c1.mono ?_
  rintro e w2 ⟨rfl, hb2⟩
  clear c1
  have hq := HB.out.trans (hb2.mono HB.out.size)
  go_wp2_with fail
  go_ret2
  exact ⟨rfl, hq⟩
set_option maxRecDepth 100000 in
theorem apply_yes (s : ByteArray) (a c : Nat) (put : ByteArray) (hs : s.size ≤ 100000) (hp : put.size ≤ 100000) (w : World) (hT : Tabs w) (hm : mayN s a c put = 0) :
    Calls Tryd.prog 14 #[.string s, .agg #[.int .i64 a, .int .i64 c, .string put]] w fun e w' => e = .returned (.tuple #[.string (applied s a c put), .int .i64 0]) ∧ Below w.heap.size w w' := by
  have hz := mayN_zero hm
  have hac : a + c ≤ s.size := by omega
  have hb0 : Below w.heap.size w (w.alloc (.cells #[.int .i64 a, .int .i64 c, .string put] 23)) := (Below.refl _ _).alloc (Nat.le_refl _) _
  have c1 := may_ok s a c put hs hp (by omega) (by omega) (w.alloc (.cells #[.int .i64 a, .int .i64 c, .string put] 23)) (Utf8Tabs_below hT hb0)
  have hblk := blk_new w (.cells #[.int .i64 a, .int .i64 c, .string put] 23)
  have hsz : w.heap.size < (w.alloc (.cells #[.int .i64 a, .int .i64 c, .string put] 23)).heap.size := by simp
  have HB := (show Hid _ from And.intro hb0 (And.intro hblk hsz))
  rw [hm] at c1
  clear hb0 hT hm hz hblk hsz
  go_enter Tryd.func14, Tryd.ntmps14
  go_wp2_with fail
  refine c1.mono ?_
  rintro e w2 ⟨rfl, hb2⟩
  clear c1
  have hq := (show Hid _ from HB.out.1.trans (hb2.mono HB.out.1.size))
  have hcell := (hb2.block w.heap.size HB.out.2.2).trans HB.out.2.1
  have d0 : w2.cell? ⟨w.heap.size, 0, none⟩ = some (.int .i64 a) := blk_cell hcell rfl
  have d1 : w2.cell? ⟨w.heap.size, 1, none⟩ = some (.int .i64 c) := blk_cell hcell rfl
  have d2 : w2.cell? ⟨w.heap.size, 2, none⟩ = some (.string put) := blk_cell hcell rfl
  clear HB hb2 hcell
  have z1 : (a : Int) ≤ (s.size : Int) := by omega
  have z2 : (a : Int) + (c : Int) ≤ (s.size : Int) := by omega
  go_wp2_with fail
  go_quiet (fail)
  go_wp2_with fail
  go_ret2
  exact ⟨rfl, hq.out.trans (drewN_below _ _ _)⟩
end Go.Proofs.YtpmgccjhflcoiaaDoor
