/-
  Contracts of Back of package edit. No condition beyond those that each theorem states.
-/
import Derived.Test.YtpmgccjhflcoiaaDoorCounts
import Derived.Deep.RegionHeld3
namespace Go.Proofs.YtpmgccjhflcoiaaDoor
open Go.RowKit
set_option linter.unusedSimpArgs false
set_option linter.unusedVariables false

theorem info23 : (Tryd.prog.info? 23).map (·.size) = some 3 := by kernel_rfl
theorem edit_blk {w : World} {n : Nat} {a b c a' b' c' : Value} {t : TypeId} (h : w.heap[n]? = some (.cells #[a, b, c] t (0, 0))) :
    (((w.setCell ⟨n, 0, none⟩ a').setCell ⟨n, 1, none⟩ b').setCell ⟨n, 2, none⟩ c').heap[n]? = some (.cells #[a', b', c'] t (0, 0)) :=
  blk_set (blk_set (blk_set h))
/-- three stores into a block of one's own -/
theorem edit_below {w w2 : World} {B n : Nat} (h : Below B w w2) (hn : B ≤ n) (a b c : Value) : Below B w (((w2.setCell ⟨n, 0, none⟩ a).setCell ⟨n, 1, none⟩ b).setCell ⟨n, 2, none⟩ c) :=
  ((h.setCell (p := ⟨n, 0, none⟩) hn _).setCell (p := ⟨n, 1, none⟩) hn _).setCell (p := ⟨n, 2, none⟩) hn _
theorem later_cell {W W' : World} {n o : Nat} {v : Value} (hb : Below W.heap.size W W') (h : W.cell? ⟨n, o, none⟩ = some v) : W'.cell? ⟨n, o, none⟩ = some v :=
  (hb.cell (p := ⟨n, o, none⟩) (World.block_lt_of_cell? W _ h)).trans h
theorem later_free {W W' : World} {n o : Nat} {v : Value} (hb : Below W.heap.size W W') (h : W.cell? ⟨n, o, none⟩ = some v) (hf : W.frozen? ⟨n, o, none⟩ = false) : W'.frozen? ⟨n, o, none⟩ = false :=
  (hb.frozen (p := ⟨n, o, none⟩) (World.block_lt_of_cell? W _ h)).trans hf
/-- what the last statement of Back holds in memory -/
abbrev BkS (m : Nat) (a c : Int) (put : ByteArray) (W : World) : Prop :=
  W.cell? ⟨m, 0, none⟩ = some (.int .i64 a) ∧ W.cell? ⟨m, 1, none⟩ = some (.int .i64 c) ∧ W.cell? ⟨m, 2, none⟩ = some (.string put)
theorem bk_later {m : Nat} {a c : Int} {put : ByteArray} {W W' : World} (hb : Below W.heap.size W W') (h : BkS m a c put W) : BkS m a c put W' := by
  obtain ⟨h1, h2, h3⟩ := h
  exact ⟨later_cell hb h1, later_cell hb h2, later_cell hb h3⟩
set_option maxRecDepth 100000 in
theorem back_no (s : ByteArray) (a c : Int) (put : ByteArray) (hs : s.size ≤ 100000) (hp : put.size ≤ 100000) (ha : -9223372036854775808 ≤ a ∧ a ≤ 9223372036854775807) (hc : -9223372036854775808 ≤ c ∧ c ≤ 9223372036854775807) (w : World) (hT : Tabs w) (hm : ¬ mayN s a c put = 0) :
    Calls Tryd.prog 34 #[.string s, .agg #[.int .i64 a, .int .i64 c, .string put]] w fun e w' => e = .returned (.agg #[.int .i64 0, .int .i64 0, .string ⟨#[]⟩]) ∧ Below w.heap.size w w' := by
  have hb0 : Below w.heap.size w ((w.alloc (.cells #[.int .i64 a, .int .i64 c, .string put] 23)).alloc (.cells #[.int .i64 0, .int .i64 0, .string ⟨#[]⟩] 23)) := ((Below.refl _ _).alloc (Nat.le_refl _) _).alloc (by simp) _
  have c1 := may_ok s a c put hs hp ha hc _ (Utf8Tabs_below hT hb0)
  have hblk := blk_new (w.alloc (.cells #[.int .i64 a, .int .i64 c, .string put] 23)) (.cells #[.int .i64 0, .int .i64 0, .string ⟨#[]⟩] 23)
  have hsz : w.heap.size + 1 < ((w.alloc (.cells #[.int .i64 a, .int .i64 c, .string put] 23)).alloc (.cells #[.int .i64 0, .int .i64 0, .string ⟨#[]⟩] 23)).heap.size := by simp
  have hsz1 : (w.alloc (.cells #[.int .i64 a, .int .i64 c, .string put] 23)).heap.size = w.heap.size + 1 := by simp
  rw [hsz1] at hblk
  have HB := (show Hid _ from And.intro hb0 (And.intro hblk hsz))
  have Hs := (show Hid _ from And.intro hs hp)
  clear hb0 hT hs hp hblk hsz hsz1
  generalize mayN s a c put = code at *
  go_enter Tryd.func34, Tryd.ntmps34
  go_wp2_with fail
  refine c1.mono ?_
  rintro e w2 ⟨rfl, hb2⟩
  clear c1
  have hq := HB.out.1.trans (hb2.mono HB.out.1.size)
  have hcell := (hb2.block (w.heap.size + 1) HB.out.2.2).trans HB.out.2.1
  have d0 : w2.cell? ⟨w.heap.size + 1, 0, none⟩ = some (.int .i64 0) := blk_cell hcell rfl
  have d1 : w2.cell? ⟨w.heap.size + 1, 1, none⟩ = some (.int .i64 0) := blk_cell hcell rfl
  have d2 : w2.cell? ⟨w.heap.size + 1, 2, none⟩ = some (.string ⟨#[]⟩) := blk_cell hcell rfl
  have f0 : w2.frozen? ⟨w.heap.size + 1, 0, none⟩ = false := blk_free hcell
  have f1 : w2.frozen? ⟨w.heap.size + 1, 1, none⟩ = false := blk_free hcell
  have f2 : w2.frozen? ⟨w.heap.size + 1, 2, none⟩ = false := blk_free hcell
  have HC := (show Hid _ from And.intro hcell hq)
  clear hcell hb2 HB hq
  go_wp2_with fail
  refine bodyPost_ret (results_cell_row rfl _ _ (w.heap.size + 1) 23 _ (0, 0) _ rfl (edit_blk HC.out.1) Tryd.underlying23 rfl info23) rfl ⟨rfl, edit_below HC.out.2 (by omega) _ _ _⟩
set_option maxRecDepth 100000 in
set_option maxHeartbeats 400000 in
theorem back_yes (s : ByteArray) (a c : Nat) (put : ByteArray) (hs : s.size ≤ 100000) (hp : put.size ≤ 100000) (w : World) (hT : Tabs w) (hm : mayN s a c put = 0) :
    Calls Tryd.prog 34 #[.string s, .agg #[.int .i64 a, .int .i64 c, .string put]] w fun e w' => e = .returned (.agg #[.int .i64 a, .int .i64 (put.size : Nat), .string (s.extract a (a + c))]) ∧ Below w.heap.size w w' := by
  have hz := mayN_zero hm
  have hac : a + c ≤ s.size := by omega
  have hb0 : Below w.heap.size w ((w.alloc (.cells #[.int .i64 a, .int .i64 c, .string put] 23)).alloc (.cells #[.int .i64 0, .int .i64 0, .string ⟨#[]⟩] 23)) := ((Below.refl _ _).alloc (Nat.le_refl _) _).alloc (by simp) _
  have c1 := may_ok s a c put hs hp (by omega) (by omega) _ (Utf8Tabs_below hT hb0)
  have hblk0 := blk_new w (.cells #[.int .i64 a, .int .i64 c, .string put] 23)
  have hblk := blk_new (w.alloc (.cells #[.int .i64 a, .int .i64 c, .string put] 23)) (.cells #[.int .i64 0, .int .i64 0, .string ⟨#[]⟩] 23)
  have hsz : w.heap.size + 1 < ((w.alloc (.cells #[.int .i64 a, .int .i64 c, .string put] 23)).alloc (.cells #[.int .i64 0, .int .i64 0, .string ⟨#[]⟩] 23)).heap.size := by simp
  have hsz1 : (w.alloc (.cells #[.int .i64 a, .int .i64 c, .string put] 23)).heap.size = w.heap.size + 1 := by simp
  have hold := blk_old (w := w.alloc (.cells #[.int .i64 a, .int .i64 c, .string put] 23)) (o := .cells #[.int .i64 0, .int .i64 0, .string ⟨#[]⟩] 23) (b := w.heap.size) (by simp)
  rw [hsz1] at hblk
  rw [← hold] at hblk0
  have HB := (show Hid _ from And.intro hb0 (And.intro hblk (And.intro hsz hblk0)))
  have Hcl := (show Hid (∀ W, Calls Tryd.prog 50 #[.string (s.extract a (a + c))] W fun e w' => e = .returned (.string (s.extract a (a + c))) ∧ Below W.heap.size W w') from fun W => clone_ok _ (by rw [ByteArray.size_extract]; omega) W)
  rw [hm] at c1
  clear hb0 hT hm hz hblk hblk0 hsz hsz1 hold
  go_enter Tryd.func34, Tryd.ntmps34
  go_wp2_with fail
  refine c1.mono ?_
  rintro e w2 ⟨rfl, hb2⟩
  clear c1
  have hq := HB.out.1.trans (hb2.mono HB.out.1.size)
  have hcell := (hb2.block (w.heap.size + 1) HB.out.2.2.1).trans HB.out.2.1
  have hcel0 := (hb2.block w.heap.size (Nat.lt_of_succ_lt HB.out.2.2.1)).trans HB.out.2.2.2
  have hlt : w.heap.size + 1 < w2.heap.size := Nat.lt_of_lt_of_le HB.out.2.2.1 hb2.size
  have HC := (show Hid (Below w.heap.size w w2 ∧ w2.heap[w.heap.size + 1]? = some (.cells #[.int .i64 0, .int .i64 0, .string ⟨#[]⟩] 23 (0, 0)) ∧ w.heap.size + 1 < w2.heap.size) from ⟨hq, hcell, hlt⟩)
  have d0 : w2.cell? ⟨w.heap.size, 0, none⟩ = some (.int .i64 a) := blk_cell hcel0 rfl
  have d1 : w2.cell? ⟨w.heap.size, 1, none⟩ = some (.int .i64 c) := blk_cell hcel0 rfl
  have d2 : w2.cell? ⟨w.heap.size, 2, none⟩ = some (.string put) := blk_cell hcel0 rfl
  have e0 : w2.cell? ⟨w.heap.size + 1, 0, none⟩ = some (.int .i64 0) := blk_cell hcell rfl
  have e1 : w2.cell? ⟨w.heap.size + 1, 1, none⟩ = some (.int .i64 0) := blk_cell hcell rfl
  have e2 : w2.cell? ⟨w.heap.size + 1, 2, none⟩ = some (.string ⟨#[]⟩) := blk_cell hcell rfl
  have f0 : w2.frozen? ⟨w.heap.size + 1, 0, none⟩ = false := blk_free hcell
  have f1 : w2.frozen? ⟨w.heap.size + 1, 1, none⟩ = false := blk_free hcell
  have f2 : w2.frozen? ⟨w.heap.size + 1, 2, none⟩ = false := blk_free hcell
  have z1 : (a : Int) ≤ (s.size : Int) := by omega
  have z2 : (a : Int) + (c : Int) ≤ (s.size : Int) := by omega
  have z3 : IntKind.i64.wrap ((a : Int) + (c : Int)) = (a : Int) + (c : Int) := IntWalk.i64_in _ (by omega)
  have z4 : (0 : Int) ≤ (a : Int) := by omega
  have z5 : (a : Int) ≤ (a : Int) + (c : Int) := by omega
  clear hcell hcel0 hb2 HB hq hlt
  go_wp2_with fail
  go_region_held3 (fun W => W.cell? ⟨w.heap.size, 0, none⟩ = some (.int .i64 a) ∧ W.cell? ⟨w.heap.size, 1, none⟩ = some (.int .i64 c) ∧ W.cell? ⟨w.heap.size, 2, none⟩ = some (.string put)) (first | assumption | go_keep | (exact bk_later (by assumption) (by assumption))) (first | (go_at_call 50; refine (Hcl.out _).mono ?_; rintro e w3 ⟨rfl, hb3⟩; have g0 := later_cell hb3 e0; have g1 := later_cell hb3 e1; have g2 := later_cell hb3 e2; have k0 := later_free hb3 e0 f0; have k1 := later_free hb3 e1 f1; have k2 := later_free hb3 e2 f2))
  have hblk3 := (hb3.block (w.heap.size + 1) HC.out.2.2).trans HC.out.2.1
  have hbel := HC.out.1.trans (Below.trans (drewN_below w.heap.size w2 1) (hb3.mono HC.out.1.size))
  have HF := (show Hid _ from And.intro hblk3 hbel)
  clear hblk3 hbel hb3
  go_wp2_with fail
  refine bodyPost_ret (results_cell_row rfl _ _ (w.heap.size + 1) 23 _ (0, 0) _ rfl (edit_blk HF.out.1) Tryd.underlying23 rfl info23) rfl ⟨rfl, edit_below HF.out.2 (by omega) _ _ _⟩
end Go.Proofs.YtpmgccjhflcoiaaDoor
