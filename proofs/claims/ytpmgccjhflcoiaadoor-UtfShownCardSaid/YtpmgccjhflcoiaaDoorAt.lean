/-
  Contract of At of package utf. No condition beyond those that each theorem states.
-/
import Derived.Test.YtpmgccjhflcoiaaDoorShelf
import Derived.Test.YtpmgccjhflcoiaaDoorBlocks
import Derived.Shelf.Strings.MapAny
import Derived.WalkLawsBesides
import Derived.WalkSpells
import Derived.BigQuiet
import Derived.BigRegion
import Derived.Deep.QuietTactic
import Derived.Deep.RegionLaw
import Derived.Deep.LoopGhost
import Derived.Deep.DeepCutAuto
import Derived.Deep.CutBlock
import Derived.Deep.Draws
namespace Go.Proofs.YtpmgccjhflcoiaaDoor
open Go.RowKit
set_option linter.unusedSimpArgs false
set_option linter.unusedVariables false

/-- the sign at a place, and how many bytes: as the library reads them -/
def dec (s : ByteArray) (i : Nat) : Nat × Nat := Utf8.decode s i
/-- is it a sign -/
def okAt (s : ByteArray) (i : Nat) : Bool := !(decide ((dec s i).1 = 65533 ∧ (dec s i).2 < 2))
def itemV (a z r : Int) (k : Bool) : Value := .agg #[.int .i64 a, .int .i64 z, .int .i32 r, .bool k]
def itemAt (s : ByteArray) (i : Nat) : Value := if okAt s i then itemV i (dec s i).2 (dec s i).1 true else itemV i 1 65533 false
abbrev Tabs (w : World) : Prop := Lib.Utf8Tabs 0 1 w
theorem dec_bounds (s : ByteArray) (i : Nat) : (dec s i).1 ≤ 1114111 ∧ 1 ≤ (dec s i).2 ∧ (dec s i).2 ≤ 4 := by
  unfold dec
  rw [Lib.decode_at]
  unfold Lib.decodeN
  have h0 : (s.get! i).toNat < 256 := UInt8.toNat_lt _
  repeat' split
  all_goals (simp only []; omega)
theorem info35 : (Tryd.prog.info? 35).map (·.size) = some 4 := by kernel_rfl
theorem item_blk {w : World} {n : Nat} {a b c d a' b' c' d' : Value} {t : TypeId} (h : w.heap[n]? = some (.cells #[a, b, c, d] t (0, 0))) :
    ((((w.setCell ⟨n, 0, none⟩ a').setCell ⟨n, 1, none⟩ b').setCell ⟨n, 2, none⟩ c').setCell ⟨n, 3, none⟩ d').heap[n]? = some (.cells #[a', b', c', d'] t (0, 0)) :=
  blk_set (blk_set (blk_set (blk_set h)))
theorem at_out (s : ByteArray) (i : Int) (hi : i < 0 ∨ (s.size : Int) ≤ i) (hs : s.size ≤ 1000000) (w : World) :
    Calls Tryd.prog 19 #[.string s, .int .i64 i] w fun e w' => e = .returned (itemV 0 0 0 false) ∧ Below w.heap.size w w' := by
  by_cases h0 : i < 0
  · go_enter Tryd.func19, Tryd.ntmps19
    go_wp2_with fail
    refine bodyPost_ret (results_cell_row rfl _ _ w.heap.size 35 _ (0, 0) _ rfl (blk_new _ _) Tryd.underlying35 rfl info35) rfl ⟨rfl, (Below.refl _ _).alloc (Nat.le_refl _) _⟩
  · have h1 : (s.size : Int) ≤ i := by omega
    go_enter Tryd.func19, Tryd.ntmps19
    go_wp2_with fail
    refine bodyPost_ret (results_cell_row rfl _ _ w.heap.size 35 _ (0, 0) _ rfl (blk_new _ _) Tryd.underlying35 rfl info35) rfl ⟨rfl, (Below.refl _ _).alloc (Nat.le_refl _) _⟩
theorem at_in (s : ByteArray) (i : Nat) (hi : i < s.size) (hs : s.size ≤ 1000000) (w : World) (hT : Tabs w) :
    Calls Tryd.prog 19 #[.string s, .int .i64 i] w fun e w' => e = .returned (itemAt s i) ∧ Below w.heap.size w w' := by
  have hb0 : Below w.heap.size w (w.alloc (.cells #[.int .i64 0, .int .i64 0, .int .i32 0, .bool false] 35)) := (Below.refl _ _).alloc (Nat.le_refl _) _
  have hd := Tryd.utf8_DecodeRuneInString (s.extract i s.size) (w.alloc (.cells #[.int .i64 0, .int .i64 0, .int .i32 0, .bool false] 35)) (Utf8Tabs_below hT hb0)
  rw [Lib.decodeGo_extract s i hi] at hd
  obtain ⟨b1, b2, b3⟩ := dec_bounds s i
  unfold itemAt okAt
  unfold dec at *
  have hblk := blk_new w (.cells #[.int .i64 0, .int .i64 0, .int .i32 0, .bool false] 35)
  have hsz : w.heap.size < (w.alloc (.cells #[.int .i64 0, .int .i64 0, .int .i32 0, .bool false] 35)).heap.size := by simp
  generalize (Utf8.decode s i).1 = r at *
  generalize (Utf8.decode s i).2 = k at *
  by_cases hr : r = 65533 ∧ k < 2
  · obtain ⟨rfl, hk⟩ := hr
    have hk1 : k = 1 := by omega
    subst hk1
    rw [if_neg (by decide)]
    go_enter Tryd.func19, Tryd.ntmps19
    go_wp2_with fail
    refine hd.mono ?_
    rintro e w2 ⟨rfl, hb2⟩
    have hcell := (hb2.block w.heap.size hsz).trans hblk
    have c0 : w2.cell? ⟨w.heap.size, 0, none⟩ = some (.int .i64 0) := blk_cell hcell rfl
    have c1 : w2.cell? ⟨w.heap.size, 1, none⟩ = some (.int .i64 0) := blk_cell hcell rfl
    have c2 : w2.cell? ⟨w.heap.size, 2, none⟩ = some (.int .i32 0) := blk_cell hcell rfl
    have c3 : w2.cell? ⟨w.heap.size, 3, none⟩ = some (.bool false) := blk_cell hcell rfl
    have f0 : w2.frozen? ⟨w.heap.size, 0, none⟩ = false := blk_free hcell
    have f1 : w2.frozen? ⟨w.heap.size, 1, none⟩ = false := blk_free hcell
    have f2 : w2.frozen? ⟨w.heap.size, 2, none⟩ = false := blk_free hcell
    have f3 : w2.frozen? ⟨w.heap.size, 3, none⟩ = false := blk_free hcell
    have HC := (show Hid _ from And.intro hcell (hb0.trans (hb2.mono (Nat.le_of_lt hsz))))
    clear hd hcell hblk hb2
    go_wp2_with fail
    refine bodyPost_ret (results_cell_row rfl _ _ w.heap.size 35 _ (0, 0) _ rfl (item_blk HC.out.1) Tryd.underlying35 rfl info35) rfl ⟨rfl, ?_⟩
    exact (((HC.out.2.setCell (p := ⟨w.heap.size, 0, none⟩) (Nat.le_refl _) _).setCell (p := ⟨w.heap.size, 1, none⟩) (Nat.le_refl _) _).setCell (p := ⟨w.heap.size, 2, none⟩) (Nat.le_refl _) _).setCell (p := ⟨w.heap.size, 3, none⟩) (Nat.le_refl _) _
  · rw [if_pos (by simp only [decide_eq_false hr, Bool.not_false])]
    by_cases hr1 : r = 65533
    · subst hr1
      have hk2 : ¬ ((k : Int) < 2) := by omega
      go_enter Tryd.func19, Tryd.ntmps19
      go_wp2_with fail
      refine hd.mono ?_
      rintro e w2 ⟨rfl, hb2⟩
      have hcell := (hb2.block w.heap.size hsz).trans hblk
      have c0 : w2.cell? ⟨w.heap.size, 0, none⟩ = some (.int .i64 0) := blk_cell hcell rfl
      have c1 : w2.cell? ⟨w.heap.size, 1, none⟩ = some (.int .i64 0) := blk_cell hcell rfl
      have c2 : w2.cell? ⟨w.heap.size, 2, none⟩ = some (.int .i32 0) := blk_cell hcell rfl
      have c3 : w2.cell? ⟨w.heap.size, 3, none⟩ = some (.bool false) := blk_cell hcell rfl
      have f0 : w2.frozen? ⟨w.heap.size, 0, none⟩ = false := blk_free hcell
      have f1 : w2.frozen? ⟨w.heap.size, 1, none⟩ = false := blk_free hcell
      have f2 : w2.frozen? ⟨w.heap.size, 2, none⟩ = false := blk_free hcell
      have f3 : w2.frozen? ⟨w.heap.size, 3, none⟩ = false := blk_free hcell
      have HC := (show Hid _ from And.intro hcell (hb0.trans (hb2.mono (Nat.le_of_lt hsz))))
      clear hd hcell hblk hb2
      go_wp2_with fail
      refine bodyPost_ret (results_cell_row rfl _ _ w.heap.size 35 _ (0, 0) _ rfl (item_blk HC.out.1) Tryd.underlying35 rfl info35) rfl ⟨rfl, ?_⟩
      exact (((HC.out.2.setCell (p := ⟨w.heap.size, 0, none⟩) (Nat.le_refl _) _).setCell (p := ⟨w.heap.size, 1, none⟩) (Nat.le_refl _) _).setCell (p := ⟨w.heap.size, 2, none⟩) (Nat.le_refl _) _).setCell (p := ⟨w.heap.size, 3, none⟩) (Nat.le_refl _) _
    · have hr2 : ((r : Int) == 65533) = false := by simp; omega
      have hr3 : ¬ (r : Int) = 65533 := by omega
      go_enter Tryd.func19, Tryd.ntmps19
      go_wp2_with fail
      refine hd.mono ?_
      rintro e w2 ⟨rfl, hb2⟩
      have hcell := (hb2.block w.heap.size hsz).trans hblk
      have c0 : w2.cell? ⟨w.heap.size, 0, none⟩ = some (.int .i64 0) := blk_cell hcell rfl
      have c1 : w2.cell? ⟨w.heap.size, 1, none⟩ = some (.int .i64 0) := blk_cell hcell rfl
      have c2 : w2.cell? ⟨w.heap.size, 2, none⟩ = some (.int .i32 0) := blk_cell hcell rfl
      have c3 : w2.cell? ⟨w.heap.size, 3, none⟩ = some (.bool false) := blk_cell hcell rfl
      have f0 : w2.frozen? ⟨w.heap.size, 0, none⟩ = false := blk_free hcell
      have f1 : w2.frozen? ⟨w.heap.size, 1, none⟩ = false := blk_free hcell
      have f2 : w2.frozen? ⟨w.heap.size, 2, none⟩ = false := blk_free hcell
      have f3 : w2.frozen? ⟨w.heap.size, 3, none⟩ = false := blk_free hcell
      have HC := (show Hid _ from And.intro hcell (hb0.trans (hb2.mono (Nat.le_of_lt hsz))))
      clear hd hcell hblk hb2
      go_wp2_with fail
      refine bodyPost_ret (results_cell_row rfl _ _ w.heap.size 35 _ (0, 0) _ rfl (item_blk HC.out.1) Tryd.underlying35 rfl info35) rfl ⟨rfl, ?_⟩
      exact (((HC.out.2.setCell (p := ⟨w.heap.size, 0, none⟩) (Nat.le_refl _) _).setCell (p := ⟨w.heap.size, 1, none⟩) (Nat.le_refl _) _).setCell (p := ⟨w.heap.size, 2, none⟩) (Nat.le_refl _) _).setCell (p := ⟨w.heap.size, 3, none⟩) (Nat.le_refl _) _
end Go.Proofs.YtpmgccjhflcoiaaDoor
