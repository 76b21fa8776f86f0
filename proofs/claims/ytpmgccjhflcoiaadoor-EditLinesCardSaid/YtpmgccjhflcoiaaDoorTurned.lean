/-
  Contract of turned of package edit. No condition beyond those that each theorem states.
-/
import Derived.Test.YtpmgccjhflcoiaaDoorAlike
import Derived.Maps.AppendAt
import Derived.Deep.AppendLies
import Derived.OwnWalk
namespace Go.Proofs.YtpmgccjhflcoiaaDoor
open Go.RowKit
set_option linter.unusedSimpArgs false
set_option linter.unusedVariables false

theorem info5 : (Tryd.prog.info? 5).map (fun i => (i.zero, i.size, i.bytes)) = some (some (.int .u8 0), 1, 1) := by kernel_rfl
def TurnedSays (s : ByteArray) (w : World) (e : Ending) (w' : World) : Prop := ∃ g cap : Nat, e = .returned (.slice (some ⟨g, 0, none⟩) s.size cap) ∧ RowAt w' g s.data.toList.reverse ∧ Below w.heap.size w w'
def OwnB (B : Nat) (W : World) (v : Value) (l : List UInt8) : Prop := W.ownsRow B 5 1 v l.length (l.map fun b => Value.int .u8 (b.toNat : Int))
theorem one_u8 (x : Int) : ∀ u ∈ [Value.int .u8 x], u.oneCell' = true := by
  intro u hu
  simp at hu
  subst hu
  rfl
theorem ownb_row {B : Nat} {W : World} {g cap : Nat} {l : List UInt8} (h : OwnB B W (.slice (some ⟨g, 0, none⟩) l.length cap) l) : RowAt W g l := by
  intro i hi
  have := World.ownsRow.cells h (g := g) rfl i (.int .u8 ((l[i]'hi).toNat : Int)) (by simp [hi])
  rw [← this]
  congr 1
  unfold Addr.add
  split
  · rename_i h0; subst h0; rfl
  · simp
theorem take_rev (s : ByteArray) (k i : Nat) (h : k + (i + 1) = s.size) (hi : i < s.size) : s.data.toList.reverse.take (k + 1) = s.data.toList.reverse.take k ++ [s[i]'hi] := by
  have hl : k < s.data.toList.reverse.length := by rw [List.length_reverse, ← Lib.size_eq]; omega
  rw [List.take_succ_eq_append_getElem hl, List.getElem_reverse]
  congr 2
  have : s.data.toList.length - 1 - k = i := by rw [← Lib.size_eq]; omega
  simp only [this]
  rfl
set_option maxRecDepth 100000 in
theorem turned_ok (s : ByteArray) (hs : s.size ≤ 1000000) (w : World) : Calls Tryd.prog 49 #[.string s] w (TurnedSays s w) := by
  obtain ⟨i0, hi, hz0, hz1, hz2⟩ := info_parts info5
  have hms := fun (W : World) => run_makeSlice (P := Tryd.prog) W 65 5 i0 (.int .u8 0) Tryd.underlying65 hi hz0 .i64 .i64 0 s.size (by omega) (by omega) (by rw [hz1]; omega) (by rw [hz2]; omega) (by omega)
  simp only [Int.toNat_natCast, Int.toNat_zero] at hms
  rw [hz1, Nat.mul_one] at hms
  have hown0 : OwnB w.heap.size (w.alloc (.cells (madeCells (Value.int .u8 0).cells s.size) 5)) (.slice (some ⟨w.heap.size, 0, none⟩) 0 s.size) [] :=
    World.ownsRow_made w _ _ (Nat.le_refl _) (by unfold maxLen; omega) (by simp [size_madeCells, Value.cells])
  go_enter Tryd.func49, Tryd.ntmps49
  go_wp2_with fail
  go_loopg [3, 4] s.size (fun g s3 s4 W => ∃ k j gg cap : Nat, s4 = .int .i64 ((j : Int) - 1) ∧ k + j = s.size ∧ j ≤ g ∧ s3 = .slice (some ⟨gg, 0, none⟩) k cap ∧ OwnB w.heap.size W s3 (s.data.toList.reverse.take k) ∧ Below w.heap.size w W)
  case atStart => exact ⟨0, s.size, w.heap.size, s.size, by congr 1, by omega, Nat.le_refl _, rfl, hown0, (Below.refl _ _).alloc (Nat.le_refl _) _⟩
  case round =>
    obtain ⟨k, j, gg, cap, rfl, hkj, hg, rfl, ho, hb⟩ := hrel
    have hlen : (s.data.toList.reverse.take k).length = k := by rw [List.length_take, List.length_reverse, ← Lib.size_eq]; omega
    by_cases hj : j = 0
    · subst hj
      have hall : s.data.toList.reverse.take k = s.data.toList.reverse := List.take_of_length_le (by rw [List.length_reverse, ← Lib.size_eq]; omega)
      obtain rfl : k = s.size := by omega
      have hrow := Lib.hid (show RowAt wr gg s.data.toList.reverse from by
        rw [← hall]
        refine ownb_row (B := w.heap.size) (cap := cap) ?_
        rw [hlen]; exact ho)
      clear hall hlen ho hown0
      go_wp2_with fail
      go_ret
      exact ⟨gg, cap, rfl, hrow.out, hb⟩
    · obtain ⟨i, rfl⟩ : ∃ i, j = i + 1 := ⟨j - 1, by omega⟩
      have e : ((i + 1 : Nat) : Int) - 1 = (i : Int) := by omega
      rw [e]
      have hi' : i < s.size := by omega
      have hi2 : (i : Int) < (s.size : Int) := by omega
      have Ht := Lib.hid (take_rev s k i hkj hi')
      have HO := Lib.hid (show wr.ownsRow w.heap.size 5 1 (.slice (some ⟨gg, 0, none⟩) k cap) k ((s.data.toList.reverse.take k).map fun b => Value.int .u8 (b.toNat : Int)) from by unfold OwnB at ho; rw [hlen] at ho; exact ho)
      have hsz : w.heap.size ≤ wr.heap.size := hb.size
      clear hlen ho hown0 hms e hj
      go_wp2_with (at_builtin; refine wpList_append_own_at _ rfl _ _ 65 rfl w.heap.size 5 i0 (.int .u8 0) 1 1 Tryd.underlying65 hi hz0 hz1 hz2 rfl (by decide) _ _ _ rfl (HO.out.alloc _) ⟨wr.heap.size, 0, none⟩ 1 1 [.int .u8 _] rfl rfl (cell_one_new _ _ _) (one_u8 _) (by unfold maxLen; omega) (by omega) (by simp; omega) ?_; intro v' w5 hown5 hgrow5 _ _)
      go_roundg i
      case measure => omega
      case rel =>
        obtain ⟨g2, cap2, rfl, _, _⟩ := hown5.form (by omega)
        refine ⟨k + 1, i, g2, cap2, rfl, by omega, Nat.le_refl _, rfl, ?_, (hb.alloc hsz _).grown hgrow5 (by simp; omega) (fun k' hk' => ?_)⟩
        · unfold OwnB
          rw [Ht.out]
          simp only [List.map_append, List.map_cons, List.map_nil, List.length_append, List.length_cons, List.length_nil, Nat.zero_add]
          have hl2 : (s.data.toList.reverse.take k).length = k := by rw [List.length_take, List.length_reverse, ← Lib.size_eq]; omega
          rw [hl2]
          exact hown5
        · exact (World.ownsRow.lt HO.out k' hk').1
end Go.Proofs.YtpmgccjhflcoiaaDoor
