/-
  Contracts of Count of package utf, and of Lines and Clone. No condition beyond those that each theorem states.
-/
import Derived.Test.YtpmgccjhflcoiaaDoorRApply
namespace Go.Proofs.YtpmgccjhflcoiaaDoor
open Go.RowKit
set_option linter.unusedSimpArgs false
set_option linter.unusedVariables false

theorem pos_ge (s : ByteArray) (k : Nat) : k ≤ pos s k := by
  induction k with
  | zero => exact Nat.zero_le _
  | succ k ih => have := pos_lt s k; omega
theorem item_size (s : ByteArray) (i : Nat) : ∃ r : Int, ∃ b : Bool, itemAt s i = .agg #[.int .i64 i, .int .i64 (wid s i : Nat), .int .i32 r, .bool b] := by
  unfold itemAt itemV wid
  split
  · exact ⟨_, _, rfl⟩
  · exact ⟨_, _, rfl⟩
set_option maxRecDepth 100000 in
theorem ucount_ok (s : ByteArray) (hs : s.size ≤ 1000000) (w : World) (hT : Tabs w) :
    Calls Tryd.prog 37 #[.string s] w fun e w' => ∃ n : Nat, e = .returned (.int .i64 n) ∧ pos s n = s.size ∧ Below w.heap.size w w' := by
  go_enter Tryd.func37, Tryd.ntmps37
  go_wp2_with fail
  go_loopg [3, 4] s.size (fun g s3 s4 W => ∃ k : Nat, s3 = .int .i64 (k : Int) ∧ s4 = .int .i64 (pos s k : Nat) ∧ pos s k ≤ s.size ∧ k ≤ pos s k ∧ s.size ≤ g + pos s k ∧ Below w.heap.size w W)
  case atStart => exact ⟨0, rfl, rfl, by show 0 ≤ _; omega, by show 0 ≤ 0; omega, by show _ ≤ _ + 0; omega, Below.refl _ _⟩
  case round =>
    obtain ⟨k, rfl, rfl, hle, hkp, hg, hb⟩ := hrel
    by_cases hin : pos s k < s.size
    · have ha := at_in s (pos s k) hin hs wr (Utf8Tabs_below hT hb)
      obtain ⟨r, b, hit⟩ := item_size s (pos s k)
      rw [hit] at ha
      have hw := wid_pos s (pos s k)
      have hwi := wid_in s (pos s k) hin
      have hkn := pos_ge s (k + 1)
      have Hnx := (show Hid (pos s (k + 1) = pos s k + wid s (pos s k)) from rfl)
      have Hkn := (show Hid _ from hkn)
      clear hit hkn
      generalize wid s (pos s k) = z at ha hw hwi Hnx
      generalize pos s k = q at ha hle hg hin hwi Hnx hkp ⊢
      have hfield : ∀ W : World, (Instr.field 35 (.agg #[.int .i64 (q : Int), .int .i64 (z : Int), .int .i32 r, .bool b]) 1).run Tryd.prog W = .ok (.int .i64 (z : Int)) W := fun W => by kernel_rfl
      go_wp2_with fail
      refine ha.mono ?_
      rintro e w2 ⟨rfl, hb2⟩
      clear ha
      go_wp2_with fail
      go_roundg (gk - 1)
      case measure => omega
      case rel => exact ⟨k + 1, by go_num, by rw [Hnx.out]; go_num, by rw [Hnx.out]; exact hwi, Hkn.out, by rw [Hnx.out]; omega, hb.trans (hb2.mono hb.size)⟩
    · have hf := (show Hid (pos s k = s.size) from (show pos s k = s.size by omega))
      generalize hq : pos s k = q at hf hle hg hin hkp ⊢
      have Hq := (show Hid _ from hq)
      clear hq
      have hin' : ¬ ((q : Int) < (s.size : Int)) := by omega
      go_wp2_with fail
      go_ret
      exact ⟨k, rfl, Hq.out.trans hf.out, hb⟩
set_option maxRecDepth 100000 in
theorem clone_ok (s : ByteArray) (hs : s.size ≤ 1000000) (w : World) :
    Calls Tryd.prog 50 #[.string s] w fun e w' => e = .returned (.string s) ∧ Below w.heap.size w w' := by
  have hc := Tryd.stringslite_Clone s w (by omega)
  go_enter Tryd.func50, Tryd.ntmps50
  go_wp2_with fail
  refine hc.mono ?_
  rintro e w' ⟨rfl, hb⟩
  go_wp2_with fail
  go_ret
  exact ⟨rfl, hb⟩
theorem lines_ok (s : ByteArray) (m : Int) (hs : s.size ≤ 1000000) (w : World) (hm : w.cell? ⟨2, 0, none⟩ = some (.int .i64 m)) (hc : Lib.countB s ⟨#[10]⟩ ≤ 1000000 ∧ 0 ≤ Lib.countB s ⟨#[10]⟩) :
    Calls Tryd.prog 25 #[.string s] w fun e w' => e = .returned (.int .i64 (1 + Lib.countB s ⟨#[10]⟩)) ∧ w' = w := by
  have h := Tryd.strings_Count_any s ⟨#[10]⟩ m w (by omega) hm (by decide)
  generalize Lib.countB s ⟨#[10]⟩ = n at *
  go_enter Tryd.func25, Tryd.ntmps25
  go_wp2_with fail
  refine h.mono ?_
  rintro e w' ⟨rfl, rfl⟩
  clear h
  go_wp2_with fail
  go_ret
  exact ⟨rfl, rfl⟩
end Go.Proofs.YtpmgccjhflcoiaaDoor
