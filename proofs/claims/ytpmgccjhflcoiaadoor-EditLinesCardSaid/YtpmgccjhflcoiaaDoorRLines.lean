/-
  Contracts of the answer's Count and Lines. No condition beyond those that each theorem states.
-/
import Derived.Test.YtpmgccjhflcoiaaDoorPlacesWalk
import Derived.Test.YtpmgccjhflcoiaaDoorTurned
import Derived.Laws.OwnMore
namespace Go.Proofs.YtpmgccjhflcoiaaDoor
open Go.RowKit
set_option linter.unusedSimpArgs false
set_option linter.unusedVariables false

set_option maxRecDepth 100000 in
theorem rcount_ok (s : ByteArray) (hs : s.size ≤ 1000000) (w : World) :
    Calls Tryd.prog 28 #[.string s] w fun e w' => ∃ n : Nat, e = .returned (.int .i64 n) ∧ pos s n = s.size ∧ Below w.heap.size w w' := by
  go_enter Tryd.func28, Tryd.ntmps28
  go_wp2_with fail
  go_loopg [3, 4] s.size (fun g s3 s4 W => ∃ k : Nat, s3 = .int .i64 (k : Int) ∧ s4 = .int .i64 (pos s k : Nat) ∧ pos s k ≤ s.size ∧ k ≤ pos s k ∧ s.size ≤ g + pos s k ∧ Below w.heap.size w W)
  case atStart => exact ⟨0, rfl, rfl, by show 0 ≤ _; omega, by show 0 ≤ 0; omega, by show _ ≤ _ + 0; omega, Below.refl _ _⟩
  case round =>
    obtain ⟨k, rfl, rfl, hle, hkp, hg, hb⟩ := hrel
    by_cases hin : pos s k < s.size
    · have ha := rat_dec s (pos s k) hin hs wr
      have hw := wid_pos s (pos s k)
      have hwi := wid_in s (pos s k) hin
      have hkn := pos_ge s (k + 1)
      have Hnx := (show Hid (pos s (k + 1) = pos s k + wid s (pos s k)) from rfl)
      have Hkn := (show Hid _ from hkn)
      clear hkn
      generalize wid s (pos s k) = z at ha hw hwi Hnx
      generalize runeAt s (pos s k) = r at ha
      generalize pos s k = q at ha hle hg hin hwi Hnx hkp ⊢
      have hin' : (q : Int) < (s.size : Int) := by omega
      go_wp2_with fail
      refine ha.mono ?_
      rintro e w2 ⟨rfl, hb2⟩
      clear ha
      go_wp2_with fail
      go_roundg (gk - 1)
      case measure => omega
      case rel => exact ⟨k + 1, by go_num, by rw [Hnx.out]; go_num, by rw [Hnx.out]; exact hwi, Hkn.out, by rw [Hnx.out]; omega, hb.trans (hb2.mono hb.size)⟩
    · have hf := (show Hid (pos s k = s.size) from (show pos s k = s.size by omega))
      generalize hq : pos s k = q at hf hle hg hin hkp ⊢
      have Hq := (show Hid _ from hq)
      clear hq
      have hin' : ¬ ((q : Int) < (s.size : Int)) := by omega
      go_wp2_with fail
      go_ret
      exact ⟨k, rfl, Hq.out.trans hf.out, hb⟩
theorem byte_get (s : ByteArray) (i : Nat) (h : i < s.size) : byteAt s i = (s[i]'h).toNat := by
  unfold byteAt; rw [Utf8W.get!_of_lt s i h]
/-- where the lines begin that begin at a place or ahead of it -/
def starts (s : ByteArray) : Nat → List Nat
  | 0 => [0]
  | k + 1 => if byteAt s k = 10 then starts s k ++ [k + 1] else starts s k
theorem starts_len (s : ByteArray) (k : Nat) : (starts s k).length = 1 + nl s k := by
  induction k with
  | zero => rfl
  | succ k ih =>
    have e : nl s (k + 1) = nl s k + (if byteAt s k = 10 then 1 else 0) := rfl
    unfold starts
    by_cases h : byteAt s k = 10
    · rw [if_pos h, List.length_append, ih, e, if_pos h]; rfl
    · rw [if_neg h, ih, e, if_neg h]; rfl
theorem starts_at (s : ByteArray) (k r : Nat) (h : r < 1 + nl s k) : Begins s ((starts s k).getD r 0) ∧ nl s ((starts s k).getD r 0) = r ∧ (starts s k).getD r 0 ≤ k := by
  induction k with
  | zero =>
    have : r = 0 := by have e : nl s 0 = 0 := rfl; omega
    subst this
    exact ⟨Or.inl rfl, rfl, Nat.le_refl _⟩
  | succ k ih =>
    have e : nl s (k + 1) = nl s k + (if byteAt s k = 10 then 1 else 0) := rfl
    have hl := starts_len s k
    unfold starts
    by_cases h10 : byteAt s k = 10
    · rw [if_pos h10] at e ⊢
      rcases Nat.lt_or_ge r (1 + nl s k) with hr | hr
      · rw [List.getD_eq_getElem?_getD, List.getElem?_append_left (by omega), ← List.getD_eq_getElem?_getD]
        obtain ⟨h1, h2, h3⟩ := ih hr
        exact ⟨h1, h2, by omega⟩
      · obtain rfl : r = 1 + nl s k := by omega
        rw [List.getD_eq_getElem?_getD, List.getElem?_append_right (by omega), hl, Nat.sub_self]
        exact ⟨Or.inr ⟨by simp, by simpa using h10⟩, by simp; omega, by simp⟩
    · rw [if_neg h10] at e ⊢
      obtain ⟨h1, h2, h3⟩ := ih (by omega)
      exact ⟨h1, h2, by omega⟩
theorem info3 : (Tryd.prog.info? 3).map (fun i => (i.zero, i.size, i.bytes)) = some (some (.int .i64 0), 1, 8) := by kernel_rfl
/-- a row of numbers of one's own -/
def OwnN (B : Nat) (W : World) (v : Value) (l : List Nat) : Prop := W.ownsRow B 3 1 v l.length (l.map fun n : Nat => Value.int .i64 (n : Int))
def RowN (W : World) (g : Nat) (l : List Nat) : Prop := ∀ r, r < l.length → W.cell? ⟨g, r, none⟩ = some (.int .i64 (l.getD r 0 : Nat))
theorem ownn_row {B : Nat} {W : World} {g cap : Nat} {l : List Nat} (h : OwnN B W (.slice (some ⟨g, 0, none⟩) l.length cap) l) : RowN W g l := by
  intro i hi
  have := World.ownsRow.cells h (g := g) rfl i (.int .i64 (l.getD i 0 : Nat)) (by simp [hi])
  rw [← this]
  congr 1
  unfold Addr.add
  split
  · rename_i h0; subst h0; rfl
  · simp
theorem RowN.later {W W' : World} {g : Nat} {l : List Nat} (h : RowN W g l) (hb : Below W.heap.size W W') : RowN W' g l := fun i hi => later_cell hb (h i hi)
theorem one_i64 (x : Int) : ∀ u ∈ [Value.int .i64 x], u.oneCell' = true := by
  intro u hu
  simp at hu
  subst hu
  rfl
def LinesSays (s : ByteArray) (w : World) (e : Ending) (w' : World) : Prop := ∃ g cap : Nat, e = .returned (.slice (some ⟨g, 0, none⟩) (1 + nl s s.size) cap) ∧ RowN w' g (starts s s.size) ∧ Below w.heap.size w w'
set_option maxRecDepth 100000 in
theorem rlines_ok (s : ByteArray) (hs : s.size ≤ 1000000) (w : World) : Calls Tryd.prog 24 #[.string s] w (LinesSays s w) := by
  obtain ⟨i0, hi, hz0, hz1, hz2⟩ := info_parts info3
  have hown0 : OwnN w.heap.size (w.alloc (.cells #[.int .i64 0] 3)) (.slice (some ⟨w.heap.size, 0, none⟩) 1 1) (starts s 0) := by
    have := World.ownsRow_lit (base := w.heap.size) (e := 3) (size := 1) w #[.int .i64 0] 1 (Nat.le_refl _) (by unfold maxLen; omega) rfl
    exact this
  go_enter Tryd.func24, Tryd.ntmps24
  go_wp2_with fail
  go_loopg [3, 4] s.size (fun g s3 s4 W => ∃ k gg cap : Nat, s4 = .int .i64 (k : Int) ∧ g + k = s.size ∧ s3 = .slice (some ⟨gg, 0, none⟩) (1 + nl s k) cap ∧ OwnN w.heap.size W s3 (starts s k) ∧ Below w.heap.size w W)
  case atStart => exact ⟨0, w.heap.size, 1, rfl, rfl, rfl, hown0, (Below.refl _ _).alloc (Nat.le_refl _) _⟩
  case round =>
    obtain ⟨k, gg, cap, rfl, hg, rfl, ho, hb⟩ := hrel
    have hlen := starts_len s k
    have hnl := nl_le s k
    by_cases hk : k < s.size
    · have hk' : (k : Int) < (s.size : Int) := by omega
      have eb := byte_get s k hk
      have eN : nl s (k + 1) = nl s k + (if byteAt s k = 10 then 1 else 0) := rfl
      have eS : starts s (k + 1) = if byteAt s k = 10 then starts s k ++ [k + 1] else starts s k := rfl
      have hsz : w.heap.size ≤ wr.heap.size := hb.size
      by_cases h10 : byteAt s k = 10
      · rw [if_pos h10] at eN eS
        rw [eb] at h10
        have h10' : ((((s[k]'hk).toNat : Nat) : Int) == 10) = true := by rw [h10]; rfl
        have HN := Lib.hid eN
        have HS := Lib.hid eS
        have HL := Lib.hid hlen
        have HO := Lib.hid (show wr.ownsRow w.heap.size 3 1 (.slice (some ⟨gg, 0, none⟩) (1 + nl s k) cap) (1 + nl s k) ((starts s k).map fun n : Nat => Value.int .i64 (n : Int)) from by unfold OwnN at ho; rw [hlen] at ho; exact ho)
        clear eN eS eb hlen ho hown0
        generalize hN : nl s k = n at *
        have HNN := Lib.hid hN
        clear hN
        go_wp2_with (at_builtin; refine wpList_append_own_at _ rfl _ _ 42 rfl w.heap.size 3 i0 (.int .i64 0) 1 8 Tryd.underlying42 hi hz0 hz1 hz2 rfl (by decide) _ _ _ rfl (HO.out.alloc _) ⟨wr.heap.size, 0, none⟩ 1 1 [.int .i64 _] rfl rfl (cell_one_new _ _ _) (one_i64 _) (by unfold maxLen; omega) (by omega) (by simp; omega) ?_; intro v' w5 hown5 hgrow5 _ _)
        go_roundg (gk - 1)
        case measure => omega
        case rel =>
          obtain ⟨g2, cap2, rfl, _, _⟩ := hown5.form (by omega)
          refine ⟨k + 1, g2, cap2, by go_num, by omega, by rw [HN.out, Nat.add_assoc], ?_, (hb.alloc hsz _).grown hgrow5 (by simp; omega) (fun k' hk' => (World.ownsRow.lt HO.out k' hk').1)⟩
          unfold OwnN
          rw [HS.out]
          simp only [List.map_append, List.map_cons, List.map_nil, List.length_append, List.length_cons, List.length_nil, Nat.zero_add]
          rw [HL.out]
          exact hown5
      · rw [if_neg h10] at eN eS
        rw [eb] at h10
        have h10' : ((((s[k]'hk).toNat : Nat) : Int) == 10) = false := by simp; omega
        have HN := Lib.hid eN
        have HS := Lib.hid eS
        have HO := Lib.hid ho
        clear eN eS eb hlen ho hown0
        go_wp2_with fail
        go_roundg (gk - 1)
        case measure => omega
        case rel => exact ⟨k + 1, gg, cap, by go_num, by omega, by rw [HN.out, Nat.add_zero], by rw [HS.out]; exact HO.out, hb⟩
    · obtain rfl : k = s.size := by omega
      have hk' : ¬ ((s.size : Int) < (s.size : Int)) := by omega
      have hrow := Lib.hid (show RowN wr gg (starts s s.size) from ownn_row (B := w.heap.size) (cap := cap) (by rw [hlen]; exact ho))
      clear hlen ho hown0
      go_wp2_with fail
      go_ret
      exact ⟨gg, cap, rfl, hrow.out, hb⟩
end Go.Proofs.YtpmgccjhflcoiaaDoor
