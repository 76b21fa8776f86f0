/-
  Contract of Items of package utf. No condition beyond those that each theorem states.
-/
import Derived.Test.YtpmgccjhflcoiaaDoorBack
import Derived.Test.YtpmgccjhflcoiaaDoorLocal
import Derived.Maps.AppendAt
import Derived.Deep.AppendLies
import Derived.OwnWalk
namespace Go.Proofs.YtpmgccjhflcoiaaDoor
open Go.RowKit
set_option linter.unusedSimpArgs false
set_option linter.unusedVariables false

def runeI (s : ByteArray) (i : Nat) : Int := if okAt s i then ((dec s i).1 : Nat) else 65533
/-- an item's four cells -/
def itemC (s : ByteArray) (i : Nat) : List Value := [.int .i64 (i : Int), .int .i64 (wid s i : Nat), .int .i32 (runeI s i), .bool (okAt s i)]
theorem item_agg (s : ByteArray) (i : Nat) : itemAt s i = .agg #[.int .i64 (i : Int), .int .i64 (wid s i : Nat), .int .i32 (runeI s i), .bool (okAt s i)] := by
  unfold itemAt itemV wid runeI
  cases okAt s i with
  | true => rw [if_pos rfl, if_pos rfl, if_pos rfl]
  | false => rw [if_neg (by simp), if_neg (by simp), if_neg (by simp)]; rfl
/-- the cells of the first items -/
def itemsC (s : ByteArray) : Nat → List Value
  | 0 => []
  | k + 1 => itemsC s k ++ itemC s (pos s k)
theorem itemsC_len (s : ByteArray) (k : Nat) : (itemsC s k).length = k * 4 := by
  induction k with
  | zero => rfl
  | succ k ih => unfold itemsC; rw [List.length_append, ih]; show _ + 4 = _; omega
theorem itemsC_at (s : ByteArray) (n k j : Nat) (hk : k < n) (hj : j < 4) : (itemsC s n)[k * 4 + j]? = (itemC s (pos s k))[j]? := by
  induction n with
  | zero => omega
  | succ n ih =>
    have hl := itemsC_len s n
    unfold itemsC
    rcases Nat.lt_or_ge k n with h | h
    · rw [List.getElem?_append_left (by omega)]; exact ih h
    · obtain rfl : k = n := by omega
      rw [List.getElem?_append_right (by omega), hl]
      congr 1; omega
/-- the items lie in a row -/
def RowI (s : ByteArray) (W : World) (g n : Nat) : Prop := ∀ k, k < n → W.cell? ⟨g, k * 4, none⟩ = some (.int .i64 (pos s k : Nat)) ∧ W.cell? ⟨g, k * 4 + 1, none⟩ = some (.int .i64 (wid s (pos s k) : Nat)) ∧ W.cell? ⟨g, k * 4 + 2, none⟩ = some (.int .i32 (runeI s (pos s k))) ∧ W.cell? ⟨g, k * 4 + 3, none⟩ = some (.bool (okAt s (pos s k)))
theorem RowI.later {s : ByteArray} {W W' : World} {g n : Nat} (h : RowI s W g n) (hb : Below W.heap.size W W') : RowI s W' g n := fun k hk => by
  obtain ⟨h1, h2, h3, h4⟩ := h k hk
  exact ⟨later_cell hb h1, later_cell hb h2, later_cell hb h3, later_cell hb h4⟩
theorem own_rowI {s : ByteArray} {B : Nat} {W : World} {g cap n : Nat} (h : W.ownsRow B 35 4 (.slice (some ⟨g, 0, none⟩) n cap) n (itemsC s n)) : RowI s W g n := by
  intro k hk
  have each : ∀ j u, j < 4 → (itemC s (pos s k))[j]? = some u → W.cell? ⟨g, k * 4 + j, none⟩ = some u := by
    intro j u hj hu
    have := World.ownsRow.cells h (g := g) rfl (k * 4 + j) u (by rw [itemsC_at s n k j hk hj]; exact hu)
    rw [← this]
    congr 1
    unfold Addr.add
    split
    · rename_i h0; rw [h0]
    · simp
  exact ⟨each 0 _ (by omega) rfl, each 1 _ (by omega) rfl, each 2 _ (by omega) rfl, each 3 _ (by omega) rfl⟩
theorem info35b : (Tryd.prog.info? 35).map (fun i => (i.zero, i.size, i.bytes)) = some (some (.agg #[.int .i64 0, .int .i64 0, .int .i32 0, .bool false]), 4, 24) := by kernel_rfl
def ItemsSays (s : ByteArray) (w : World) (e : Ending) (w' : World) : Prop := ∃ n g cap : Nat, pos s n = s.size ∧ e = .returned (if n = 0 then .slice none 0 0 else .slice (some ⟨g, 0, none⟩) n cap) ∧ RowI s w' g n ∧ Below w.heap.size w w'
theorem item_one (s : ByteArray) (i : Nat) : ∀ u ∈ itemC s i, u.oneCell' = true := by
  intro u hu
  unfold itemC at hu
  simp at hu
  rcases hu with rfl | rfl | rfl | rfl <;> rfl
theorem item_new (w : World) (s : ByteArray) (i : Nat) : ∀ j u, (itemC s i)[j]? = some u → (w.alloc (.cells #[.int .i64 (i : Int), .int .i64 (wid s i : Nat), .int .i32 (runeI s i), .bool (okAt s i)] 35)).cell? ((⟨w.heap.size, 0, none⟩ : Addr).add j) = some u := by
  intro j u hu
  have ha : (⟨w.heap.size, 0, none⟩ : Addr).add j = ⟨w.heap.size, j, none⟩ := by
    unfold Addr.add
    split
    · rename_i h0; subst h0; rfl
    · simp
  rw [ha]
  refine blk_cell (blk_new w _) ?_
  rw [← hu]
  unfold itemC
  simp
set_option maxRecDepth 100000 in
set_option maxHeartbeats 1000000 in
theorem items_ok (s : ByteArray) (hs : s.size ≤ 1000000) (w : World) (hT : Tabs w) : Calls Tryd.prog 32 #[.string s] w (ItemsSays s w) := by
  by_cases h0 : s.size = 0
  · have hse : s = ⟨#[]⟩ := ByteArray.ext (Array.eq_empty_of_size_eq_zero h0)
    subst hse
    clear h0
    go_enter Tryd.func32, Tryd.ntmps32
    go_wp2_with fail
    go_ret
    exact ⟨0, 0, 0, rfl, rfl, fun k hk => by omega, Below.refl _ _⟩
  · obtain ⟨i0, hi, hz0, hz1, hz2⟩ := info_parts info35b
    have cu := ucount_ok s hs w hT
    have hne : s.toList.isEmpty = false := by
      rw [ByteArray.toList_eq]
      cases h : s.data.toList with
      | nil => exfalso; apply h0; rw [Lib.size_eq, h]; rfl
      | cons a l => rfl
    have hne2 : ¬ s.toList = [] := by
      intro e; rw [e] at hne; cases hne
    have HT := (show Hid (∀ W, Below w.heap.size w W → Tabs W) from fun W h => Utf8Tabs_below hT h)
    have hms := fun (W : World) (n : Nat) (hn : n ≤ 1000000) => run_makeSlice (P := Tryd.prog) W 55 35 i0 (.agg #[.int .i64 0, .int .i64 0, .int .i32 0, .bool false]) Tryd.underlying55 hi hz0 .i64 .i64 0 n (by omega) (by omega) (by rw [hz1]; omega) (by rw [hz2]; omega) (by omega)
    have HMS := Lib.hid hms
    clear hms hT
    go_enter Tryd.func32, Tryd.ntmps32
    go_wp2_with fail
    refine cu.mono ?_
    rintro e w1 ⟨n, rfl, hn, hb1⟩
    have hnp := pos_ge s n
    have hn6 : n ≤ 1000000 := by omega
    have hmk := HMS.out w1 n hn6
    simp only [Int.toNat_natCast, Int.toNat_zero] at hmk
    have HN := Lib.hid hn
    clear hn cu hnp
    have ho0 : (w1.alloc (.cells (madeCells #[.int .i64 0, .int .i64 0, .int .i32 0, .bool false] (n * 4)) 35)).ownsRow w.heap.size 35 4 (.slice (some ⟨w1.heap.size, 0, none⟩) 0 n) 0 (itemsC s 0) :=
      World.ownsRow_made w1 _ n hb1.size (by unfold maxLen; omega) (size_madeCells _ _)
    have hbm := hb1.alloc hb1.size (.cells (madeCells #[.int .i64 0, .int .i64 0, .int .i32 0, .bool false] (n * 4)) 35)
    go_wp2_with fail
    clear hmk HMS
    go_loopg [3, 4] s.size (fun g s3 s4 W => ∃ k gg cap : Nat, s4 = .int .i64 (pos s k : Nat) ∧ s3 = .slice (some ⟨gg, 0, none⟩) k cap ∧ W.ownsRow w.heap.size 35 4 s3 k (itemsC s k) ∧ pos s k ≤ s.size ∧ k ≤ pos s k ∧ s.size ≤ g + pos s k ∧ Below w.heap.size w W)
    case atStart => exact ⟨0, w1.heap.size, n, rfl, rfl, ho0, by show 0 ≤ _; omega, by show 0 ≤ 0; omega, by show _ ≤ _ + 0; omega, hbm⟩
    case round =>
      clear ho0 hbm hb1
      obtain ⟨k, gg, cap, rfl, rfl, ho, hle, hkp, hg, hb⟩ := hrel
      by_cases hin : pos s k < s.size
      · have ha := at_in s (pos s k) hin hs wr (HT.out wr hb)
        rw [item_agg] at ha
        have hw := wid_pos s (pos s k)
        have hwi := wid_in s (pos s k) hin
        have HIC := (show Hid (itemsC s (k + 1) = itemsC s k ++ itemC s (pos s k)) from rfl)
        have Hnx := (show Hid (pos s (k + 1) = pos s k + wid s (pos s k)) from rfl)
        have Hkn := Lib.hid (pos_ge s (k + 1))
        have hnew := fun W => item_new W s (pos s k)
        have hone := item_one s (pos s k)
        have hcl : (itemC s (pos s k)).length = 4 := rfl
        have hgl := (World.ownsRow.lt ho gg rfl)
        have HO := Lib.hid (And.intro ho hgl)
        generalize itemC s (pos s k) = C at *
        generalize wid s (pos s k) = z at *
        generalize runeI s (pos s k) = r at *
        generalize okAt s (pos s k) = b at *
        generalize pos s k = q at *
        have hin' : (q : Int) < (s.size : Int) := by omega
        clear ho hgl
        go_wp2_with fail
        refine ha.mono ?_
        rintro e w2 ⟨rfl, hb2⟩
        have hg2 : wr.grownBy w2 none := ⟨hb2.os, hb2.tape, hb2.output, hb2.size, fun k hk _ => hb2.block k hk⟩
        have HO2 := Lib.hid (And.intro (HO.out.1.kept hg2 (Or.inr (by intro e; cases e))) (And.intro HO.out.2.1 (Nat.lt_of_lt_of_le HO.out.2.2 hb2.size)))
        have HB2 := Lib.hid (hb.trans (hb2.mono hb.size))
        have hsz : w.heap.size ≤ w2.heap.size := HB2.out.size
        have hblk := blk_new w2 (.cells #[.int .i64 (q : Int), .int .i64 (z : Int), .int .i32 r, .bool b] 35)
        have d0 : (w2.alloc (.cells #[.int .i64 (q : Int), .int .i64 (z : Int), .int .i32 r, .bool b] 35)).cell? ⟨w2.heap.size, 0, none⟩ = some (.int .i64 (q : Int)) := blk_cell hblk rfl
        have HBL := Lib.hid hblk
        clear ha hg2 hb2 hblk
        have hnw := hnew (w2.alloc (.cells #[.int .i64 (q : Int), .int .i64 (z : Int), .int .i32 r, .bool b] 35))
        rw [show (w2.alloc (.cells #[.int .i64 (q : Int), .int .i64 (z : Int), .int .i32 r, .bool b] 35)).heap.size = w2.heap.size + 1 from by simp] at hnw
        have HNW := Lib.hid hnw
        have HOO := Lib.hid ((HO2.out.1.alloc (.cells #[.int .i64 (q : Int), .int .i64 (z : Int), .int .i32 r, .bool b] 35)).alloc (.cells #[.int .i64 (q : Int), .int .i64 (z : Int), .int .i32 r, .bool b] 35))
        have HBB := Lib.hid ((HB2.out.alloc HB2.out.size (.cells #[.int .i64 (q : Int), .int .i64 (z : Int), .int .i32 r, .bool b] 35)).alloc (HB2.out.alloc HB2.out.size (.cells #[.int .i64 (q : Int), .int .i64 (z : Int), .int .i32 r, .bool b] 35)).size (.cells #[.int .i64 (q : Int), .int .i64 (z : Int), .int .i32 r, .bool b] 35))
        have hblk2 := Lib.hid (show ((w2.alloc (.cells #[.int .i64 (q : Int), .int .i64 (z : Int), .int .i32 r, .bool b] 35)).alloc (.cells #[.int .i64 (q : Int), .int .i64 (z : Int), .int .i32 r, .bool b] 35)).heap[w2.heap.size]? = some (.cells #[.int .i64 (q : Int), .int .i64 (z : Int), .int .i32 r, .bool b] 35 (0, 0)) from by rw [blk_old (by simp)]; exact HBL.out)
        clear hnew hnw
        go_wp2_with (at_builtin; refine wpList_append_own_at _ rfl _ _ 55 rfl w.heap.size 35 i0 (.agg #[.int .i64 0, .int .i64 0, .int .i32 0, .bool false]) 4 24 Tryd.underlying55 hi hz0 hz1 hz2 rfl (by decide) _ _ _ rfl HOO.out ⟨w2.heap.size + 1, 0, none⟩ 1 1 C rfl hcl HNW.out hone (by unfold maxLen; omega) (by omega) (by simp; omega) ?_; intro v' w5 hown5 hgrow5 _ _; have hgr : ((w2.alloc (.cells #[.int .i64 (q : Int), .int .i64 (z : Int), .int .i32 r, .bool b] 35)).alloc (.cells #[.int .i64 (q : Int), .int .i64 (z : Int), .int .i32 r, .bool b] 35)).grownBy w5 (some gg) := hgrow5; clear hgrow5; have hb5 := (hgr.block w2.heap.size (by simp; omega) (by have := HO2.out.2.2; intro e; have := Option.some.inj e; omega)).trans hblk2.out; have d1 : w5.cell? ⟨w2.heap.size, 1, none⟩ = some (.int .i64 (z : Int)) := blk_cell hb5 rfl; have HF := Lib.hid (And.intro hown5 hgr); clear hown5 hgr hb5)
        go_roundg (gk - 1)
        case measure => omega
        case rel =>
          obtain ⟨g2, cap2, rfl, _, _⟩ := HF.out.1.form (by omega)
          refine ⟨k + 1, g2, cap2, by rw [Hnx.out]; go_num, rfl, by rw [HIC.out]; exact HF.out.1, by rw [Hnx.out]; exact hwi, Hkn.out, by rw [Hnx.out]; omega, HBB.out.grown HF.out.2 HBB.out.size (fun k' hk' => ?_)⟩
          have := Option.some.inj hk'
          have := HO2.out.2.1
          omega
      · have hq : pos s k = s.size := by omega
        have hin' : ¬ ((s.size : Int) < (s.size : Int)) := by omega
        have hrow := Lib.hid (own_rowI ho)
        have HQ := Lib.hid hq
        rw [hq]
        have hk0 := Lib.hid (show k ≠ 0 from by rintro rfl; exact h0 hq.symm)
        clear hin hle hkp hg hq ho hne hne2 h0
        go_wp2_with fail
        go_ret
        exact ⟨k, gg, cap, HQ.out, by rw [if_neg hk0.out]; rfl, hrow.out, hb⟩
end Go.Proofs.YtpmgccjhflcoiaaDoor
