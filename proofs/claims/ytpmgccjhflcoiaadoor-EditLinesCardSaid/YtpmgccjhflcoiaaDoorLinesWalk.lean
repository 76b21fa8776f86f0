/-
  The walk of EditLines. No condition beyond those that each theorem states.
-/
import Derived.Test.YtpmgccjhflcoiaaDoorLRows
import Derived.Test.YtpmgccjhflcoiaaDoorSplice
namespace Go.Proofs.YtpmgccjhflcoiaaDoor
open Go.RowKit
set_option linter.unusedSimpArgs false
set_option linter.unusedVariables false

/-- what Line tells of any place -/
def LineRel (s : ByteArray) (i ln cl : Int) (b : Bool) : Prop := b = caretI s i ∧ (b = false → ln = 0 ∧ cl = 0) ∧ (b = true → ∃ p k : Nat, i = p ∧ p ≤ s.size ∧ caretN s p = true ∧ ln = (nl s p : Nat) ∧ cl = k ∧ LineIs s p k)
def LineAny (s : ByteArray) (i : Int) (w : World) (e : Ending) (w' : World) : Prop := ∃ (ln cl : Int) (b : Bool), e = .returned (.tuple #[.int .i64 ln, .int .i64 cl, .bool b]) ∧ LineRel s i ln cl b ∧ Below w.heap.size w w'
theorem line_any (s : ByteArray) (i : Int) (hs : s.size ≤ 1000000) (w : World) (hT : Tabs w) : Calls Tryd.prog 26 #[.string s, .int .i64 i] w (LineAny s i w) := by
  cases hc : caretI s i with
  | false =>
    refine (line_no s i hs w hT hc).mono ?_
    rintro e w' ⟨rfl, hb⟩
    exact ⟨0, 0, false, rfl, ⟨hc.symm, fun _ => ⟨rfl, rfl⟩, fun h => (by cases h)⟩, hb⟩
  | true =>
    have hr : 0 ≤ i ∧ i ≤ s.size := by
      unfold caretI at hc
      rw [Bool.and_eq_true, decide_eq_true_iff] at hc
      exact hc.1
    obtain ⟨p, rfl⟩ : ∃ p : Nat, i = p := ⟨i.toNat, by omega⟩
    refine (line_yes s p hs w hT hc).mono ?_
    rintro e w' ⟨k, rfl, hk, hb⟩
    exact ⟨_, _, true, rfl, ⟨hc.symm, fun h => (by cases h), fun _ => ⟨p, k, rfl, by omega, by rw [← caretI_nat s p (by omega)]; exact hc, rfl, rfl, hk⟩⟩, hb⟩
theorem four_later {w W W' : World} {a b c d : Nat} {x y z : Int} (hb : Below W.heap.size W W') (h : W.cell? ⟨a, 0, none⟩ = some (.int .i64 x) ∧ W.cell? ⟨b, 1, none⟩ = some (.int .i64 y) ∧ W.cell? ⟨c, d, none⟩ = some (.int .i64 z) ∧ Below w.heap.size w W) :
    W'.cell? ⟨a, 0, none⟩ = some (.int .i64 x) ∧ W'.cell? ⟨b, 1, none⟩ = some (.int .i64 y) ∧ W'.cell? ⟨c, d, none⟩ = some (.int .i64 z) ∧ Below w.heap.size w W' :=
  ⟨later_cell hb h.1, later_cell hb h.2.1, later_cell hb h.2.2.1, h.2.2.2.trans (hb.mono h.2.2.2.size)⟩
theorem four_drawn {w W : World} {a b c d : Nat} {x y z : Int} (h : W.cell? ⟨a, 0, none⟩ = some (.int .i64 x) ∧ W.cell? ⟨b, 1, none⟩ = some (.int .i64 y) ∧ W.cell? ⟨c, d, none⟩ = some (.int .i64 z) ∧ Below w.heap.size w W) (n : Nat) :
    (W.drewN n).cell? ⟨a, 0, none⟩ = some (.int .i64 x) ∧ (W.drewN n).cell? ⟨b, 1, none⟩ = some (.int .i64 y) ∧ (W.drewN n).cell? ⟨c, d, none⟩ = some (.int .i64 z) ∧ Below w.heap.size w (W.drewN n) :=
  four_later (drewN_below _ _ _) h
theorem four_drew {w W : World} {a b c d : Nat} {x y z : Int} (h : W.cell? ⟨a, 0, none⟩ = some (.int .i64 x) ∧ W.cell? ⟨b, 1, none⟩ = some (.int .i64 y) ∧ W.cell? ⟨c, d, none⟩ = some (.int .i64 z) ∧ Below w.heap.size w W) :
    W.drew.cell? ⟨a, 0, none⟩ = some (.int .i64 x) ∧ W.drew.cell? ⟨b, 1, none⟩ = some (.int .i64 y) ∧ W.drew.cell? ⟨c, d, none⟩ = some (.int .i64 z) ∧ Below w.heap.size w W.drew := four_drawn h 1
/-- the two numbers and the places where lines begin, in memory, all else below as it was -/
def Arr (w : World) (m0 m1 : Int) (g : Nat) (L : List Nat) (W : World) : Prop := Below w.heap.size w W ∧ W.heap[w.heap.size]? = some (.cells #[.int .i64 m0, .int .i64 m1] 41 (0, 0)) ∧ RowN W g L
theorem Arr.later {w W W' : World} {m0 m1 : Int} {g : Nat} {L : List Nat} (h : Arr w m0 m1 g L W) (hb : Below W.heap.size W W') : Arr w m0 m1 g L W' := ⟨h.1.trans (hb.mono h.1.size), (hb.block _ (blk_lt h.2.1)).trans h.2.1, h.2.2.later hb⟩
theorem Arr.drewN {w W : World} {m0 m1 : Int} {g : Nat} {L : List Nat} (h : Arr w m0 m1 g L W) (n : Nat) : Arr w m0 m1 g L (W.drewN n) := h.later (drewN_below _ _ _)
theorem Arr.cells {w W : World} {m0 m1 : Int} {g : Nat} {L : List Nat} (h : Arr w m0 m1 g L W) : W.cell? ⟨w.heap.size, 0, none⟩ = some (.int .i64 m0) ∧ W.cell? ⟨w.heap.size, 1, none⟩ = some (.int .i64 m1) := ⟨blk_cell h.2.1 rfl, blk_cell h.2.1 rfl⟩
set_option maxRecDepth 100000 in
theorem lines_big (s : ByteArray) (i m0 m1 : Int) (w : World) (hs : s.size ≤ 9223372036854775807) (h : 1000 < s.size) :
    Calls Tryd.prog 5 #[.string s, .int .i64 i, .agg #[.int .i64 m0, .int .i64 m1]] w fun e w' => e = .returned (.bool true) ∧ Below w.heap.size w w' := by
  have h1 : (1000 : Int) < s.size := by omega
  go_enter Tryd.func5, Tryd.ntmps5
  go_wp2_with fail
  go_ret
  exact ⟨rfl, (Below.refl _ _).alloc (Nat.le_refl _) _⟩
set_option maxRecDepth 100000 in
set_option maxHeartbeats 4000000 in
theorem lines_in (s : ByteArray) (i m0 m1 : Int) (w : World) (hT : Tabs w) (hs : s.size ≤ 1000) (hi : -9223372036854775808 ≤ i ∧ i ≤ 9223372036854775807) (h0 : -9223372036854775808 ≤ m0 ∧ m0 ≤ 9223372036854775807) (h1 : -9223372036854775808 ≤ m1 ∧ m1 ≤ 9223372036854775807) :
    Calls Tryd.prog 5 #[.string s, .int .i64 i, .agg #[.int .i64 m0, .int .i64 m1]] w fun e w' => e = .returned (.bool true) ∧ Below w.heap.size w w' := by
  have hs' : ¬ (1000 : Int) < s.size := by omega
  have hnl := nl_le s s.size
  have hb0 : Below w.heap.size w (w.alloc (.cells #[.int .i64 m0, .int .i64 m1] 41)) := (Below.refl _ _).alloc (Nat.le_refl _) _
  have hblk := blk_new w (.cells #[.int .i64 m0, .int .i64 m1] 41)
  have c1 := rlines_ok s (by omega) (w.alloc (.cells #[.int .i64 m0, .int .i64 m1] 41))
  unfold LinesSays at c1
  have HT := (show Hid (∀ W, Below w.heap.size w W → Tabs W) from fun W h => Utf8Tabs_below hT h)
  have hwork := (show Hid (∀ W, Below w.heap.size w W → Calls Tryd.prog 16 #[] W fun e w' => e = .returned (.bool true) ∧ Below W.heap.size W w') from fun W h => works2_ok W (HT.out W h))
  have CL := (show Hid (∀ W, Calls Tryd.prog 25 #[.string s] W fun e w' => e = .returned (.int .i64 (1 + (nl s s.size : Nat))) ∧ W = w') from fun W => lines2_ok s (by omega) W)
  have CA := (show Hid (∀ W, Below w.heap.size w W → Calls Tryd.prog 26 #[.string s, .int .i64 i] W (LineAny s i W)) from fun W h => line_any s i (by omega) W (HT.out W h))
  have CC := (show Hid (∀ W, Calls Tryd.prog 27 #[.string s, .int .i64 i] W fun e w' => e = .returned (.bool (caretI s i)) ∧ Below W.heap.size W w') from fun W => rcaret_ok s i (by omega) W)
  have CN := (show Hid (∀ q e W, Calls Tryd.prog 28 #[.string (s.extract q e)] W fun e' w' => ∃ n : Nat, e' = .returned (.int .i64 n) ∧ pos (s.extract q e) n = (s.extract q e).size ∧ Below W.heap.size W w') from fun q e W => rcount_ok (s.extract q e) (by rw [ByteArray.size_extract]; omega) W)
  have HLen := Lib.hid (starts_len s s.size)
  have HAt := (show Hid (∀ r, r < 1 + nl s s.size → Begins s ((starts s s.size).getD r 0) ∧ nl s ((starts s s.size).getD r 0) = r ∧ (starts s s.size).getD r 0 ≤ s.size) from starts_at s s.size)
  have HB := Lib.hid (And.intro hb0 hblk)
  obtain ⟨n, hn⟩ : ∃ n, n = nl s s.size := ⟨_, rfl⟩
  have HN := Lib.hid hn
  rw [← hn] at HLen HAt hnl CL c1
  clear hT hb0 hblk hn
  go_enter Tryd.func5, Tryd.ntmps5
  go_wp2_with fail
  refine c1.mono ?_
  rintro e w1 ⟨g, cap, rfl, hrow, hb1⟩
  have H1 : Arr w m0 m1 g (starts s s.size) w1 := ⟨HB.out.1.trans (hb1.mono HB.out.1.size), (hb1.block _ (by simp)).trans HB.out.2, hrow⟩
  clear c1 hrow hb1
  go_wp2_with fail
  refine (CL.out _).mono ?_
  rintro e w' ⟨rfl, rfl⟩
  go_wp2_with fail
  refine (CA.out _ H1.1).mono ?_
  rintro e w2 ⟨ln, cl, b, rfl, HR, hb2⟩
  have H2 := H1.later hb2
  clear hb2 H1
  go_upto_region 7 with fail
  go_cut [41] (fun s41 wc => s41 = .bool false ∧ Arr w m0 m1 g (starts s s.size) wc)
  case first =>
    have CC2 := Lib.hid CC.out
    rw [← HR.1] at CC2
    by_cases hi0 : 0 ≤ i
    · cases b with
      | true =>
        go_wp2_with fail
        refine (CC2.out _).mono ?_
        rintro e w3 ⟨rfl, hb3⟩
        have H3 := H2.later hb3
        go_wp2_with fail
        go_meet
        case rel => exact ⟨rfl, H3⟩
      | false =>
        go_wp2_with fail
        refine (CC2.out _).mono ?_
        rintro e w3 ⟨rfl, hb3⟩
        have H3 := H2.later hb3
        go_wp2_with fail
        go_meet
        case rel => exact ⟨rfl, H3⟩
    · have hbf : b = false := by
        rw [HR.1]
        unfold caretI
        rw [decide_eq_false (by omega), Bool.false_and]
      subst hbf
      go_wp2_with fail
      go_meet
      case rel => exact ⟨rfl, H2⟩
  case rest =>
    obtain ⟨rfl, Hc⟩ := hcut
    clear H2
    go_upto_if 42 with fail
    go_cut [11] (fun s11 wd => Arr w m0 m1 g (starts s s.size) wd)
    case first =>
      cases b with
      | false =>
        obtain ⟨rfl, rfl⟩ := HR.2.1 rfl
        clear HR
        go_wp2_with fail
        go_meet
        case rel => exact Hc
      | true =>
        obtain ⟨p, k, rfl, hp, hcp, hln, rfl, hline⟩ := HR.2.2 rfl
        have HLL := Lib.hid hln
        have HLN := Lib.hid (And.intro hcp hline)
        have hnp := nl_le s p
        clear HR hcp hline hln CC CA
        go_wp2_with fail
        go_loopg [11] (n + 1) (fun gk s11 W => ∃ r : Nat, s11 = .int .i64 (r : Int) ∧ gk + r = n + 1 ∧ r < 1 + n ∧ Hid ((starts s s.size).getD r 0 ≤ p) ∧ Arr w m0 m1 g (starts s s.size) W)
        case atStart => exact ⟨0, rfl, rfl, by omega, begins_le s (HAt.out 0 (by omega)).1 (by rw [(HAt.out 0 (by omega)).2.1]; omega), Hc⟩
        case round =>
          clear Hc
          obtain ⟨r, rfl, hg, hr, HP, Hw⟩ := hrel
          by_cases hr1 : r + 1 < 1 + n
          · have hr1' : (r : Int) + 1 < 1 + (n : Int) := by omega
            have hr2' : r + 1 < 1 + n := hr1
            have d := Hw.2.2 (r + 1) (by rw [HLen.out]; omega)
            by_cases hx : (starts s s.size).getD (r + 1) 0 ≤ p
            · have HX2 := Lib.hid hx
              generalize (starts s s.size).getD (r + 1) 0 = x at d hx
              have hx' : (x : Int) ≤ (p : Int) := by omega
              go_wp2_with fail
              go_roundg (gk - 1)
              case measure => omega
              case rel => exact ⟨r + 1, by go_num, by omega, by omega, HX2, Hw⟩
            · have hx' : ¬ (((starts s s.size).getD (r + 1) 0 : Nat) : Int) ≤ (p : Int) := by omega
              have hrk := row_found s p r hp (by rw [← HN.out]; exact hr) HP.out (Or.inr (by omega))
              generalize (starts s s.size).getD (r + 1) 0 = x at d hx hx'
              have hl1 : (ln == (r : Int)) = true := by rw [HLL.out, hrk]; simp
              have hl2 : (ln != (r : Int)) = false := by rw [HLL.out, hrk]; simp
              have dq := Hw.2.2 r (by rw [HLen.out]; omega)
              have hqp := HP.out
              obtain ⟨hb1, hb2, hb3⟩ := HAt.out r hr
              have HQ := Lib.hid (And.intro hb1 (show nl s ((starts s s.size).getD r 0) = nl s p from by rw [hb2, hrk]))
              have CNq := (show Hid _ from CN.out ((starts s s.size).getD r 0) p)
              clear hb1 hb2 HP hrk
              generalize (starts s s.size).getD r 0 = q at dq hqp HQ CNq hb3
              have hqp' : (q : Int) ≤ (p : Int) := by omega
              have hps' : (p : Int) ≤ (s.size : Int) := by omega
              go_wp2_with fail
              refine (CNq.out _).mono ?_
              rintro e w4 ⟨n2, rfl, hn2, hb4⟩
              have H4 := Hw.later hb4
              obtain rfl := lineIs_inj HLN.out.2 (line_is s q p n2 hqp hp HQ.out.1 HQ.out.2 HLN.out.1 hn2)
              clear hn2 hb4 dq
              go_wp2_with fail
              go_meet
              case rel => exact H4
          · have hr1' : ¬ (r : Int) + 1 < 1 + (n : Int) := by omega
            have hr2' : ¬ r + 1 < 1 + n := hr1
            have hr3' : decide (r + 1 < 1 + n) = false := decide_eq_false hr1
            have hrk := row_found s p r hp (by rw [← HN.out]; exact hr) HP.out (Or.inl (by rw [← HN.out]; omega))
            have hl1 : (ln == (r : Int)) = true := by rw [HLL.out, hrk]; simp
            have hl2 : (ln != (r : Int)) = false := by rw [HLL.out, hrk]; simp
            have dq := Hw.2.2 r (by rw [HLen.out]; omega)
            have hqp := HP.out
            obtain ⟨hb1, hb2, hb3⟩ := HAt.out r hr
            have HQ := Lib.hid (And.intro hb1 (show nl s ((starts s s.size).getD r 0) = nl s p from by rw [hb2, hrk]))
            have CNq := (show Hid _ from CN.out ((starts s s.size).getD r 0) p)
            clear hb1 hb2 HP hrk
            generalize (starts s s.size).getD r 0 = q at dq hqp HQ CNq hb3
            have hqp' : (q : Int) ≤ (p : Int) := by omega
            have hps' : (p : Int) ≤ (s.size : Int) := by omega
            go_wp2_with fail
            refine (CNq.out _).mono ?_
            rintro e w4 ⟨n2, rfl, hn2, hb4⟩
            have H4 := Hw.later hb4
            obtain rfl := lineIs_inj HLN.out.2 (line_is s q p n2 hqp hp HQ.out.1 HQ.out.2 HLN.out.1 hn2)
            clear hn2 hb4 dq
            go_wp2_with fail
            go_meet
            case rel => exact H4
    case rest =>
      have Hd := hcut
      clear hcut Hc HR CA CC
      obtain ⟨c0, c1⟩ := Hd.cells
      by_cases hbad : m0 < 0 ∨ 1 + (n : Int) ≤ m0 ∨ m1 < 0
      · have cp := place_no s m0 m1 (by omega) wc (by rw [← HN.out]; exact hbad)
        rcases (show m0 < 0 ∨ (¬ m0 < 0 ∧ 1 + (n : Int) ≤ m0) ∨ (¬ m0 < 0 ∧ ¬ 1 + (n : Int) ≤ m0 ∧ m1 < 0) by omega) with k1 | ⟨k1, k2⟩ | ⟨k1, k2, k3⟩
        all_goals
          clear hbad
          go_wp2_with fail
          refine cp.mono ?_
          rintro e w5 ⟨rfl, rfl⟩
          clear cp
          go_wp2_with fail
          refine (hwork.out _ Hd.1).mono ?_
          rintro e w6 ⟨rfl, hb6⟩
          have H6 := Hd.later hb6
          clear hb6
          go_wp2_with fail
          go_ret
          exact ⟨rfl, H6.1⟩
      · obtain ⟨row, rfl⟩ : ∃ r : Nat, m0 = r := ⟨m0.toNat, by omega⟩
        obtain ⟨col, rfl⟩ : ∃ r : Nat, m1 = r := ⟨m1.toNat, by omega⟩
        have hrow : row < 1 + n := by omega
        have hrow' : ¬ 1 + (n : Int) ≤ (row : Int) := by omega
        have cp := place_yes s row col (by omega) wc (HT.out _ Hd.1) (by rw [← HN.out]; exact hrow) (by omega)
        obtain ⟨f1, f2, f3, f4, f5⟩ := end_facts s row (by rw [← HN.out]; exact hrow)
        have FF := Lib.hid (And.intro f1 f2)
        have F5 := Lib.hid (show row + 1 < 1 + n → 1 ≤ (starts s s.size).getD (row + 1) 0 from by rw [HN.out]; exact f5)
        have HE := Lib.hid (show endOf s row = if row + 1 < 1 + n then (starts s s.size).getD (row + 1) 0 - 1 else s.size from by unfold endOf; rw [← HN.out])
        clear hbad f1 f2 f3 f4 f5
        go_wp2_with fail
        refine cp.mono ?_
        rintro e w5 ⟨p, c, rfl, HP, hb5⟩
        have H5 := Hd.later hb5
        clear hb5 cp c0 c1 Hd
        obtain ⟨c0, c1⟩ := H5.cells
        go_upto_if 120 with fail
        go_cut [14] (fun s14 wd => s14 = .int .i64 ((endOf s row : Nat) : Int) ∧ wd = w5)
        case first =>
          by_cases h2 : row + 1 < 1 + n
          · have h2' : (row : Int) + 1 < 1 + (n : Int) := by omega
            have d := H5.2.2 (row + 1) (by rw [HLen.out]; omega)
            have HE2 := Lib.hid (show endOf s row = (starts s s.size).getD (row + 1) 0 - 1 from by rw [HE.out, if_pos h2])
            have hx1 := F5.out h2
            have hxs := (HAt.out (row + 1) h2).2.2
            generalize (starts s s.size).getD (row + 1) 0 = x at d HE2 hx1 hxs
            go_wp2_with fail
            go_meet
            case rel => exact ⟨by rw [HE2.out]; congr 1; omega, rfl⟩
          · have h2' : ¬ (row : Int) + 1 < 1 + (n : Int) := by omega
            have HE2 := Lib.hid (show endOf s row = s.size from by rw [HE.out, if_neg h2])
            go_wp2_with fail
            go_meet
            case rel => exact ⟨by rw [HE2.out], rfl⟩
        case rest =>
          obtain ⟨rfl, rfl⟩ := hcut
          have d := H5.2.2 row (by rw [HLen.out]; omega)
          have CNq := (show Hid _ from CN.out ((starts s s.size).getD row 0) (endOf s row))
          have HPE := (show Hid _ from fun m hm => place_end s row col m p c (by rw [← HN.out]; exact hrow) HP hm)
          have hqe := FF.out.1
          have hes := FF.out.2
          clear HP HE F5 CN FF HAt
          obtain ⟨q, hq⟩ : ∃ q, q = (starts s s.size).getD row 0 := ⟨_, rfl⟩
          obtain ⟨e9, he9⟩ : ∃ e, e = endOf s row := ⟨_, rfl⟩
          have HQ := Lib.hid (And.intro hq he9)
          rw [← hq] at d hqe CNq HPE
          rw [← he9] at hqe hes CNq HPE ⊢
          clear hq he9
          have hqe' : (q : Int) ≤ (e9 : Int) := by omega
          have hes' : (e9 : Int) ≤ (s.size : Int) := by omega
          go_wp2_with fail
          refine (CNq.out _).mono ?_
          rintro e w6 ⟨m, rfl, hm, hb6⟩
          have H6 := H5.later hb6
          have HM := Lib.hid (HPE.out m hm)
          clear hb6 hm d c0 c1 H5 CNq HPE
          obtain ⟨c0, c1⟩ := H6.cells
          by_cases hmc : m < col
          · have hmc' : (m : Int) < (col : Int) := by omega
            obtain ⟨rfl, rfl⟩ := HM.out.1 hmc
            go_wp2_with fail
            refine (hwork.out _ H6.1).mono ?_
            rintro e w7 ⟨rfl, hb7⟩
            have H7 := H6.later hb7
            clear hb7
            go_wp2_with fail
            go_ret
            exact ⟨rfl, H7.1⟩
          · have hmc' : ¬ (m : Int) < (col : Int) := by omega
            obtain ⟨rfl, P, rfl, hP1, hP2, hP3, hP4⟩ := HM.out.2 (by omega)
            have hPs : P ≤ s.size := by omega
            have C27 := (show Hid (∀ W, Calls Tryd.prog 27 #[.string s, .int .i64 (P : Int)] W fun e w' => e = .returned (.bool true) ∧ Below W.heap.size W w') from fun W => by
              have := rcaret_ok s P (by omega) W
              rw [caretI_nat s P hPs, hP3] at this
              exact this)
            have C28 := (show Hid (∀ W, Calls Tryd.prog 28 #[.string (s.extract q P)] W fun e w' => e = .returned (.int .i64 (col : Int)) ∧ Below W.heap.size W w') from fun W => by
              refine (rcount_ok (s.extract q P) (by rw [ByteArray.size_extract]; omega) W).mono ?_
              rintro e w' ⟨n3, rfl, h3, hb⟩
              obtain rfl := count_ext s q P col n3 hP1 hPs hP3 hP4 h3
              exact ⟨rfl, hb⟩)
            have C16 := (show Hid (∀ W, (W.cell? ⟨w.heap.size, 0, none⟩ = some (.int .i64 (row : Int)) ∧ W.cell? ⟨w.heap.size, 1, none⟩ = some (.int .i64 (col : Int)) ∧ W.cell? ⟨g, row, none⟩ = some (.int .i64 (q : Int)) ∧ Below w.heap.size w W) → Calls Tryd.prog 16 #[] W fun e w' => e = .returned (.bool true) ∧ Below W.heap.size W w') from fun W h => hwork.out W h.2.2.2)
            have d := H6.2.2 row (by rw [HLen.out]; omega)
            rw [← HQ.out.1] at d
            have hB6 := H6.1
            have z1 : (q : Int) ≤ (P : Int) := by omega
            have z2 : (P : Int) ≤ (e9 : Int) := by omega
            have z3 : (P : Int) ≤ (s.size : Int) := by omega
            have z4 : (row : Int) < 1 + (n : Int) := by omega
            clear hP3 hP4 HM hwork HT CL
            go_wp2_with fail
            go_region_held3 (fun W => W.cell? ⟨w.heap.size, 0, none⟩ = some (.int .i64 (row : Int)) ∧ W.cell? ⟨w.heap.size, 1, none⟩ = some (.int .i64 (col : Int)) ∧ W.cell? ⟨g, row, none⟩ = some (.int .i64 (q : Int)) ∧ Below w.heap.size w W) (first | assumption | (exact four_later (by assumption) (by assumption)) | (exact four_drew (by assumption)) | (exact four_drew ⟨c0, c1, d, hB6⟩) | go_keep) (first | (go_at_call 27; refine (C27.out _).mono ?_; rintro e w7 ⟨rfl, hb7⟩) | (go_at_call 28; refine (C28.out _).mono ?_; rintro e w8 ⟨rfl, hb8⟩) | (go_at_call 16; refine (C16.out _ (by first | assumption | exact four_drew (by assumption))).mono ?_; rintro e w9 ⟨rfl, hb9⟩))
            all_goals
              go_wp2_with fail
              go_ret
              exact ⟨rfl, (by assumption : _ ∧ _ ∧ _ ∧ Below w.heap.size w _).2.2.2⟩
theorem editLines_walk (s : ByteArray) (i m0 m1 : Int) (w : World) (hT : Tabs w) (hs : s.size ≤ 9223372036854775807) (hi : -9223372036854775808 ≤ i ∧ i ≤ 9223372036854775807) (h0 : -9223372036854775808 ≤ m0 ∧ m0 ≤ 9223372036854775807) (h1 : -9223372036854775808 ≤ m1 ∧ m1 ≤ 9223372036854775807) :
    Calls Tryd.prog 5 #[.string s, .int .i64 i, .agg #[.int .i64 m0, .int .i64 m1]] w fun e w' => e = .returned (.bool true) ∧ Below w.heap.size w w' := by
  by_cases h : 1000 < s.size
  · exact lines_big s i m0 m1 w hs h
  · exact lines_in s i m0 m1 w hT (by omega) hi h0 h1
end Go.Proofs.YtpmgccjhflcoiaaDoor
