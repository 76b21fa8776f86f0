/-
  The walk of StackCuts: it returns true, and nothing that was there has turned. No condition beyond what a slice of puts that came in gives.
-/
import Derived.Test.YtlnhganinomaaaaWorks
import Derived.StillTailTactics
import Derived.Deep.CutBlock
namespace Go.Proofs.Ytlnhganinomaaaa
open Go.RowKit Go.Maps
set_option linter.unusedSimpArgs false
set_option linter.unusedVariables false

theorem cutRow_pre (m : Nat) (l : List Int) {j : Nat} (hj : j < l.length) (h : l[j] < (m : Int)) : (cutRow m l)[(cutRow m (l.take j)).length]? = some l[j] := by
  have e : cutRow m l = cutRow m (l.take j) ++ (l[j] :: cutRow m (l.drop (j + 1))) := by
    have e1 : l = l.take j ++ l[j] :: l.drop (j + 1) := by rw [List.getElem_cons_drop, List.take_append_drop]
    conv => lhs; rw [e1]
    unfold cutRow
    rw [List.filter_append, List.filter_cons, if_pos (by simpa using h)]
  rw [e, List.getElem?_append_right (Nat.le_refl _)]
  simp
theorem links_len (j : Nat) (us : List (List Int)) : (linksFrom j us).length = (us.map List.length).sum := by
  induction us generalizing j with
  | nil => rfl
  | cons l r ih => simp [linksFrom, ih]
def sumTo (us : List (List Int)) (k : Nat) : Nat := ((us.take k).map List.length).sum
theorem sumTo_succ (us : List (List Int)) {k : Nat} (hk : k < us.length) : sumTo us (k + 1) = sumTo us k + us[k].length := by
  unfold sumTo
  rw [List.take_succ_eq_append_getElem hk, List.map_append, List.sum_append]
  simp
theorem sumTo_le {us : List (List Int)} {N : Nat} (h : ∀ l ∈ us, l.length ≤ N) (k : Nat) : sumTo us k ≤ k * N := by
  induction k with
  | zero => simp [sumTo]
  | succ k ih =>
    rcases Nat.lt_or_ge k us.length with hk | hk
    · rw [sumTo_succ us hk, Nat.succ_mul]
      have := h us[k] (List.getElem_mem hk)
      omega
    · have : sumTo us (k + 1) = sumTo us k := by unfold sumTo; rw [List.take_of_length_le (by omega), List.take_of_length_le hk]
      rw [this, Nat.succ_mul]; omega

theorem drew_below (B : Nat) (w : World) : Below B w w.drew := (Below.refl _ _).drew
/-- a row of numbers that the call owns -/
theorem row_cell {w : World} {B : Nat} {v : Value} {l : List Int} (h : w.ownsRow B 3 1 v l.length (l.map (Value.int .i64))) : ∃ a cap, v = .slice a l.length cap ∧ ∀ j, (hj : j < l.length) → ∃ g, a = some ⟨g, 0, none⟩ ∧ B ≤ g ∧ g < w.heap.size ∧ w.cell? ⟨g, j, none⟩ = some (.int .i64 l[j]) := by
  obtain ⟨a, cap, rfl⟩ := ownsRow_shape h
  refine ⟨a, cap, rfl, fun j hj => ?_⟩
  obtain ⟨g, cap2, e, hh, _⟩ := ownsRow_cell h (by omega)
  injection e with e1
  have hl := ownsRow_lt h (g := g) (by rw [e1]; rfl)
  exact ⟨g, e1, hl.1, hl.2, (hh j (by omega)).trans (by simp [hj])⟩

set_option maxRecDepth 100000 in
set_option maxHeartbeats 1600000 in
theorem cuts_walk (a0 : Option Addr) (len cap b off : Nat) (P0 P1 P2 : Nat → Int) (n : Int) (hn : i64ok n) (w : World) (ha : 0 < len → a0 = some ⟨b, off, none⟩)
    (hc : ∀ i, i < len → w.cell? ⟨b, off + i * 3, none⟩ = some (.int .i64 (P0 i)) ∧ w.cell? ⟨b, off + i * 3 + 1, none⟩ = some (.int .i64 (P1 i)) ∧ w.cell? ⟨b, off + i * 3 + 2, none⟩ = some (.int .i64 (P2 i)))
    (hb : 0 < len → b < w.heap.size) (hok : ∀ i, i < len → i64ok (P0 i) ∧ i64ok (P1 i) ∧ i64ok (P2 i)) :
    Calls Try.prog 3 #[.slice a0 len cap, .int .i64 n] w fun e w' => e = .returned (.bool true) ∧ Below w.heap.size w w' := by
  have hnew := new_any w
  go_enter Try.func3, Try.ntmps3
  go_wp2_with fail
  refine hnew.mono ?_
  rintro e w1 ⟨rfl, bs1, hs1, hb1⟩
  clear hnew
  generalize w.heap.size + 4 = s at hs1 ⊢
  go_upto_block 0 with fail
  go_cut [6] (fun s6 wr => ∃ (j : Nat) (pl : List (Int × Int)) (us : List (List Int)) (bs : List Nat), s6 = .int .i64 j ∧ Stk wr w.heap.size s pl us bs ∧ Inv 60 pl us ∧ Below w.heap.size w wr)
  case first =>
    go_wp2_with fail
    go_loopg [6] (min len 60) (fun g i wr => ∃ (j : Nat) (pl : List (Int × Int)) (us : List (List Int)) (bs : List Nat), i = .int .i64 j ∧ j ≤ len ∧ j ≤ 60 ∧ min len 60 ≤ j + g ∧ Stk wr w.heap.size s pl us bs ∧ Inv j pl us ∧ Below w.heap.size w wr)
    case atStart => exact ⟨0, _, _, bs1, rfl, by omega, by omega, by omega, hs1, inv_new, hb1⟩
    case round =>
      obtain ⟨j, pl, us, bs, rfl, hj, hj6, hg, hs, hI, hB⟩ := hrel
      clear hs1 hb1
      by_cases hjl : j < min len 60
      · obtain rfl := ha (by omega)
        have hbl := hb (by omega)
        have cj := hc j (by omega)
        have okj := hok j (by omega)
        have d0 : wr.cell? ⟨b, off + j * 3, none⟩ = some (.int .i64 (P0 j)) := (hB.cell hbl).trans cj.1
        have d1 : wr.cell? ⟨b, off + j * 3 + 1, none⟩ = some (.int .i64 (P1 j)) := (hB.cell hbl).trans cj.2.1
        have d2 : wr.cell? ⟨b, off + j * 3 + 2, none⟩ = some (.int .i64 (P2 j)) := (hB.cell hbl).trans cj.2.2
        have hput := put_any (w := wr.drew) (hs.below (C := wr.heap.size) (Nat.le_refl _) (Below.refl _ _).drew) hI (by omega) hB.size (P0 j) (P1 j) (P2 j) okj.1 okj.2.1
        have hj1 : (j : Int) < len := by omega
        have hj2 : (j : Int) < 60 := by omega
        clear cj okj hc hok ha
        generalize P0 j = p0 at d0 hput
        generalize P1 j = p1 at d1 hput
        generalize P2 j = p2 at d2 hput
        go_upto_region 5 with fail
        go_still_tail 16, (by kernel_rfl)
        change wpList _ _ _ _ _ wr.drew
        go_wp2_with fail
        refine hput.mono ?_
        rintro e w2 ⟨node, fresh, link, er, pl', us', bs', rfl, _, hs2, hI2, hB2⟩
        clear hput d0 d1 d2
        go_wp2_with fail
        go_roundg (gk - 1)
        case measure => omega
        case rel => exact ⟨j + 1, pl', us', bs', by go_num, by omega, by omega, by omega, hs2, hI2, hB.trans ((drew_below _ _).trans hB2)⟩
      · rcases Nat.lt_or_ge j len with hjj | hjj
        · have hj4 : ¬ ((j : Int) < 60) := by omega
          have hj5 : (j : Int) < len := by omega
          go_wp2_with fail
          go_meet
          case rel => exact ⟨j, pl, us, bs, rfl, hs, hI.mono (by omega), hB⟩
        · have hj5 : ¬ (j : Int) < len := by omega
          go_wp2_with fail
          go_meet
          case rel => exact ⟨j, pl, us, bs, rfl, hs, hI.mono (by omega), hB⟩
  case rest =>
    obtain ⟨j, pl, us, bs, rfl, hs, hI, hB⟩ := hcut
    clear hs1 hb1
    have hps := hI.size
    have hpos := hI.pos
    have hul := hI.len
    have hcuts := cut_any hs hI (by omega) n hn
    have hIc := cut_inv hI n
    obtain ⟨hm1, hm2⟩ := cutN_le n hpos
    have hwant : (if n < (pl.length : Int) then n else pl.length) = (if n < (pl.length : Int) then n else pl.length) := rfl
    have hmax : cutN n pl.length = (if 1 < (if (pl.length : Int) < n then (pl.length : Int) else n) then (if (pl.length : Int) < n then (pl.length : Int) else n) else 1) := by
      unfold cutN
      split <;> split at * <;> omega
    have Hmax := (show Hid _ from hmax)
    generalize cutN n pl.length = m at hcuts hIc hm1 hm2 Hmax
    clear hc hok ha hmax hb hwant
    have hl1 := long_any hs

    go_wp2_with fail
    refine hcuts.mono ?_
    rintro e w2 ⟨s', bs', rfl, hs', hb2⟩
    clear hcuts hl1
    have hs2 := hs.below (Nat.le_refl _) hb2
    have hB2 := hB.trans (hb2.mono hB.size)
    have hl1 := long_any hs2
    have hl2 := long_any hs'
    have hlen' : (pl.take m).length = m := by rw [List.length_take]; omega
    rw [hlen'] at hl2
    have hC := hB.size
    have hpe : ∀ q, (hq : q < m) → ∃ h1 : q < (pl.take m).length, ∃ h2 : q < pl.length, (pl.take m)[q] = pl[q] := fun q hq => ⟨by omega, by omega, by rw [List.getElem_take]⟩
    have hue : ∀ q, (hq : q < m) → ∃ h1 : q < ((us.take m).map (cutRow m)).length, ∃ h2 : q < us.length, ((us.take m).map (cutRow m))[q] = cutRow m us[q] := fun q hq => ⟨by simp; omega, by omega, by simp⟩
    have hsum : sumTo ((us.take m).map (cutRow m)) m = (linksOf ((us.take m).map (cutRow m))).length := by
      unfold sumTo linksOf
      rw [links_len, List.take_of_length_le (by simp; omega)]
    have hsle := sumTo_le hIc.rsize
    have hsS := fun q hq => sumTo_succ ((us.take m).map (cutRow m)) (k := q) hq
    generalize pl.take m = pl' at hs' hIc hpe hlen'
    generalize (us.take m).map (cutRow m) = us' at hs' hIc hue hsum hsle hsS
    clear hs hb2 hB
    generalize wc.heap.size = C at hs' hC
    go_wp2_with fail
    refine hl1.mono ?_
    rintro e w3 ⟨rfl, rfl⟩
    clear hl1
    go_upto_region 8 with fail
    rw [← Hmax.out]
    generalize (if (pl.length : Int) < n then (pl.length : Int) else n) = n1
    clear Hmax
    go_wp2_with fail
    refine hl2.mono ?_
    rintro e w3 ⟨rfl, rfl⟩
    clear hl2
    go_upto_block 2 with fail
    go_cut [9] (fun s9 W => s9 = .int .i64 (sumTo us' m) ∧ (∃ bs, Stk W w.heap.size s pl us bs) ∧ (∃ bs, Stk W C s' pl' us' bs) ∧ Below w.heap.size w W)
    case first =>
      go_wp2_with fail
      go_loopg [9, 10] m (fun g l k W => ∃ q : Nat, k = .int .i64 q ∧ l = .int .i64 (sumTo us' q) ∧ q ≤ m ∧ m ≤ q + g ∧ Stk W w.heap.size s pl us bs ∧ Stk W C s' pl' us' bs' ∧ Below w.heap.size w W)
      case atStart => exact ⟨0, rfl, rfl, by omega, by omega, hs2, hs', hB2⟩
      case round =>
        obtain ⟨q, rfl, rfl, hq, hg, hs3, hs4, hB3⟩ := hrel
        clear hs2 hs' hB2
        by_cases hqm : q < m
        · obtain ⟨hu1, hu2, hue1⟩ := hue q hqm
          obtain ⟨hp1, hp2, hpe1⟩ := hpe q hqm
          have k1 := ups_any hs3 hI (by omega) q hu2
          have hle1 := hsle q
          have hle2 := hsS q hu1
          have hle3 := hI.rsize us[q] (List.getElem_mem hu2)
          have hqN : q ≤ 61 := by omega
          have hle1' : sumTo us' q ≤ 3660 := by have := Nat.mul_le_mul_right 60 hqN; omega
          clear hle1
          go_wp2_with fail
          refine k1.mono ?_
          rintro e wa ⟨v, rfl, hra, hba⟩
          clear k1
          have hs5 := hs4.below (Nat.le_refl _) hba
          have k2 := ups_any hs5 hIc (by omega) q hu1
          go_wp2_with fail
          refine k2.mono ?_
          rintro e wb ⟨v2, rfl, hrb, hbb⟩
          clear k2
          have hs6 := hs5.below (Nat.le_refl _) hbb
          have hs7 := (hs3.below (Nat.le_refl _) hba).below (Nat.le_refl _) hbb
          have hB4 := (hB3.trans (hba.mono hB3.size)).trans (hbb.mono (Nat.le_trans hB3.size hba.size))
          obtain ⟨a1, cap1, rfl, hat⟩ := row_cell hra
          obtain ⟨a2, cap2, rfl, hbt⟩ := row_cell hrb
          rw [hue1] at hle2 hbt ⊢
          clear hra hrb hs5 hs3 hs4 hB3
          have hba2 : ∀ g j (x : Value), g < wa.heap.size → wa.cell? ⟨g, j, none⟩ = some x → wb.cell? ⟨g, j, none⟩ = some x := fun g j x hg h => (hbb.cell hg).trans h
          have Hb2 := (show Hid _ from hba2)
          clear hba2 hba hbb hue1
          have hpre := fun j => @cutRow_pre m us[q] j
          have hy := fun j => @cutRow_take_yes m us[q] j
          have hno := fun j => @cutRow_take_no m us[q] j
          have hcl : ∀ p, (cutRow m (us[q].take p)).length ≤ 60 := fun p => by
            have := ((cutRow_take_sub m us[q] p).trans (List.filter_sublist)).length_le
            omega
          generalize hrow : us[q] = row at hle2 hle3 hat hbt hpre hy hno hcl
          clear hrow
          have hat' : ∀ j, (hj : j < row.length) → ∃ g, a1 = some ⟨g, 0, none⟩ ∧ g < wb.heap.size ∧ wb.cell? ⟨g, j, none⟩ = some (.int .i64 row[j]) := fun j hj => by
            obtain ⟨g, h1, _, h3, h4⟩ := hat j hj
            exact ⟨g, h1, cell?_lt' (Hb2.out g j _ h3 h4), Hb2.out g j _ h3 h4⟩
          clear hat Hb2
          obtain ⟨gko, rfl⟩ : ∃ x : Nat, x = gk := ⟨_, rfl⟩
          go_wp2_with fail
          go_loopg [13, 14] row.length (fun g j i W => ∃ p : Nat, i = .int .i64 p ∧ j = .int .i64 ((cutRow m (row.take p)).length : Nat) ∧ p ≤ row.length ∧ row.length ≤ p + g ∧ Below wb.heap.size wb W)
          case atStart => exact ⟨0, rfl, rfl, by omega, by omega, Below.refl _ _⟩
          case round =>
            obtain ⟨p, rfl, rfl, hp, hpg, hBi⟩ := hrel
            by_cases hpl : p < row.length
            · obtain ⟨g1, rfl, hg1, hc1⟩ := hat' p hpl
              have d1 : wr.cell? ⟨g1, p, none⟩ = some (.int .i64 row[p]) := (hBi.cell hg1).trans hc1
              by_cases hlt : row[p] < (m : Int)
              · have hpr := hpre p hpl hlt
                have hyy := hy p hpl hlt
                have hjl := (List.getElem?_eq_some_iff.1 hpr).1
                obtain ⟨g2, rfl, hg2a, hg2, hc2⟩ := hbt _ hjl
                rw [List.getElem?_eq_getElem hjl] at hpr
                rw [Option.some.inj hpr] at hc2
                have d2 : wr.cell? ⟨g2, (cutRow m (row.take p)).length, none⟩ = some (.int .i64 row[p]) := (hBi.cell hg2).trans hc2
                have hlen1 : (cutRow m (row.take (p + 1))).length = (cutRow m (row.take p)).length + 1 := by rw [hyy]; simp
                have hcl1 := hcl p
                have hlen2 := hcl row.length
                rw [List.take_of_length_le (Nat.le_refl _)] at hlen2
                clear hpr hyy hc1 hc2 hat' hbt hpre hy hno hcl
                generalize row[p] = u at d1 d2 hlt
                generalize hjj : (cutRow m (row.take p)).length = jj at d2 hlen1 hcl1 hjl
                have Hl := (show Hid _ from hlen1)
                clear hlen1 hjj
                have hjl' : (jj : Int) < (cutRow m row).length := by omega
                go_wp2_with fail
                go_quiet (fail)
                all_goals
                  go_wp2_with fail
                  go_roundg (gk - 1)
                  case measure => omega
                  case rel => exact ⟨p + 1, by go_num, by rw [Hl.out]; go_num, by omega, by omega, hBi.trans (drewN_below _ _ _)⟩
              · have hnn := hno p hpl (by omega)
                have Hl := (show Hid _ from congrArg List.length hnn)
                clear hnn hc1 hat' hbt hpre hy hno hcl
                generalize row[p] = u at d1 hlt
                go_wp2_with fail
                go_roundg (gk - 1)
                case measure => omega
                case rel => exact ⟨p + 1, by go_num, by rw [Hl.out], by omega, by omega, hBi⟩
            · obtain rfl : p = row.length := by omega
              rw [List.take_of_length_le (Nat.le_refl _)]
              have hlen2 := hcl row.length
              rw [List.take_of_length_le (Nat.le_refl _)] at hlen2
              clear hat' hbt hpre hy hno hcl
              generalize (cutRow m row).length = lb at hle2 hlen2 ⊢
              have hs8 := hs6.below (Nat.le_refl _) hBi
              have hs9 := hs7.below (Nat.le_refl _) hBi
              have hB5 := hB4.trans (hBi.mono hB4.size)
              have k3 := ret_any hs8 hIc (by omega) q hp1
              have k4 := ret_any hs9 hI (by omega) q hp2
              have k5 := at_any hs8 hIc (by omega) q hp1
              have k6 := at_any hs9 hI (by omega) q hp2
              have k7 := fun h0 => find_any hs8 hIc (by omega) q hp1 h0
              rw [hpe1] at k3 k5 k7
              generalize pl[q].1 = r1 at k3 k4 k7
              generalize pl[q].2 = r2 at k5 k6 k7
              have Hs := (show Hid _ from hle2)
              clear hle2 hpe1
              go_wp2_with fail
              refine k3.mono ?_
              rintro e w5 ⟨rfl, rfl⟩
              go_wp2_with fail
              refine k4.mono ?_
              rintro e w5 ⟨rfl, rfl⟩
              go_wp2_with fail
              refine k5.mono ?_
              rintro e w5 ⟨rfl, rfl⟩
              go_wp2_with fail
              refine k6.mono ?_
              rintro e w5 ⟨rfl, rfl⟩
              rcases Nat.eq_zero_or_pos q with rfl | hq0
              · clear k3 k4 k5 k6 k7
                go_wp2_with fail
                go_roundg (gko - 1)
                case measure => omega
                case rel => exact ⟨1, by go_num, by rw [Hs.out]; go_num, by omega, by omega, hs9, hs8, hB5⟩
              · have k8 := k7 hq0
                clear k3 k5 k7
                go_wp2_with fail
                refine k4.mono ?_
                rintro e w5 ⟨rfl, rfl⟩
                go_wp2_with fail
                refine k6.mono ?_
                rintro e w5 ⟨rfl, rfl⟩
                go_wp2_with fail
                refine k8.mono ?_
                rintro e w5 ⟨rfl, rfl⟩
                clear k4 k6 k8
                go_wp2_with fail
                go_roundg (gko - 1)
                case measure => omega
                case rel => exact ⟨q + 1, by go_num, by rw [Hs.out]; go_num, by omega, by omega, hs9, hs8, hB5⟩
        · obtain rfl : q = m := by omega
          go_wp2_with fail
          go_meet
          case rel => exact ⟨rfl, ⟨_, hs3⟩, ⟨_, hs4⟩, hB3⟩
    case rest =>
      obtain ⟨rfl, ⟨bs2, hs3⟩, ⟨bs3, hs4⟩, hB3⟩ := hcut
      have k1 := links_any hs4
      rw [← hsum] at k1
      have k2 := works_ok wc
      go_wp2_with fail
      refine k1.mono ?_
      rintro e w5 ⟨rfl, rfl⟩
      go_wp2_with fail
      refine k2.mono ?_
      rintro e w5 ⟨rfl, hb5⟩
      go_wp2_with fail
      go_ret
      exact ⟨rfl, hB3.trans (hb5.mono hB3.size)⟩
end Go.Proofs.Ytlnhganinomaaaa
