/-
  The walk of BitsTell: it tells true. No condition beyond those that the theorem states.
-/
import Derived.Test.YtccccbkllplojaaDoorTellFacts
import Derived.Deep.RegionHeld3
namespace Go.Proofs.YtccccbkllplojaaDoor
open Go.RowKit Go.Maps
set_option linter.unusedSimpArgs false
set_option linter.unusedVariables false

theorem icell2 {B : Nat} {w : World} {g n cap : Nat} {l : List Nat} {q x : Nat} (h : OwnI B w (.slice (some ⟨g, 0, none⟩) n cap) l) (hq : q < l.length) (hx : l.getD q 0 = x) : w.cell? ⟨g, q, none⟩ = some (.int .i64 (x : Int)) := by
  obtain ⟨g6, e, hc6⟩ := icell h q hq
  cases e
  rw [hx] at hc6
  exact hc6

set_option maxRecDepth 100000 in
set_option maxHeartbeats 0 in
theorem bitsTell_walk (w : World) (u : Value) (a : List Nat) (n : Int) (hn : n ≤ 9223372036854775807) (hu0 : Words w u a) (fa : Fit a) (hT : Tab 0 w) :
    Calls Tryd.prog 4 #[u, .int .i64 n] w fun e w' => e = .returned (.bool true) ∧ Below w.heap.size w w' := by
  obtain ⟨i0, hi, hz0, hz1, hz2⟩ := info_parts info3
  obtain ⟨au, n1, cap1, rfl, wu⟩ := Words.wn hu0
  by_cases hbig : 30 < n1
  · clear wu hu0
    go_enter Tryd.func4, Tryd.ntmps4
    go_wp2_with fail
    go_ret
    exact ⟨rfl, Below.refl _ _⟩
  have hla : Hid (a.length ≤ 30) := by have := wu.len.out; exact (show a.length ≤ 30 by omega)
  have hu : St w (.slice au n1 cap1) a := ⟨hu0, by have := hla.out; omega, fa⟩
  clear wu hu0 fa
  have HL := (show Hid ((∀ m, m ∈ lst a ↔ has a m = true) ∧ (lst a).Pairwise (· < ·) ∧ (lst a).length ≤ 1920 ∧ (∀ m ∈ lst a, m < 65536)) from
    ⟨mem_lst a, lst_sorted a, Nat.le_trans (List.length_filter_le _ _) (by have := hla.out; simp; omega), fun m hm => by have := has_lt ((mem_lst a m).1 hm); have := hla.out; omega⟩)
  have Hn := (show Hid _ from hn)
  clear hn
  have c1 := rlist_s hu
  generalize hLL : lst a = L at *
  have HLL := (show Hid _ from hLL)
  clear hLL
  go_enter Tryd.func4, Tryd.ntmps4
  go_wp2_with fail
  refine c1.mono ?_
  rintro e w5 ⟨v5, rfl, ho5, B5⟩
  clear c1
  go_upto_region 6 with fail
  go_cut [9] (fun s9 wc => ∃ hd : Bool, s9 = .bool hd ∧ Hid (hd = false → 0 ≤ n ∧ n < 65536) ∧ Hid (hd = true → ¬ (0 ≤ n ∧ n < 65536)) ∧ wc = w5)
  case first =>
    by_cases h0 : n < 0
    · go_wp2_with fail
      go_meet
      case rel => exact ⟨true, rfl, (fun e => nomatch e), (fun _ h => by omega), rfl⟩
    · by_cases h1 : 65536 ≤ n
      · go_wp2_with fail
        go_meet
        case rel => exact ⟨true, rfl, (fun e => nomatch e), (fun _ h => by omega), rfl⟩
      · go_wp2_with fail
        go_meet
        case rel => exact ⟨false, rfl, (fun _ => ⟨by omega, by omega⟩), (fun e => nomatch e), rfl⟩
  case rest =>
    obtain ⟨hd0, rfl, Hd1, Hd2, rfl⟩ := hcut
    obtain ⟨a5, cap5, hs5⟩ := ishape ho5
    subst hs5
    have hR0 : R3 w wc (.slice none 0 0) (.slice none 0 0) (.slice a5 L.length cap5) [] [] L :=
      ⟨World.ownsRow_nil _ _ _ _, World.ownsRow_nil _ _ _ _, ho5, apart_nil _, apart_nil _, apart_nil _, B5⟩
    generalize hN : L.length = N at *
    have HN := (show Hid _ from hN)
    have hN2 : N ≤ 1920 := by have := HL.out.2.2.1; omega
    clear hN ho5
    go_upto_block 0 with fail
    go_cut [6, 7, 8, 9] (fun s6 s7 s8 s9 wd => ∃ (nx : Int) (hd : Bool) (lw lo : List Nat), s6 = .int .i64 nx ∧ s9 = .bool hd ∧ R3 w wd s7 s8 (.slice a5 N cap5) lw lo L ∧ Hid (NxUp L n N nx) ∧ Hid (Rows2 L n N hd lw lo 0))
    case first =>
      go_wp2_with fail
      go_loopg [6, 7, 8, 9, 10] N (fun g s6 s7 s8 s9 s10 W => ∃ (q : Nat) (nx : Int) (hd : Bool) (lw lo : List Nat), s10 = .int .i64 (q : Int) ∧ s6 = .int .i64 nx ∧ s9 = .bool hd ∧ g + q = N ∧ R3 w W s7 s8 (.slice a5 N cap5) lw lo L ∧ Hid (NxUp L n q nx) ∧ Hid (Rows2 L n q hd lw lo 0))
      case atStart =>
        refine ⟨0, -1, hd0, [], [], rfl, rfl, rfl, by omega, hR0, Or.inl ⟨rfl, by simp⟩, ⟨Hd1.out, fun m => ?_, fun m => by simp, by simp, by simp⟩⟩
        simp only [List.not_mem_nil, List.take_zero, false_and, false_or, false_iff]
        rintro ⟨h1, h2, h3⟩
        exact Hd2.out h1 ⟨by omega, by omega⟩
      case round =>
        clear hR0 Hd1 Hd2
        obtain ⟨q, nx, hd, lw, lo, rfl, rfl, rfl, hq, hR, HX, HRW⟩ := hrel
        by_cases hqn : q < N
        · have hqL : Hid (q < L.length) := by have := HN.out; exact (show q < L.length by omega)
          obtain ⟨g5, rfl, hc⟩ := icell hR.o3 q hqL.out
          have HR := (show Hid _ from hR)
          have hsz : w.heap.size ≤ wr.heap.size := hR.bel.size
          clear hR
          have hxr : L.getD q 0 < 65536 := HL.out.2.2.2 _ (by rw [getD_lt L q hqL.out]; exact List.getElem_mem _)
          generalize hX : L.getD q 0 = x at hc hxr
          have HXX := (show Hid _ from hX)
          clear hX
          go_upto_region 10 with fail
          go_cut [39] (fun s39 wc2 => ∃ c : Bool, s39 = .bool c ∧ Hid (c = true ↔ (nx < 0 ∧ n ≤ (x : Int))) ∧ wc2 = wr)
          case first =>
            by_cases h0 : nx < 0
            · by_cases hx : n ≤ (x : Int)
              · go_wp2_with fail
                go_meet
                case rel => exact ⟨true, by simp [hx], ⟨fun _ => ⟨h0, hx⟩, fun _ => rfl⟩, rfl⟩
              · go_wp2_with fail
                go_meet
                case rel => exact ⟨false, by simp [hx], ⟨(fun h => by cases h), (fun h => by exfalso; omega)⟩, rfl⟩
            · go_wp2_with fail
              go_meet
              case rel => exact ⟨false, rfl, ⟨(fun h => by cases h), (fun h => by exfalso; omega)⟩, rfl⟩
          case rest =>
            obtain ⟨c39, rfl, H39, rfl⟩ := hcut
            go_upto_if 39 with fail
            go_cut [6] (fun s6 wc3 => ∃ nx' : Int, s6 = .int .i64 nx' ∧ Hid (NxUp L n (q + 1) nx') ∧ wc3 = wc)
            case first =>
              cases c39 with
              | true =>
                have H' : Hid (NxUp L n (q + 1) (x : Int)) := by
                  have hh := H39.out.1 rfl
                  have := HX.out.set hh.1 hqL.out (by rw [HXX.out]; exact hh.2)
                  rw [HXX.out] at this
                  exact this
                clear HX H39
                go_wp2_with fail
                go_meet
                case rel => exact ⟨_, rfl, H', rfl⟩
              | false =>
                have H' : Hid (NxUp L n (q + 1) nx) := by
                  by_cases h0 : nx < 0
                  · exact HX.out.low hqL.out (by rw [HXX.out]; rcases Int.lt_or_le (x : Int) n with h | h; exact h; cases H39.out.2 ⟨h0, h⟩)
                  · exact HX.out.keep h0 HL.out.2.1 hqL.out
                clear HX H39
                go_wp2_with fail
                go_meet
                case rel => exact ⟨_, rfl, H', rfl⟩
            case rest =>
              obtain ⟨nx', rfl, HX', rfl⟩ := hcut
              clear HX H39
              go_upto_region 12 with fail
              go_cut [53] (fun s53 wc4 => ∃ c : Bool, s53 = .bool c ∧ Hid (c = true ↔ (hd = false ∧ n ≤ (x : Int))) ∧ wc4 = wc)
              case first =>
                cases hd with
                | true =>
                  go_wp2_with fail
                  go_meet
                  case rel => exact ⟨false, rfl, ⟨(fun h => by cases h), (fun h => by cases h.1)⟩, rfl⟩
                | false =>
                  by_cases hx : n ≤ (x : Int)
                  · go_wp2_with fail
                    go_meet
                    case rel => exact ⟨true, by simp [hx], ⟨(fun _ => ⟨by first | trivial | rfl, by omega⟩), fun _ => rfl⟩, rfl⟩
                  · go_wp2_with fail
                    go_meet
                    case rel => exact ⟨false, by simp [hx], ⟨(fun h => by cases h), (fun h => by exfalso; omega)⟩, rfl⟩
              case rest =>
                obtain ⟨c53, rfl, H53, rfl⟩ := hcut
                go_upto_if 53 with fail
                go_cut [7, 9] (fun s7 s9 wc5 => ∃ (hd' : Bool) (lw' : List Nat), s9 = .bool hd' ∧ R3 w wc5 s7 u8 (.slice (some ⟨g5, 0, none⟩) N cap5) lw' lo L ∧ Hid (Rows2 L n q hd' lw' lo 1))
                case first =>
                  cases c53 with
                  | false =>
                    go_wp2_with fail
                    go_meet
                    case rel => exact ⟨hd, lw, rfl, HR.out, HRW.out.one⟩
                  | true =>
                    obtain ⟨rfl, hx⟩ := H53.out.1 rfl
                    have hrg := HRW.out.rng rfl
                    obtain ⟨m0, rfl⟩ : ∃ m0 : Nat, n = m0 := ⟨n.toNat, by omega⟩
                    have Hlw : Hid (lw.length ≤ 4000) := by have := HRW.out.lw; exact (show lw.length ≤ 4000 by omega)
                    have HRW' : Hid (Rows2 L (m0 : Int) q true (lw ++ [m0]) lo 1) := HRW.out.put
                    clear HRW hrg H53
                    go_wp2_with (at_builtin; refine wpList_append_own_at _ rfl _ _ 24 rfl w.heap.size 3 i0 (.int .i64 0) 1 8 Tryd.underlying24 hi hz0 hz1 hz2 rfl (by decide) _ _ _ rfl (HR.out.alloc _).o1 ⟨wc.heap.size, 0, none⟩ 1 1 [.int .i64 ((m0 : Nat) : Int)] rfl rfl (cell_one_new _ _ _) (one_int _ _) (by have := Hlw.out; unfold maxLen; omega) (by have := Hlw.out; omega) (by simp; omega) ?_; intro v1 w1 hown1 hgrow1 _ hat1)
                    have HR1 := (show Hid _ from (HR.out.alloc _).app1 hown1 hgrow1 hat1)
                    clear hown1 hgrow1 hat1
                    go_wp2_with fail
                    go_meet
                    case rel => exact ⟨true, _, rfl, HR1.out, HRW'⟩
                case rest =>
                  obtain ⟨hd', lw', rfl, hR, HRW'⟩ := hcut
                  clear HR HRW H53
                  have hc3 := icell2 hR.o3 hqL.out HXX.out
                  clear hc
                  have HR := (show Hid _ from hR)
                  clear hR
                  by_cases hx : (x : Int) = n
                  · have HRW2 : Hid (Rows2 L n (q + 1) hd' lw' lo 0) := HRW'.out.skip hqL.out (by rw [HXX.out]; exact hx)
                    clear HRW'
                    go_wp2_with fail
                    go_roundg (gk - 1)
                    case measure => omega
                    case rel => exact ⟨q + 1, nx', hd', lw', lo, by go_num, rfl, rfl, by omega, HR.out, HX', HRW2⟩
                  · have HRW2 : Hid (Rows2 L n (q + 1) hd' (lw' ++ [x]) (lo ++ [x]) 0) := by have := HRW'.out.more hqL.out (by rw [HXX.out]; exact hx); rw [HXX.out] at this; exact this
                    have Hll : Hid (lw'.length ≤ 200000 ∧ lo.length ≤ 200000) := by have := HRW'.out.lw; have := HRW'.out.lo; exact ⟨by omega, by omega⟩
                    clear HRW'
                    have Hst := (show Hid _ from R3p.start HR.out x)
                    clear HR
                    go_upto_region 15 with fail
                    go_region_held3 (fun w' => w'.cell? ⟨g5, q, none⟩ = some (.int .i64 (x : Int))) (first | assumption | exact alloc_cell (by assumption) _) (first | (refine step_row1 (v1 := u7) (v2 := vb) (l1 := lw') (l2 := lo ++ [x]) (v3 := .slice (some ⟨g5, 0, none⟩) N cap5) (l3 := L) (w := w) (x := x) rfl (.tmp 64) (.tmp 69) rfl rfl _ rfl (by first | with_reducible exact HPb.out | with_reducible exact HPb.out.alloc | with_reducible exact HPb.out.drew | with_reducible exact HPb.out.alloc.drew | with_reducible exact HPb.out.alloc.alloc.drew | with_reducible exact HPb.out.alloc.alloc | with_reducible exact HPb.out.drew.alloc | with_reducible exact HPb.out.alloc.drew.alloc) (by simp) Hll.out.1 q hqL.out HXX.out g5 N cap5 rfl ?_; intro va Wa hPa hca; have HPa := (show Hid _ from hPa); clear hPa) | (refine step_row2 (v1 := va) (v2 := u8) (l1 := lw' ++ [x]) (l2 := lo) (v3 := .slice (some ⟨g5, 0, none⟩) N cap5) (l3 := L) (w := w) (x := x) rfl (.tmp 71) (.tmp 76) rfl rfl _ rfl (by first | with_reducible exact HPa.out | with_reducible exact HPa.out.alloc | with_reducible exact HPa.out.drew | with_reducible exact HPa.out.alloc.drew | with_reducible exact HPa.out.alloc.alloc.drew | with_reducible exact HPa.out.alloc.alloc | with_reducible exact HPa.out.drew.alloc | with_reducible exact HPa.out.alloc.drew.alloc) (by simp) Hll.out.2 q hqL.out HXX.out g5 N cap5 rfl ?_; intro vb Wb hPb hcb; have HPb := (show Hid _ from hPb); clear hPb) | (refine step_row1 (v1 := u7) (v2 := u8) (l1 := lw') (l2 := lo) (v3 := .slice (some ⟨g5, 0, none⟩) N cap5) (l3 := L) (w := w) (x := x) rfl (.tmp 64) (.tmp 69) rfl rfl _ rfl (by first | with_reducible exact Hst.out | with_reducible exact Hst.out.alloc | with_reducible exact Hst.out.drew | with_reducible exact Hst.out.alloc.drew | with_reducible exact Hst.out.alloc.alloc.drew | with_reducible exact Hst.out.alloc.alloc | with_reducible exact Hst.out.drew.alloc | with_reducible exact Hst.out.alloc.drew.alloc) (by simp) Hll.out.1 q hqL.out HXX.out g5 N cap5 rfl ?_; intro va Wa hPa hca; have HPa := (show Hid _ from hPa); clear hPa) | (refine step_row2 (v1 := u7) (v2 := u8) (l1 := lw') (l2 := lo) (v3 := .slice (some ⟨g5, 0, none⟩) N cap5) (l3 := L) (w := w) (x := x) rfl (.tmp 71) (.tmp 76) rfl rfl _ rfl (by first | with_reducible exact Hst.out | with_reducible exact Hst.out.alloc | with_reducible exact Hst.out.drew | with_reducible exact Hst.out.alloc.drew | with_reducible exact Hst.out.alloc.alloc.drew | with_reducible exact Hst.out.alloc.alloc | with_reducible exact Hst.out.drew.alloc | with_reducible exact Hst.out.alloc.drew.alloc) (by simp) Hll.out.2 q hqL.out HXX.out g5 N cap5 rfl ?_; intro vb Wb hPb hcb; have HPb := (show Hid _ from hPb); clear hPb))
                    all_goals
                      go_wp2_with fail
                      go_roundg (gk - 1)
                      case measure => omega
                      case rel => exact ⟨q + 1, nx', hd', lw' ++ [x], lo ++ [x], by go_num, rfl, rfl, by omega, R3p.r (x := x) (by first | with_reducible exact HPa.out | with_reducible exact HPa.out.alloc | with_reducible exact HPa.out.drew | with_reducible exact HPa.out.alloc.drew | with_reducible exact HPa.out.alloc.alloc.drew | with_reducible exact HPa.out.alloc.alloc | with_reducible exact HPa.out.drew.alloc | with_reducible exact HPa.out.alloc.drew.alloc | with_reducible exact HPb.out | with_reducible exact HPb.out.alloc | with_reducible exact HPb.out.drew | with_reducible exact HPb.out.alloc.drew | with_reducible exact HPb.out.alloc.alloc.drew | with_reducible exact HPb.out.alloc.alloc | with_reducible exact HPb.out.drew.alloc | with_reducible exact HPb.out.alloc.drew.alloc), HX', HRW2⟩
        · obtain rfl : q = N := by omega
          have HR := (show Hid _ from hR)
          clear hR
          go_wp2_with fail
          go_meet
          case rel => exact ⟨nx, hd, lw, lo, rfl, rfl, HR.out, HX, HRW⟩
    case rest =>
      clear hR0 Hd1 Hd2
      obtain ⟨nx, hd, lw, lo, rfl, rfl, hR, HX, HRW⟩ := hcut
      have hsz : w.heap.size ≤ wc.heap.size := hR.bel.size
      have HR := (show Hid _ from hR)
      clear hR
      go_upto_if 79 with fail
      go_cut [7] (fun s7 wd => ∃ lw' : List Nat, R3 w wd s7 u8 (.slice a5 N cap5) lw' lo L ∧ Hid ((∀ m, m ∈ lw' ↔ (has a m = true ∧ ¬ (m : Int) = n) ∨ ((m : Int) = n ∧ m < 65536)) ∧ lw'.length ≤ 100000))
      case first =>
        have hNL : L.take N = L := List.take_of_length_le (by have := HN.out; omega)
        cases hd with
        | true =>
          have HM : Hid ((∀ m, m ∈ lw ↔ (has a m = true ∧ ¬ (m : Int) = n) ∨ ((m : Int) = n ∧ m < 65536)) ∧ lw.length ≤ 100000) := by
            refine ⟨fun m => ?_, by have := HRW.out.lw; omega⟩
            rw [HRW.out.mw, hNL, HL.out.1]
            simp
          clear HRW
          go_wp2_with fail
          go_meet
          case rel => exact ⟨lw, HR.out, HM⟩
        | false =>
          have hrg := HRW.out.rng rfl
          obtain ⟨m0, rfl⟩ : ∃ m0 : Nat, n = m0 := ⟨n.toNat, by omega⟩
          have Hlw : Hid (lw.length ≤ 4000) := by have := HRW.out.lw; exact (show lw.length ≤ 4000 by omega)
          have HRW' : Hid (Rows2 L (m0 : Int) N true (lw ++ [m0]) lo 1) := HRW.out.put
          have HM : Hid ((∀ m : Nat, m ∈ lw ++ [m0] ↔ (has a m = true ∧ ¬ (m : Int) = (m0 : Int)) ∨ ((m : Int) = (m0 : Int) ∧ m < 65536)) ∧ (lw ++ [m0]).length ≤ 100000) := by
            refine ⟨fun m => ?_, by have := HRW'.out.lw; omega⟩
            rw [HRW'.out.mw, hNL, HL.out.1]
            simp
          clear HRW hrg HRW'
          go_wp2_with (at_builtin; refine wpList_append_own_at _ rfl _ _ 24 rfl w.heap.size 3 i0 (.int .i64 0) 1 8 Tryd.underlying24 hi hz0 hz1 hz2 rfl (by decide) _ _ _ rfl (HR.out.alloc _).o1 ⟨wc.heap.size, 0, none⟩ 1 1 [.int .i64 ((m0 : Nat) : Int)] rfl rfl (cell_one_new _ _ _) (one_int _ _) (by have := Hlw.out; unfold maxLen; omega) (by have := Hlw.out; omega) (by simp; omega) ?_; intro v1 w1 hown1 hgrow1 _ hat1)
          have HR1 := (show Hid _ from (HR.out.alloc _).app1 hown1 hgrow1 hat1)
          clear hown1 hgrow1 hat1
          go_wp2_with fail
          go_meet
          case rel => exact ⟨_, HR1.out, HM⟩
      case rest =>
        obtain ⟨lw', hR, HM⟩ := hcut
        have HO : Hid ((∀ m, m ∈ lo ↔ (has a m = true ∧ ¬ (m : Int) = n)) ∧ lo.length ≤ 100000) := by
          refine ⟨fun m => ?_, by have := HRW.out.lo; omega⟩
          rw [HRW.out.mo, List.take_of_length_le (by have := HN.out; omega), HL.out.1]
        have HX' : Hid (IsNext a n nx) := by
          have := HX.out
          rw [← HLL.out] at this
          exact this.next (by rw [HLL.out, HN.out])
        have hb := hR.bel
        clear HR HRW HX
        have c7 := list_s (hu.below hb) (hT.below hb)
        rw [HLL.out] at c7
        have HR := (show Hid _ from hR)
        clear hR
        go_wp2_with fail
        refine c7.mono ?_
        rintro e x1 ⟨v11, rfl, ho11, C1⟩
        clear c7
        obtain ⟨a11, cap11, hs11⟩ := ishape ho11
        subst hs11
        rw [HN.out] at ho11 ⊢
        have E1 := C1
        have d1 := of_s (HR.out.o3.below E1) (by have := HN.out; omega) (fun x hx => HL.out.2.2.2 x hx)
        go_wp2_with fail
        refine d1.mono ?_
        rintro e x2 ⟨y2, t2, rfl, h2, T2, G2, C2⟩
        clear d1
        have E2 := E1.trans (C2.mono E1.size)
        have d2 := rof_s (HR.out.o3.below E2) (by have := HN.out; omega) (fun x hx => HL.out.2.2.2 x hx)
        go_wp2_with fail
        refine d2.mono ?_
        rintro e x3 ⟨y3, t3, rfl, h3, T3, G3, C3⟩
        clear d2
        have E3 := E2.trans (C3.mono E2.size)
        have d3 := is_s (h2.below C3) h3 T2 T3 (fun m => Bool.eq_iff_iff.2 (by rw [G2.out, G3.out]))
        go_wp2_with fail
        refine d3.mono ?_
        rintro e x4 ⟨rfl, C4⟩
        clear d3 G2 G3 T2 T3 h2 h3
        have E4 := E3.trans (C4.mono E3.size)
        have F4 : Below x1.heap.size x1 x4 := (C2.trans (C3.mono C2.size)).trans (C4.mono (C2.trans (C3.mono C2.size)).size)
        clear C2 C3 C4 E2 E3 C1
        have HE := (show Hid _ from And.intro E4 (And.intro F4 E1))
        clear E4 F4 E1
        have Ho11 := (show Hid (OwnI wc.heap.size x1 (.slice a11 N cap11) L) from ho11)
        clear ho11
        go_wp2_with fail
        go_loopg [12] N (fun g s12 W => ∃ q : Nat, s12 = .int .i64 (q : Int) ∧ g + q = N ∧ Below x4.heap.size x4 W)
        case atStart => exact ⟨0, rfl, by omega, Below.refl _ _⟩
        case round =>
          obtain ⟨q, rfl, hq, hbr⟩ := hrel
          by_cases hqn : q < N
          · have hqL : Hid (q < L.length) := by have := HN.out; exact (show q < L.length by omega)
            obtain ⟨g5, rfl, hc⟩ := icell (HR.out.o3.below (HE.out.1.trans (hbr.mono HE.out.1.size))) q hqL.out
            obtain ⟨g11, rfl, hd⟩ := icell (Ho11.out.below (HE.out.2.1.trans (hbr.mono HE.out.2.1.size))) q hqL.out
            generalize L.getD q 0 = x at hc hd
            go_wp2_with fail
            go_quiet (fail)
            all_goals
              go_wp2_with fail
              go_roundg (gk - 1)
              case measure => omega
              case rel => exact ⟨q + 1, by go_num, by omega, hbr.trans (drewN_below _ _ _)⟩
          · obtain rfl : q = N := by omega
            have FF := HE.out.1.trans (hbr.mono HE.out.1.size)
            have su := hu.below (hb.trans (FF.mono hb.size))
            have hTr := hT.below (hb.trans (FF.mono hb.size))
            have hR' := HR.out.below FF
            clear HE Ho11 HR hu hT hbr
            have e1 := has_s su n
            have e2 := rhasn_s su n
            generalize (decide ((0 : Int) ≤ n ∧ n < 65536) && has a n.toNat) = bb at e1 e2
            have e3 := count_s su
            rw [HLL.out, HN.out] at e3
            have e4 := (next_s su hTr n Hn.out).mono (R' := fun e w' => e = .returned (.int .i64 nx) ∧ wr = w') (by
              rintro e w' ⟨r, rfl, hr, rfl⟩
              obtain rfl := next_one hr HX'.out
              exact ⟨rfl, rfl⟩)
            have HR' := (show Hid _ from hR')
            clear hR'
            go_wp2_with fail
            refine e1.mono ?_
            rintro e w' ⟨rfl, rfl⟩
            clear e1
            go_wp2_with fail
            refine e2.mono ?_
            rintro e w' ⟨rfl, rfl⟩
            clear e2
            go_wp2_with fail
            refine e3.mono ?_
            rintro e w' ⟨rfl, rfl⟩
            clear e3
            go_wp2_with fail
            refine e4.mono ?_
            rintro e w' ⟨rfl, rfl⟩
            clear e4
            have e5 := with_s n su
            go_wp2_with fail
            refine e5.mono ?_
            rintro e z1 ⟨y1, t1, rfl, h1, T1, G1, C1⟩
            clear e5
            have e6 := rof_s (HR'.out.o1.below C1) HM.out.2 (fun x hx => by
              rcases (HM.out.1 x).1 hx with ⟨h, _⟩ | ⟨_, h⟩
              · exact HL.out.2.2.2 x ((HL.out.1 x).2 h)
              · exact h)
            go_wp2_with fail
            refine e6.mono ?_
            rintro e z2 ⟨y2, t2, rfl, h2, T2, G2, C2⟩
            clear e6
            have hq1 : ∀ m, has t1 m = has t2 m := fun m => Bool.eq_iff_iff.2 (by
              rw [G1.out, G2.out, HM.out.1]
              constructor
              · rintro (h | h)
                · by_cases hmn : (m : Int) = n
                  · have := HL.out.2.2.2 m ((HL.out.1 m).2 h); exact Or.inr ⟨hmn, this⟩
                  · exact Or.inl ⟨h, hmn⟩
                · exact Or.inr h
              · rintro (⟨h, _⟩ | h)
                · exact Or.inl h
                · exact Or.inr h)
            have e7 := is_s (h1.below C2) h2 T1 T2 hq1
            go_wp2_with fail
            refine e7.mono ?_
            rintro e z3 ⟨rfl, C3⟩
            clear e7 hq1 G1 G2 T1 T2 h1 h2
            have D3 := (C1.trans (C2.mono C1.size)).trans (C3.mono (C1.trans (C2.mono C1.size)).size)
            clear C1 C2 C3
            have e8 := without_s n (su.below D3)
            go_wp2_with fail
            refine e8.mono ?_
            rintro e z4 ⟨y1, t1, rfl, h1, T1, G1, C1⟩
            clear e8
            have D4 := D3.trans (C1.mono D3.size)
            have e9 := rof_s (HR'.out.o2.below D4) HO.out.2 (fun x hx => HL.out.2.2.2 x ((HL.out.1 x).2 ((HO.out.1 x).1 hx).1))
            go_wp2_with fail
            refine e9.mono ?_
            rintro e z5 ⟨y2, t2, rfl, h2, T2, G2, C2⟩
            clear e9
            have D5 := D4.trans (C2.mono D4.size)
            have hq2 : ∀ m, has t1 m = has t2 m := fun m => Bool.eq_iff_iff.2 (by rw [G1.out, G2.out, HO.out.1])
            have e10 := is_s (h1.below C2) h2 T1 T2 hq2
            go_wp2_with fail
            refine e10.mono ?_
            rintro e z6 ⟨rfl, C3⟩
            clear e10 hq2 G1 G2 T1 T2 h1 h2
            have D6 := D5.trans (C3.mono D5.size)
            have e11 := works_ok z6 (hTr.below D6)
            go_wp2_with fail
            refine e11.mono ?_
            rintro e z7 ⟨rfl, C4⟩
            clear e11
            go_wp2_with fail
            go_ret
            exact ⟨by rfl, hb.trans ((FF.trans ((D6.trans (C4.mono D6.size)).mono FF.size)).mono hb.size)⟩
end Go.Proofs.YtccccbkllplojaaDoor
