/-
  Contract of Diff of package edit. No condition beyond those that each theorem states.
-/
import Derived.Test.YtpmgccjhflcoiaaDoorEnds
namespace Go.Proofs.YtpmgccjhflcoiaaDoor
open Go.RowKit
set_option linter.unusedSimpArgs false
set_option linter.unusedVariables false

def DiffSays (a b : ByteArray) (w : World) (e : Ending) (w' : World) : Prop := ∃ x y : Nat, DiffIs a b x y ∧ e = .returned (.agg #[.int .i64 x, .int .i64 (a.size - y - x : Nat), .string (b.extract x (b.size - y))]) ∧ Below w.heap.size w w'
/-- an empty edit in memory, all else below as it was -/
def One (w W : World) : Prop := Below w.heap.size w W ∧ W.heap[w.heap.size]? = some (.cells #[.int .i64 0, .int .i64 0, .string ⟨#[]⟩] 23 (0, 0))
theorem One.later {w W W' : World} (h : One w W) (hb : Below W.heap.size W W') : One w W' := ⟨h.1.trans (hb.mono h.1.size), (hb.block _ (blk_lt h.2)).trans h.2⟩
theorem One.drewN {w W : World} (h : One w W) (n : Nat) : One w (W.drewN n) := h.later (drewN_below _ _ _)
theorem One.drew {w W : World} (h : One w W) : One w W.drew := h.drewN 1
theorem One.new (w : World) : One w (w.alloc (.cells #[.int .i64 0, .int .i64 0, .string ⟨#[]⟩] 23)) := ⟨(Below.refl _ _).alloc (Nat.le_refl _) _, blk_new _ _⟩
/-- the bytes of a text, laid anew -/
theorem bytes_row (W : World) (s : ByteArray) : ∃ (cap : Nat) (W' : World), (convert 9 65 (.string s)).run Tryd.prog W = .ok (.slice (some ⟨W.heap.size, 0, none⟩) s.size cap) W' ∧ RowAt W' W.heap.size s.data.toList ∧ Below W.heap.size W W' := by
  refine ⟨_, _, run_bytes_of_string (P := Tryd.prog) W 9 65 5 s Tryd.underlying9 Tryd.underlying65 Tryd.underlying5, ?_, ?_⟩
  · intro i hi
    have h := blk_new W.drew (.cells (bytesRow s (grownCap W s.size 0 5)) 5 ((bytesRow s (grownCap W s.size 0 5)).size, (bytesRow s (grownCap W s.size 0 5)).size + 1))
    refine blk_cell (w := W.drew.alloc _) h ?_
    unfold bytesRow
    have hl : i < s.data.size := by rw [Array.length_toList] at hi; exact hi
    rw [Array.getElem?_append_left (by simpa using hl)]
    simp [hl]
    exact ⟨_, Array.getElem?_eq_getElem hl, rfl⟩
  · exact (drewN_below W.heap.size W 1).alloc (Nat.le_refl _) _
set_option maxRecDepth 100000 in
set_option maxHeartbeats 1000000 in
theorem diff_ok (a b : ByteArray) (ha : a.size ≤ 100000) (hb : b.size ≤ 100000) (w : World) (hT : Tabs w) : Calls Tryd.prog 31 #[.string a, .string b] w (DiffSays a b w) := by
  have H0 := One.new w
  obtain ⟨cap1, W1, hr1, row1, hb1⟩ := bytes_row (w.alloc (.cells #[.int .i64 0, .int .i64 0, .string ⟨#[]⟩] 23)) a
  have ez : (w.alloc (.cells #[.int .i64 0, .int .i64 0, .string ⟨#[]⟩] 23)).heap.size = w.heap.size + 1 := by simp
  rw [ez] at hr1 row1
  have H1 := H0.later hb1
  clear ez
  obtain ⟨cap2, W2, hr2, row2, hb2⟩ := bytes_row W1 b
  have H2 := H1.later hb2
  have c1 := alike_ok a.data.toList b.data.toList _ cap1 _ cap2 W2 (row1.later hb2) row2 (by rw [← Lib.size_eq]; omega) (by rw [← Lib.size_eq]; omega)
  rw [← Lib.size_eq, ← Lib.size_eq] at c1
  have HT := (show Hid (∀ W, One w W → Tabs W) from fun W h => Utf8Tabs_below hT h.1)
  have CA := (show Hid (∀ (i : Nat) W, One w W → i ≤ a.size → Calls Tryd.prog 33 #[.string a, .int .i64 i] W fun e w' => e = .returned (.bool (caretN a i)) ∧ Below W.heap.size W w') from fun i W h hi => by
    have := ucaret_ok a i (by omega) W (HT.out W h)
    rw [caretI_nat a i hi] at this
    exact this)
  have CB := (show Hid (∀ (i : Nat) W, One w W → i ≤ b.size → Calls Tryd.prog 33 #[.string b, .int .i64 i] W fun e w' => e = .returned (.bool (caretN b i)) ∧ Below W.heap.size W w') from fun i W h hi => by
    have := ucaret_ok b i (by omega) W (HT.out W h)
    rw [caretI_nat b i hi] at this
    exact this)
  clear row1 row2 hb1 hb2 H0 H1 hT
  go_enter Tryd.func31, Tryd.ntmps31
  go_wp2_with fail
  refine c1.mono ?_
  rintro e w3 ⟨n, k, rfl, hn, rfl⟩
  have H3 := H2.drewN k
  have hnle := pre_le hn
  rw [← Lib.size_eq, ← Lib.size_eq] at hnle
  obtain ⟨hna, hnb⟩ := hnle
  have HN := Lib.hid hn
  clear c1 hn H2
  go_wp2_with fail
  generalize W2.drewN k = w4 at *
  go_loopg [5] n (fun g s5 W => ∃ i : Nat, s5 = .int .i64 (i : Int) ∧ i ≤ n ∧ i ≤ g ∧ Hid (down (bothB a b) i = down (bothB a b) n) ∧ One w W)
  case atStart => exact ⟨n, rfl, Nat.le_refl _, Nat.le_refl _, rfl, H3⟩
  case round =>
    obtain ⟨i, rfl, hi, hg, HD, Hw⟩ := hrel
    have ca := CA.out i wr Hw (by omega)
    have CBi := (show Hid _ from fun W h => CB.out i W h (by omega))
    by_cases hP : bothB a b i = true
    · have hix : i = down (bothB a b) n := by rw [← HD.out]; exact (down_yes _ _ hP).symm
      have HIX := Lib.hid hix
      have hP2 := hP
      unfold bothB at hP2
      rw [Bool.and_eq_true] at hP2
      rw [hP2.1] at ca
      have HP2 := Lib.hid hP2.2
      have hia : i ≤ a.size := by omega
      have hib : i ≤ b.size := by omega
      obtain ⟨ta, hta⟩ : ∃ t, t = a.extract i a.size := ⟨_, rfl⟩
      obtain ⟨tb, htb⟩ : ∃ t, t = b.extract i b.size := ⟨_, rfl⟩
      have hsa : ∀ W, (Instr.slice 9 (.string a) (some (.int .i64 (i : Int))) none none).run Tryd.prog W = .ok (.string ta) W := fun W => by
        rw [run_slice_string_from_if (P := Tryd.prog) W 9 a .i64 (i : Int) Tryd.underlying9, if_pos (by omega), Int.toNat_natCast, hta]
      have hsb : ∀ W, (Instr.slice 9 (.string b) (some (.int .i64 (i : Int))) none none).run Tryd.prog W = .ok (.string tb) W := fun W => by
        rw [run_slice_string_from_if (P := Tryd.prog) W 9 b .i64 (i : Int) Tryd.underlying9, if_pos (by omega), Int.toNat_natCast, htb]
      have hza : ta.size = a.size - i := by rw [hta, ext_len a i a.size (Nat.le_refl _)]
      have hzb : tb.size = b.size - i := by rw [htb, ext_len b i b.size (Nat.le_refl _)]
      have hea : ta.data.toList.reverse = endL a i := by rw [hta, Lib.extract_to_end]; rfl
      have heb : tb.data.toList.reverse = endL b i := by rw [htb, Lib.extract_to_end]; rfl
      have TA := (show Hid (∀ W, Calls Tryd.prog 49 #[.string ta] W fun e w' => ∃ g cap : Nat, e = .returned (.slice (some ⟨g, 0, none⟩) (a.size - i) cap) ∧ RowAt w' g (endL a i) ∧ Below W.heap.size W w') from fun W => by
        have := turned_ok ta (by omega) W
        unfold TurnedSays at this
        rw [hza, hea] at this
        exact this)
      have TB := (show Hid (∀ W, Calls Tryd.prog 49 #[.string tb] W fun e w' => ∃ g cap : Nat, e = .returned (.slice (some ⟨g, 0, none⟩) (b.size - i) cap) ∧ RowAt w' g (endL b i) ∧ Below W.heap.size W w') from fun W => by
        have := turned_ok tb (by omega) W
        unfold TurnedSays at this
        rw [hzb, heb] at this
        exact this)
      have AL := (show Hid (∀ g1 c1 g2 c2 W, RowAt W g1 (endL a i) → RowAt W g2 (endL b i) → Calls Tryd.prog 48 #[.slice (some ⟨g1, 0, none⟩) (a.size - i) c1, .slice (some ⟨g2, 0, none⟩) (b.size - i) c2] W (AlikeSays (endL a i) (endL b i) W)) from fun g1 c1 g2 c2 W r1 r2 => by
        have := alike_ok (endL a i) (endL b i) g1 c1 g2 c2 W r1 r2 (by rw [endL_len]; omega) (by rw [endL_len]; omega)
        rw [endL_len, endL_len] at this
        exact this)
      clear hix hP hP2 HD hta htb hza hzb hea heb H3
      go_wp2_with fail
      refine ca.mono ?_
      rintro e w5 ⟨rfl, hb5⟩
      have H5 := Hw.later hb5
      have cb := CBi.out w5 H5
      rw [HP2.out] at cb
      clear ca hb5
      go_wp2_with fail
      refine cb.mono ?_
      rintro e w6 ⟨rfl, hb6⟩
      have H6 := H5.later hb6
      clear cb hb6 H5 Hw
      go_upto_region 4 with fail
      go_cut [6] (fun s6 wc => ∃ m : Nat, s6 = .int .i64 (m : Int) ∧ Hid (IsPre (endL a i) (endL b i) m) ∧ One w wc)
      case first =>
        go_region_held3 (fun W => One w W) (first | assumption | (exact One.later (by assumption) (by assumption)) | (exact One.drew (by assumption)) | (exact One.drewN (by assumption) _)) (first | (go_at_call 49; with_reducible refine (TA.out _).mono ?_; rintro e wa ⟨ga, cpa, rfl, ra, hba⟩) | (go_at_call 49; with_reducible refine (TB.out _).mono ?_; rintro e wb ⟨gb, cpb, rfl, rb, hbb⟩) | (go_at_call 48; refine (AL.out ga cpa gb cpb _ (by first | exact ra | exact ra.later hbb | exact (ra.drewN 1).later hbb) (by first | exact rb | exact rb.later hba | exact (rb.drewN 1).later hba)).mono ?_; rintro e wz ⟨m, kz, rfl, hm, rfl⟩))
        have HM := Lib.hid hm
        clear hm
        go_wp2_with fail
        go_meet
        case rel => exact ⟨m, rfl, HM, by assumption⟩
      case rest =>
        obtain ⟨m, rfl, HM, Hc⟩ := hcut
        have hmle := pre_le HM.out
        rw [endL_len, endL_len] at hmle
        obtain ⟨hma, hmb⟩ := hmle
        clear TA TB AL H6
        obtain ⟨gko, rfl⟩ : ∃ y : Nat, y = gk := ⟨_, rfl⟩
        go_wp2_with fail
        go_loopg [6] m (fun g s6 W => ∃ j : Nat, s6 = .int .i64 (j : Int) ∧ j ≤ m ∧ j ≤ g ∧ Hid (down (tailB a b) j = down (tailB a b) m) ∧ One w W)
        case atStart => exact ⟨m, rfl, Nat.le_refl _, Nat.le_refl _, rfl, Hc⟩
        case round =>
          clear Hc
          obtain ⟨j, rfl, hj, hjg, HD, Hw⟩ := hrel
          have hsub : ∀ W, One w W → Calls Tryd.prog 33 #[.string a, .int .i64 ((a.size : Int) - (j : Int))] W fun e w' => e = .returned (.bool (caretN a (a.size - j))) ∧ Below W.heap.size W w' := fun W h => by
            have := CA.out (a.size - j) W h (by omega)
            rw [show ((a.size - j : Nat) : Int) = (a.size : Int) - (j : Int) from by omega] at this
            exact this
          have hsubb : ∀ W, One w W → Calls Tryd.prog 33 #[.string b, .int .i64 ((b.size : Int) - (j : Int))] W fun e w' => e = .returned (.bool (caretN b (b.size - j))) ∧ Below W.heap.size W w' := fun W h => by
            have := CB.out (b.size - j) W h (by omega)
            rw [show ((b.size - j : Nat) : Int) = (b.size : Int) - (j : Int) from by omega] at this
            exact this
          have ca2 := hsub _ Hw
          have CB2 := Lib.hid hsubb
          clear hsub hsubb
          by_cases hQ : tailB a b j = true
          · have hD : DiffIs a b i j := ⟨n, m, HN.out, HIX.out, HM.out, by rw [← HD.out]; exact (down_yes _ _ hQ).symm⟩
            have HDI := Lib.hid hD
            unfold tailB at hQ
            rw [Bool.and_eq_true] at hQ
            rw [hQ.1] at ca2
            have HQ2 := Lib.hid hQ.2
            have cl := fun W => clone_ok (b.extract i (b.size - j)) (by rw [ByteArray.size_extract]; omega) W
            have HCl := Lib.hid cl
            have z1 : (i : Int) ≤ (b.size : Int) - (j : Int) := by omega
            have z2 : ((b.size : Int) - (j : Int)).toNat = b.size - j := by omega
            clear hD hQ HD cl
            go_wp2_with fail
            refine ca2.mono ?_
            rintro e w7 ⟨rfl, hb7⟩
            have H7 := Hw.later hb7
            have cb2 := CB2.out w7 H7
            rw [HQ2.out] at cb2
            clear ca2 hb7
            go_wp2_with fail
            refine cb2.mono ?_
            rintro e w8 ⟨rfl, hb8⟩
            have H8 := H7.later hb8
            clear cb2 hb8
            go_wp2_with fail
            refine (HCl.out _).mono ?_
            rintro e w9 ⟨rfl, hb9⟩
            have H9 := H8.later hb9
            have hblk := H9.2
            have d0 : w9.cell? ⟨w.heap.size, 0, none⟩ = some (.int .i64 0) := blk_cell hblk rfl
            have d1 : w9.cell? ⟨w.heap.size, 1, none⟩ = some (.int .i64 0) := blk_cell hblk rfl
            have d2 : w9.cell? ⟨w.heap.size, 2, none⟩ = some (.string ⟨#[]⟩) := blk_cell hblk rfl
            have f0 : w9.frozen? ⟨w.heap.size, 0, none⟩ = false := blk_free hblk
            have f1 : w9.frozen? ⟨w.heap.size, 1, none⟩ = false := blk_free hblk
            have f2 : w9.frozen? ⟨w.heap.size, 2, none⟩ = false := blk_free hblk
            have HC := Lib.hid (show DiffSays a b w (.returned (.agg #[.int .i64 i, .int .i64 ((a.size : Int) - (j : Int) - (i : Int)), .string (b.extract i (b.size - j))])) (((w9.setCell ⟨w.heap.size, 0, none⟩ (.int .i64 i)).setCell ⟨w.heap.size, 1, none⟩ (.int .i64 ((a.size : Int) - (j : Int) - (i : Int)))).setCell ⟨w.heap.size, 2, none⟩ (.string (b.extract i (b.size - j)))) from
              ⟨i, j, HDI.out, by rw [show ((a.size - j - i : Nat) : Int) = (a.size : Int) - (j : Int) - (i : Int) from by omega], edit_below H9.1 (Nat.le_refl _) _ _ _⟩)
            clear hblk hb9 H8 H7 Hw
            go_wp2_with fail
            exact bodyPost_ret (results_cell_row rfl _ _ w.heap.size 23 _ (0, 0) _ rfl (edit_blk H9.2) Tryd.underlying23 rfl info23) rfl HC.out
          · have hQ0 : tailB a b j = false := by simpa using hQ
            have hne : j ≠ 0 := by rintro rfl; rw [tail_zero] at hQ0; cases hQ0
            have HD2 := Lib.hid (show down (tailB a b) (j - 1) = down (tailB a b) m from by rw [← HD.out]; exact (down_no _ _ hQ0).symm)
            unfold tailB at hQ0
            cases hca : caretN a (a.size - j) with
            | false =>
              rw [hca] at ca2
              clear hca hQ0 hQ HD
              go_wp2_with fail
              refine ca2.mono ?_
              rintro e w7 ⟨rfl, hb7⟩
              have H7 := Hw.later hb7
              clear ca2 hb7
              go_wp2_with fail
              go_roundg (j - 1)
              case measure => omega
              case rel => exact ⟨j - 1, by congr 1; omega, by omega, Nat.le_refl _, HD2, H7⟩
            | true =>
              rw [hca, Bool.true_and] at hQ0
              rw [hca] at ca2
              clear hca hQ HD
              go_wp2_with fail
              refine ca2.mono ?_
              rintro e w7 ⟨rfl, hb7⟩
              have H7 := Hw.later hb7
              have cb2 := CB2.out w7 H7
              rw [hQ0] at cb2
              clear ca2 hb7 hQ0
              go_wp2_with fail
              refine cb2.mono ?_
              rintro e w8 ⟨rfl, hb8⟩
              have H8 := H7.later hb8
              clear cb2 hb8
              go_wp2_with fail
              go_roundg (j - 1)
              case measure => omega
              case rel => exact ⟨j - 1, by congr 1; omega, by omega, Nat.le_refl _, HD2, H8⟩
    · have hP0 : bothB a b i = false := by simpa using hP
      have hne : i ≠ 0 := by rintro rfl; rw [both_zero] at hP0; cases hP0
      have HD2 := Lib.hid (show down (bothB a b) (i - 1) = down (bothB a b) n from by rw [← HD.out]; exact (down_no _ _ hP0).symm)
      unfold bothB at hP0
      cases hca : caretN a i with
      | false =>
        rw [hca] at ca
        clear hca hP0 hP HD H3
        go_wp2_with fail
        refine ca.mono ?_
        rintro e w5 ⟨rfl, hb5⟩
        have H5 := Hw.later hb5
        clear ca hb5
        go_wp2_with fail
        go_roundg (i - 1)
        case measure => omega
        case rel => exact ⟨i - 1, by congr 1; omega, by omega, Nat.le_refl _, HD2, H5⟩
      | true =>
        rw [hca, Bool.true_and] at hP0
        rw [hca] at ca
        clear hca hP HD H3
        go_wp2_with fail
        refine ca.mono ?_
        rintro e w5 ⟨rfl, hb5⟩
        have H5 := Hw.later hb5
        have cb := CBi.out w5 H5
        rw [hP0] at cb
        clear ca hb5 hP0
        go_wp2_with fail
        refine cb.mono ?_
        rintro e w6 ⟨rfl, hb6⟩
        have H6 := H5.later hb6
        clear cb hb6
        go_wp2_with fail
        go_roundg (i - 1)
        case measure => omega
        case rel => exact ⟨i - 1, by congr 1; omega, by omega, Nat.le_refl _, HD2, H6⟩
end Go.Proofs.YtpmgccjhflcoiaaDoor
