/-
  The walk of EditBack. No condition beyond those that each theorem states.
-/
import Derived.Test.YtpmgccjhflcoiaaDoorDiff
import Derived.Test.YtpmgccjhflcoiaaDoorMoved
import Derived.Test.YtpmgccjhflcoiaaDoorCommutesWalk
namespace Go.Proofs.YtpmgccjhflcoiaaDoor
open Go.RowKit
set_option linter.unusedSimpArgs false
set_option linter.unusedVariables false

/-- an edit in memory, all else below as it was -/
def Held (w : World) (a c : Int) (p : ByteArray) (W : World) : Prop := Below w.heap.size w W ∧ W.heap[w.heap.size]? = some (.cells #[.int .i64 a, .int .i64 c, .string p] 23 (0, 0))
theorem Held.later {w W W' : World} {a c : Int} {p : ByteArray} (h : Held w a c p W) (hb : Below W.heap.size W W') : Held w a c p W' := ⟨h.1.trans (hb.mono h.1.size), (hb.block _ (blk_lt h.2)).trans h.2⟩
theorem Held.drewN {w W : World} {a c : Int} {p : ByteArray} (h : Held w a c p W) (n : Nat) : Held w a c p (W.drewN n) := h.later (drewN_below _ _ _)
theorem Held.new (w : World) (a c : Int) (p : ByteArray) : Held w a c p (w.alloc (.cells #[.int .i64 a, .int .i64 c, .string p] 23)) := ⟨(Below.refl _ _).alloc (Nat.le_refl _) _, blk_new _ _⟩
theorem Held.cells {w W : World} {a c : Int} {p : ByteArray} (h : Held w a c p W) : W.cell? ⟨w.heap.size, 0, none⟩ = some (.int .i64 a) ∧ W.cell? ⟨w.heap.size, 1, none⟩ = some (.int .i64 c) ∧ W.cell? ⟨w.heap.size, 2, none⟩ = some (.string p) :=
  ⟨blk_cell h.2 rfl, blk_cell h.2 rfl, blk_cell h.2 rfl⟩
set_option maxRecDepth 100000 in
theorem backw_big (s : ByteArray) (a c : Int) (p : ByteArray) (i : Int) (w : World) (hs : s.size ≤ 9223372036854775807) (hp : p.size ≤ 9223372036854775807) (h : 1000 < s.size ∨ 1000 < p.size) :
    Calls Tryd.prog 9 #[.string s, .agg #[.int .i64 a, .int .i64 c, .string p], .int .i64 i] w fun e w' => e = .returned (.bool true) ∧ Below w.heap.size w w' := by
  have h0 := (Held.new w a c p).1
  rcases (show (1000 : Int) < s.size ∨ (¬ (1000 : Int) < s.size ∧ (1000 : Int) < p.size) by omega) with h1 | ⟨h1, h2⟩
  all_goals
    clear h
    go_enter Tryd.func9, Tryd.ntmps9
    go_wp2_with fail
    go_ret
    exact ⟨rfl, h0⟩
set_option maxRecDepth 100000 in
theorem backw_no (s : ByteArray) (a c : Int) (p : ByteArray) (i : Int) (w : World) (hT : Tabs w) (hs : s.size ≤ 1000) (hp : p.size ≤ 1000) (ha : I64 a) (hc : I64 c) (h : ¬ mayN s a c p = 0) :
    Calls Tryd.prog 9 #[.string s, .agg #[.int .i64 a, .int .i64 c, .string p], .int .i64 i] w fun e w' => e = .returned (.bool true) ∧ Below w.heap.size w w' := by
  have H0 := Held.new w a c p
  have HT := (show Hid (∀ W, Below w.heap.size w W → Tabs W) from fun W h => Utf8Tabs_below hT h)
  have hwork := (show Hid (∀ W, Below w.heap.size w W → Calls Tryd.prog 16 #[] W fun e w' => e = .returned (.bool true) ∧ Below W.heap.size W w') from fun W h => works2_ok W (HT.out W h))
  have CA := (show Hid (∀ W, Below w.heap.size w W → Calls Tryd.prog 14 #[.string s, .agg #[.int .i64 a, .int .i64 c, .string p]] W fun e w' => e = .returned (.tuple #[.string ⟨#[]⟩, .int .i64 (mayN s a c p)]) ∧ Below W.heap.size W w') from
    fun W hW => apply_no s a c p (by omega) (by omega) ha hc W (HT.out W hW) h)
  have CB := (show Hid (∀ W, Below w.heap.size w W → Calls Tryd.prog 34 #[.string s, .agg #[.int .i64 a, .int .i64 c, .string p]] W fun e w' => e = .returned (.agg #[.int .i64 0, .int .i64 0, .string ⟨#[]⟩]) ∧ Below W.heap.size W w') from
    fun W hW => back_no s a c p (by omega) (by omega) ha hc W (HT.out W hW) h)
  have hs' : ¬ (1000 : Int) < s.size := by omega
  have hp' : ¬ (1000 : Int) < p.size := by omega
  clear hT
  generalize mayN s a c p = e1 at *
  go_enter Tryd.func9, Tryd.ntmps9
  go_wp2_with fail
  refine (CA.out _ H0.1).mono ?_
  rintro e w1 ⟨rfl, hb1⟩
  have H1 := H0.later hb1
  obtain ⟨d0, d1, d2⟩ := H1.cells
  clear hb1
  go_wp2_with fail
  refine (CB.out _ H1.1).mono ?_
  rintro e w2 ⟨rfl, hb2⟩
  have H2 := H1.later hb2
  clear hb2 d0 d1 d2
  go_wp2_with fail
  refine (hwork.out _ H2.1).mono ?_
  rintro e w3 ⟨rfl, hb3⟩
  have H3 := H2.later hb3
  clear hb3
  go_wp2_with fail
  go_ret
  exact ⟨rfl, H3.1⟩
/-- what undoing comes to -/
theorem undo_code (s : ByteArray) (a c : Nat) (p : ByteArray) (h : a + c ≤ s.size) (hs : s.size ≤ 1000) (hp : p.size ≤ 1000) :
    (mayN (applied s a c p) a p.size (s.extract a (a + c)) = 0 ∧ left (applied s a c p) a p.size (s.extract a (a + c)) = s) ∨ mayN (applied s a c p) a p.size (s.extract a (a + c)) = 30 := by
  have z := app_size s a c p h
  have ze := ext_len s a (a + c) h
  by_cases hm : mayN (applied s a c p) a p.size (s.extract a (a + c)) = 0
  · left
    refine ⟨hm, ?_⟩
    rw [left_yes hm, app_back s a c p h]
  · right
    unfold mayN at hm ⊢
    rw [if_neg (by omega)] at hm ⊢
    split at hm
    · rename_i h1; rw [if_pos h1]
    · rw [if_neg (by omega)] at hm
      exact absurd rfl hm
set_option maxRecDepth 100000 in
set_option maxHeartbeats 2000000 in
theorem backw_yes (s : ByteArray) (a c : Nat) (p : ByteArray) (i : Int) (w : World) (hT : Tabs w) (hs : s.size ≤ 1000) (hp : p.size ≤ 1000) (hi : I64 i) (h : mayN s a c p = 0) :
    Calls Tryd.prog 9 #[.string s, .agg #[.int .i64 a, .int .i64 c, .string p], .int .i64 i] w fun e w' => e = .returned (.bool true) ∧ Below w.heap.size w w' := by
  have H0 := Held.new w a c p
  obtain ⟨hac, _, _⟩ := may_carets h
  have hz := app_size s a c p hac
  have hze := ext_len s a (a + c) hac
  obtain ⟨x, hx⟩ : ∃ x, x = applied s a c p := ⟨_, rfl⟩
  obtain ⟨k, hk⟩ : ∃ k : Nat, max 0 (min i (s.size : Int)) = (k : Int) := ⟨(max 0 (min i (s.size : Int))).toNat, by omega⟩
  have hks : k ≤ s.size := by omega
  have hund := undo_code s a c p hac hs hp
  have HT := (show Hid (∀ W, Below w.heap.size w W → Tabs W) from fun W h => Utf8Tabs_below hT h)
  have hwork := (show Hid (∀ W, Below w.heap.size w W → Calls Tryd.prog 16 #[] W fun e w' => e = .returned (.bool true) ∧ Below W.heap.size W w') from fun W h => works2_ok W (HT.out W h))
  have CA := (show Hid (∀ W, Below w.heap.size w W → Calls Tryd.prog 14 #[.string s, .agg #[.int .i64 a, .int .i64 c, .string p]] W fun e w' => e = .returned (.tuple #[.string x, .int .i64 0]) ∧ Below W.heap.size W w') from
    fun W hW => by rw [hx]; exact apply_yes s a c p (by omega) (by omega) W (HT.out W hW) h)
  have CB := (show Hid (∀ W, Below w.heap.size w W → Calls Tryd.prog 34 #[.string s, .agg #[.int .i64 a, .int .i64 c, .string p]] W fun e w' => e = .returned (.agg #[.int .i64 a, .int .i64 (p.size : Nat), .string (s.extract a (a + c))]) ∧ Below W.heap.size W w') from
    fun W hW => back_yes s a c p (by omega) (by omega) W (HT.out W hW) h)
  have CU := (show Hid (∀ W, Below w.heap.size w W → Calls Tryd.prog 14 #[.string x, .agg #[.int .i64 a, .int .i64 (p.size : Nat), .string (s.extract a (a + c))]] W fun e w' => e = .returned (.tuple #[.string (left x a p.size (s.extract a (a + c))), .int .i64 (mayN x a p.size (s.extract a (a + c)))]) ∧ Below W.heap.size W w') from
    fun W hW => by rw [hx]; exact apply_any _ _ _ _ (by omega) (by omega) (by omega) (by omega) W (HT.out W hW))
  have CD := (show Hid (∀ W, Below w.heap.size w W → Calls Tryd.prog 31 #[.string s, .string x] W (DiffSays s x W)) from fun W hW => diff_ok s x (by omega) (by rw [hx]; omega) W (HT.out W hW))
  have CS := (show Hid (∀ W, Below w.heap.size w W → Calls Tryd.prog 31 #[.string s, .string s] W fun e w' => ∃ u v : Int, e = .returned (.agg #[.int .i64 u, .int .i64 v, .string ⟨#[]⟩]) ∧ Below W.heap.size W w') from fun W hW => by
    refine (diff_ok s s (by omega) (by omega) W (HT.out W hW)).mono ?_
    rintro e w' ⟨u, v, hd, rfl, hb⟩
    rw [diff_self hd]
    exact ⟨_, _, rfl, hb⟩)
  have CV := (show Hid (∀ u v : Nat, DiffIs s x u v → ∀ W, Below w.heap.size w W → Calls Tryd.prog 14 #[.string s, .agg #[.int .i64 u, .int .i64 (s.size - v - u : Nat), .string (x.extract u (x.size - v))]] W fun e w' => e = .returned (.tuple #[.string x, .int .i64 0]) ∧ Below W.heap.size W w') from
    fun u v hd W hW => by
      have := apply_yes s u (s.size - v - u) (x.extract u (x.size - v)) (by omega) (by rw [ByteArray.size_extract, hx]; omega) W (HT.out W hW) (diff_may hd (by rw [hx]; omega))
      rw [diff_makes hd] at this
      exact this)
  have CM := (show Hid (∀ W, Below w.heap.size w W → Calls Tryd.prog 35 #[.agg #[.int .i64 a, .int .i64 c, .string p], .int .i64 (k : Int)] W fun e w' => e = .returned (.int .i64 (movedN a c p.size k : Nat)) ∧ Below W.heap.size W w') from fun W _ => moved_ok a c k p (by omega) (by omega) (by omega) (by omega) W)
  have HTL := (show Hid (a + c < k → x.extract (k - c + p.size) x.size = s.extract k s.size ∧ k - c + p.size ≤ x.size) from fun hlt => by
    refine ⟨?_, by rw [hx]; omega⟩
    rw [hx]
    apply bytes_ext
    rw [Lib.extract_to_end, Lib.extract_to_end, app_list s a c p hac]
    obtain ⟨X, C, Z, e, hX, hC⟩ := list_parts s.data.toList a c (by rw [← Lib.size_eq]; exact hac)
    rw [e, appL_parts X C Z _ a c hX.symm hC.symm]
    have hpl : p.data.toList.length = p.size := (Lib.size_eq p).symm
    rw [show X ++ p.data.toList ++ Z = (X ++ p.data.toList) ++ Z from rfl, List.drop_append, List.drop_of_length_le (show (X ++ p.data.toList).length ≤ k - c + p.size by simp; omega), List.nil_append,
      show X ++ (C ++ Z) = (X ++ C) ++ Z from by simp only [List.append_assoc], List.drop_append, List.drop_of_length_le (show (X ++ C).length ≤ k by simp; omega), List.nil_append]
    congr 1
    simp; omega)
  rw [← hx] at hund
  have HX := Lib.hid (show x.size = s.size - c + p.size from by rw [hx]; exact hz)
  have hxs : x.size ≤ 2000 := by rw [hx]; omega
  have hs' : ¬ (1000 : Int) < s.size := by omega
  have hp' : ¬ (1000 : Int) < p.size := by omega
  clear hT h hz hx hi
  generalize mayN x a p.size (s.extract a (a + c)) = f at *
  generalize left x a p.size (s.extract a (a + c)) = y at *
  generalize s.extract a (a + c) = cut at *
  have HU := Lib.hid hund
  clear hund
  go_enter Tryd.func9, Tryd.ntmps9
  go_wp2_with fail
  refine (CA.out _ H0.1).mono ?_
  rintro e w1 ⟨rfl, hb1⟩
  have H1 := H0.later hb1
  obtain ⟨d0, d1, d2⟩ := H1.cells
  clear hb1 H0
  go_wp2_with fail
  refine (CB.out _ H1.1).mono ?_
  rintro e w2 ⟨rfl, hb2⟩
  have H2 := H1.later hb2
  clear hb2 d0 d1 d2 H1
  go_wp2_with fail
  refine (CU.out _ H2.1).mono ?_
  rintro e w3 ⟨rfl, hb3⟩
  have H3 := H2.later hb3
  clear hb3 H2
  go_wp2_with fail
  refine (CD.out _ H3.1).mono ?_
  rintro e w4 ⟨u, v, hd, rfl, hb4⟩
  have H4 := H3.later hb4
  have cv := CV.out u v hd w4 H4.1
  clear hb4 hd H3
  go_wp2_with fail
  refine cv.mono ?_
  rintro e w5 ⟨rfl, hb5⟩
  have H5 := H4.later hb5
  clear hb5 cv H4
  go_upto_region 8 with fail
  go_cut [85] (fun s85 wc => s85 = .bool false ∧ Held w a c p wc)
  case first =>
    rcases HU.out with ⟨rfl, rfl⟩ | rfl
    · go_wp2_with fail
      refine (CS.out _ H5.1).mono ?_
      rintro e w6 ⟨u2, v2, rfl, hb6⟩
      have H6 := H5.later hb6
      clear hb6
      have hfield : ∀ W : World, (Instr.field 23 (.agg #[.int .i64 u2, .int .i64 v2, .string ⟨#[]⟩]) 2).run Tryd.prog W = .ok (.string ⟨#[]⟩) W := fun W => by kernel_rfl
      go_wp2_with fail
      go_meet
      case rel => exact ⟨rfl, H6⟩
    · go_wp2_with fail
      refine (CS.out _ H5.1).mono ?_
      rintro e w6 ⟨u2, v2, rfl, hb6⟩
      have H6 := H5.later hb6
      clear hb6
      have hfield : ∀ W : World, (Instr.field 23 (.agg #[.int .i64 u2, .int .i64 v2, .string ⟨#[]⟩]) 2).run Tryd.prog W = .ok (.string ⟨#[]⟩) W := fun W => by kernel_rfl
      go_wp2_with fail
      go_meet
      case rel => exact ⟨rfl, H6⟩
  case rest =>
    obtain ⟨rfl, Hc⟩ := hcut
    obtain ⟨d0, d1, d2⟩ := Hc.cells
    have hmv : movedN a c p.size k = if k ≤ a then k else if k ≤ a + c then a + p.size else k - c + p.size := rfl
    clear CA CB CU CD CS CV H5 HU
    by_cases h1 : k ≤ a
    · rw [if_pos h1] at hmv
      rw [hmv] at CM
      have h1' : (k : Int) ≤ (a : Int) := by omega
      have h2' : decide ((a : Int) < (k : Int)) = false := by simp; omega
      have h3' : decide ((a : Int) + (c : Int) < (k : Int)) = false := by simp; omega
      have h4' : decide (a < k) = false := by simp; omega
      clear hmv HTL
      go_wp2_with fail
      refine (CM.out _ Hc.1).mono ?_
      rintro e w6 ⟨rfl, hb6⟩
      have H6 := Hc.later hb6
      clear hb6 d0 d1 d2
      obtain ⟨d0, d1, d2⟩ := H6.cells
      go_wp2_with fail
      go_quiet (fail)
      go_wp2_with fail
      refine (hwork.out _ (H6.drewN _).1).mono ?_
      rintro e w7 ⟨rfl, hb7⟩
      have H7 := (H6.drewN _).later hb7
      clear hb7 d0 d1 d2
      go_wp2_with fail
      go_ret
      exact ⟨rfl, H7.1⟩
    · rw [if_neg h1] at hmv
      by_cases h2 : k ≤ a + c
      · rw [if_pos h2] at hmv
        rw [hmv] at CM
        have h1' : (a : Int) < (k : Int) := by omega
        have h2' : (k : Int) ≤ (a : Int) + (c : Int) := by omega
        have h3' : decide ((k : Int) ≤ (a : Int)) = false := by simp; omega
        have h4' : decide ((a : Int) + (c : Int) < (k : Int)) = false := by simp; omega
        have h5' : decide (k ≤ a) = false := by simp; omega
        have h6' : ((a + p.size : Nat) : Int) = (a : Int) + (p.size : Int) := by omega
        rw [h6'] at CM
        clear hmv HTL h6'
        go_wp2_with fail
        refine (CM.out _ Hc.1).mono ?_
        rintro e w6 ⟨rfl, hb6⟩
        have H6 := Hc.later hb6
        clear hb6 d0 d1 d2
        obtain ⟨d0, d1, d2⟩ := H6.cells
        go_wp2_with fail
        go_quiet (fail)
        go_wp2_with fail
        refine (hwork.out _ (H6.drewN _).1).mono ?_
        rintro e w7 ⟨rfl, hb7⟩
        have H7 := (H6.drewN _).later hb7
        clear hb7 d0 d1 d2
        go_wp2_with fail
        go_ret
        exact ⟨rfl, H7.1⟩
      · rw [if_neg h2] at hmv
        rw [hmv] at CM
        obtain ⟨htl, hml⟩ := HTL.out (by omega)
        clear hmv HTL
        generalize k - c + p.size = m at *
        obtain ⟨t, ht⟩ : ∃ t, t = s.extract k s.size := ⟨_, rfl⟩
        have hsx : ∀ W, (Instr.slice 9 (.string x) (some (.int .i64 (m : Int))) none none).run Tryd.prog W = .ok (.string t) W := fun W => by
          rw [run_slice_string_from_if (P := Tryd.prog) W 9 x .i64 (m : Int) Tryd.underlying9, if_pos (by omega), Int.toNat_natCast, htl, ht]
        have hss : ∀ W, (Instr.slice 9 (.string s) (some (.int .i64 (k : Int))) none none).run Tryd.prog W = .ok (.string t) W := fun W => by
          rw [run_slice_string_from_if (P := Tryd.prog) W 9 s .i64 (k : Int) Tryd.underlying9, if_pos (by omega), Int.toNat_natCast, ht]
        have h1' : (a : Int) < (k : Int) := by omega
        have h2' : (a : Int) + (c : Int) < (k : Int) := by omega
        have h3' : decide ((k : Int) ≤ (a : Int)) = false := by simp; omega
        have h4' : decide ((k : Int) ≤ (a : Int) + (c : Int)) = false := by simp; omega
        have h5' : decide (k ≤ a) = false := by simp; omega
        have h6' : decide ((x.size : Int) < (m : Int)) = false := by simp; omega
        have h7' : decide (x.size < m) = false := by simp; omega
        clear htl ht hml
        go_wp2_with fail
        refine (CM.out _ Hc.1).mono ?_
        rintro e w6 ⟨rfl, hb6⟩
        have H6 := Hc.later hb6
        clear hb6 d0 d1 d2
        obtain ⟨d0, d1, d2⟩ := H6.cells
        go_wp2_with fail
        go_quiet (fail)
        go_wp2_with fail
        refine (hwork.out _ (H6.drewN _).1).mono ?_
        rintro e w7 ⟨rfl, hb7⟩
        have H7 := (H6.drewN _).later hb7
        clear hb7 d0 d1 d2
        go_wp2_with fail
        go_ret
        exact ⟨rfl, H7.1⟩
theorem editBack_walk (s : ByteArray) (a c : Int) (p : ByteArray) (i : Int) (w : World) (hT : Tabs w) (hs : s.size ≤ 9223372036854775807) (ha : -9223372036854775808 ≤ a ∧ a ≤ 9223372036854775807) (hc : -9223372036854775808 ≤ c ∧ c ≤ 9223372036854775807) (hp : p.size ≤ 9223372036854775807) (hi : -9223372036854775808 ≤ i ∧ i ≤ 9223372036854775807) :
    Calls Tryd.prog 9 #[.string s, .agg #[.int .i64 a, .int .i64 c, .string p], .int .i64 i] w fun e w' => e = .returned (.bool true) ∧ Below w.heap.size w w' := by
  by_cases h1 : 1000 < s.size ∨ 1000 < p.size
  · exact backw_big s a c p i w hs hp h1
  by_cases h2 : mayN s a c p = 0
  · have z1 := mayN_zero h2
    obtain ⟨a, rfl⟩ : ∃ n : Nat, a = n := ⟨a.toNat, by omega⟩
    obtain ⟨c, rfl⟩ : ∃ n : Nat, c = n := ⟨c.toNat, by omega⟩
    exact backw_yes s a c p i w hT (by omega) (by omega) hi h2
  · exact backw_no s a c p i w hT (by omega) (by omega) ha hc h2
end Go.Proofs.YtpmgccjhflcoiaaDoor
