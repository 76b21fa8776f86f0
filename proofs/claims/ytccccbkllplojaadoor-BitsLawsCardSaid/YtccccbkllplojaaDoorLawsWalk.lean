/-
  The walk of BitsLaws: it tells true. No condition beyond those that the theorem states.
-/
import Derived.Test.YtccccbkllplojaaDoorSets2
import Derived.Laws.BitsAllLaws
namespace Go.Proofs.YtccccbkllplojaaDoor
open Go.RowKit
set_option linter.unusedSimpArgs false
set_option linter.unusedVariables false

theorem bitsLaws_walk (w : World) (u v : Value) (a b : List Nat) (n : Int) (hu0 : Words w u a) (hv0 : Words w v b) (fa : Fit a) (fb : Fit b) (hT : Tab 0 w) :
    Calls Tryd.prog 6 #[u, v, .int .i64 n] w fun e w' => e = .returned (.bool true) ∧ Below w.heap.size w w' := by
  obtain ⟨au, n1, cap1, rfl, wu⟩ := Words.wn hu0
  obtain ⟨av, n2, cap2, rfl, wv⟩ := Words.wn hv0
  by_cases hbig : 20 < n1
  · clear wu wv hu0 hv0
    go_enter Tryd.func6, Tryd.ntmps6
    go_wp2_with fail
    go_ret
    exact ⟨rfl, Below.refl _ _⟩
  by_cases hbig2 : 20 < n2
  · clear wu wv hu0 hv0
    go_enter Tryd.func6, Tryd.ntmps6
    go_wp2_with fail
    go_ret
    exact ⟨rfl, Below.refl _ _⟩
  have hu : St w (.slice au n1 cap1) a := ⟨hu0, by have := wu.len.out; omega, fa⟩
  have hv : St w (.slice av n2 cap2) b := ⟨hv0, by have := wv.len.out; omega, fb⟩
  clear wu wv hu0 hv0 fa fb
  go_enter Tryd.func6, Tryd.ntmps6
  have c1 := less_s hu hv
  go_wp2_with fail
  refine c1.mono ?_
  rintro e w1 ⟨v1, t1, rfl, h1, T1, G1, B1⟩
  clear c1
  have BB1 : Below w.heap.size w w1 := B1
  have c2 := and_s (hu.below BB1) (hv.below BB1)
  go_wp2_with fail
  refine c2.mono ?_
  rintro e w2 ⟨v2, t2, rfl, h2, T2, G2, B2⟩
  clear c2
  have BB2 : Below w.heap.size w w2 := BB1.trans (B2.mono BB1.size)
  have c3 := or_s (h1.below B2) h2
  go_wp2_with fail
  refine c3.mono ?_
  rintro e w3 ⟨v3, t3, rfl, h3, T3, G3, B3⟩
  clear c3
  have BB3 : Below w.heap.size w w3 := BB2.trans (B3.mono BB2.size)
  have q1 : ∀ k, has t3 k = has a k := fun k => by rw [G3.out, G1.out, G2.out]; cases has a k <;> cases has b k <;> rfl
  have d1 := same_true h3 (hu.below BB3) q1
  go_wp2_with fail
  refine d1.mono ?_
  rintro e w' ⟨rfl, rfl⟩
  clear d1
  clear q1 G1 G2 G3 h1 h2 h3 T1 T2 T3
  have c4 := or_s (hu.below BB3) (hv.below BB3)
  go_wp2_with fail
  refine c4.mono ?_
  rintro e w4 ⟨v4, t4, rfl, h4, T4, G4, B4⟩
  clear c4
  have BB4 : Below w.heap.size w w4 := BB3.trans (B4.mono BB3.size)
  have c5 := or_s (hv.below BB4) (hu.below BB4)
  go_wp2_with fail
  refine c5.mono ?_
  rintro e w5 ⟨v5, t5, rfl, h5, T5, G5, B5⟩
  clear c5
  have BB5 : Below w.heap.size w w5 := BB4.trans (B5.mono BB4.size)
  have q2 : ∀ k, has t4 k = has t5 k := fun k => by rw [G4.out, G5.out, Bool.or_comm]
  have d2 := same_true (h4.below B5) h5 q2
  go_wp2_with fail
  refine d2.mono ?_
  rintro e w' ⟨rfl, rfl⟩
  clear d2
  clear q2 G4 G5 h4 h5 T4 T5
  have c6 := or_s (hu.below BB5) (hv.below BB5)
  go_wp2_with fail
  refine c6.mono ?_
  rintro e w6 ⟨v6, t6, rfl, h6, T6, G6, B6⟩
  clear c6
  have BB6 : Below w.heap.size w w6 := BB5.trans (B6.mono BB5.size)
  have d3 := count_s h6
  go_wp2_with fail
  refine d3.mono ?_
  rintro e w' ⟨rfl, rfl⟩
  clear d3
  have c7 := and_s (hu.below BB6) (hv.below BB6)
  go_wp2_with fail
  refine c7.mono ?_
  rintro e w7 ⟨v7, t7, rfl, h7, T7, G7, B7⟩
  clear c7
  have BB7 : Below w.heap.size w w7 := BB6.trans (B7.mono BB6.size)
  have hcnt := count_two G6.out G7.out
  have l1 := lst_le h6.len
  have l2 := lst_le h7.len
  have l3 := lst_le hu.len
  have l4 := lst_le hv.len
  have d4 := count_s h7
  have d5 := count_s (hu.below BB7)
  have d6 := count_s (hv.below BB7)
  generalize (lst t6).length = k6 at *
  generalize (lst t7).length = k7 at *
  generalize (lst a).length = ka at *
  generalize (lst b).length = kb at *
  have hcnt' : (k6 : Int) + (k7 : Int) = (ka : Int) + (kb : Int) := by omega
  have hne : ((k6 : Int) + (k7 : Int) != (ka : Int) + (kb : Int)) = false := by rw [hcnt']; simp
  clear hcnt hcnt' G6 G7 h6 h7 T6 T7
  go_wp2_with fail
  refine d4.mono ?_
  rintro e w' ⟨rfl, rfl⟩
  clear d4
  go_wp2_with fail
  refine d5.mono ?_
  rintro e w' ⟨rfl, rfl⟩
  clear d5
  go_wp2_with fail
  refine d6.mono ?_
  rintro e w' ⟨rfl, rfl⟩
  clear d6
  have c8 := with_s n (hu.below BB7)
  go_wp2_with fail
  refine c8.mono ?_
  rintro e w8 ⟨v8, t8, rfl, h8, T8, G8, B8⟩
  clear c8
  have BB8 : Below w.heap.size w w8 := BB7.trans (B8.mono BB7.size)
  have c9 := without_s n h8
  go_wp2_with fail
  refine c9.mono ?_
  rintro e w9 ⟨v9, t9, rfl, h9, T9, G9, B9⟩
  clear c9
  have BB9 : Below w.heap.size w w9 := BB8.trans (B9.mono BB8.size)
  have c10 := without_s n (hu.below BB9)
  go_wp2_with fail
  refine c10.mono ?_
  rintro e w10 ⟨v10, t10, rfl, h10, T10, G10, B10⟩
  clear c10
  have BB10 : Below w.heap.size w w10 := BB9.trans (B10.mono BB9.size)
  have q3 : ∀ k, has t9 k = has t10 k := fun k => by rw [Bool.eq_iff_iff, G9.out, G8.out, G10.out]; constructor; (· rintro ⟨h | h, h2⟩; (· exact ⟨h, h2⟩); (· exact absurd h.1 h2)); (· rintro ⟨h, h2⟩; exact ⟨Or.inl h, h2⟩)
  have d7 := same_true (h9.below B10) h10 q3
  go_wp2_with fail
  refine d7.mono ?_
  rintro e w' ⟨rfl, rfl⟩
  clear d7
  clear q3 G8 G9 G10 h8 h9 h10 T8 T9 T10 hne l1 l2 l3 l4
  have hu10 := hu.below BB10
  have c11 := or_ok w10 _ _ a [] hu10.words (nil_s w10).words hu10.len (by simp) hu10.fit (nil_s w10).fit
  go_wp2_with fail
  refine c11.mono ?_
  rintro e w11 ⟨v11, t11, rfl, ho, hl11, _, hf11, hg11, B11⟩
  clear c11 hu10
  have BB11 : Below w.heap.size w w11 := BB10.trans (B11.mono BB10.size)
  have hh : ∀ k, has t11 k = has a k := fun k => by rw [has_or hg11, has_ge [] k (by simp), Bool.or_false]
  have Hh := (show Hid _ from hh)
  clear hh hg11
  have ho2 := ho
  obtain ⟨sa, sc, hs⟩ := own_shape ho
  subst hs
  by_cases hlen : t11.length = 0
  · have hz := hlen
    rw [hz]
    go_upto_region 10 with fail
    have c31 := less_s (hu.below BB11) (hu.below BB11)
    go_wp2_with fail
    refine c31.mono ?_
    rintro e w31 ⟨v31, t31, rfl, h31, T31, G31, B31⟩
    clear c31
    have BB31 : Below w.heap.size w w31 := BB11.trans (B31.mono BB11.size)
    have z31 : (lst t31).length = 0 := count_zero fun k => by rw [G31.out]; cases has a k <;> rfl
    have d := count_s h31
    rw [z31] at d
    go_wp2_with fail
    refine d.mono ?_
    rintro e w' ⟨rfl, rfl⟩
    clear d z31
    have c32 := and_s (hu.below BB31) (hu.below BB31)
    go_wp2_with fail
    refine c32.mono ?_
    rintro e w32 ⟨v32, t32, rfl, h32, T32, G32, B32⟩
    clear c32
    have BB32 : Below w.heap.size w w32 := BB31.trans (B32.mono BB31.size)
    have q : ∀ k, has t32 k = has a k := fun k => by rw [G32.out]; cases has a k <;> rfl
    have d := same_true h32 (hu.below BB32) q
    go_wp2_with fail
    refine d.mono ?_
    rintro e w' ⟨rfl, rfl⟩
    clear d
    have dw := works_ok w32 (hT.below BB32)
    go_wp2_with fail
    refine dw.mono ?_
    rintro e we ⟨rfl, hbe⟩
    clear dw
    go_wp2_with fail
    go_ret
    exact ⟨by rfl, BB32.trans (hbe.mono BB32.size)⟩
  · obtain ⟨g, sc', hs, hgB⟩ := own_form ho2 (by omega)
    cases hs
    have hp : 0 < t11.length := by omega
    clear hlen ho2
    have hS : St w11 (.slice (some ⟨g, 0, none⟩) t11.length sc) t11 := ⟨ho.words, hl11, hf11⟩
    unfold Own at ho
    have hcell := row_cell ho rfl 0 hp
    have hfz := World.ownsRow.frozenAt ho 0
    have hx := hf11.getD 0
    have hxor : bits BinOp.xor IntKind.u64 ((t11.getD 0 0 : Nat) : Int) 1 = ((t11.getD 0 0 ^^^ 1 : Nat) : Int) := u64_xor_nat (t11.getD 0 0) 1 hx (by omega)
    have hst := row_set ho 0 (t11.getD 0 0 ^^^ 1)
    have BW : Below w.heap.size w (w11.setCell ⟨g, 0, none⟩ (.int .u64 ((t11.getD 0 0 ^^^ 1 : Nat) : Int))) := BB11.setCell (Nat.le_trans BB10.size hgB) _
    have hz : (t11.set 0 (t11.getD 0 0 ^^^ 1)).length = t11.length := List.length_set
    have hne : ¬ ∀ k, has a k = has (t11.set 0 (t11.getD 0 0 ^^^ 1)) k := by
      intro h
      have h0 := h 0
      rw [← Hh.out] at h0
      unfold has at h0
      rw [getD_set t11 _ _ _ hp] at h0
      simp only [Nat.zero_div, Nat.zero_mod, if_true, Nat.testBit_xor] at h0
      have : Nat.testBit 1 0 = true := by decide
      rw [this] at h0
      cases h1 : (t11.getD 0 0).testBit 0 <;> rw [h1] at h0 <;> cases h0
    have hSt : St (w11.setCell ⟨g, 0, none⟩ (.int .u64 ((t11.getD 0 0 ^^^ 1 : Nat) : Int))) (.slice (some ⟨g, 0, none⟩) t11.length sc) (t11.set 0 (t11.getD 0 0 ^^^ 1)) := by
      refine ⟨?_, by rw [hz]; exact hl11, set_fit hf11 _ _ (Nat.xor_lt_two_pow (n := 64) hx (by omega))⟩
      have : Own w10.heap.size (w11.setCell ⟨g, 0, none⟩ (.int .u64 ((t11.getD 0 0 ^^^ 1 : Nat) : Int))) (.slice (some ⟨g, 0, none⟩) t11.length sc) (t11.set 0 (t11.getD 0 0 ^^^ 1)) := by
        unfold Own; rw [hz]; exact hst
      exact this.words
    clear hst ho hS
    generalize t11.set 0 (t11.getD 0 0 ^^^ 1) = t' at *
    generalize t11.getD 0 0 = x at *
    generalize x ^^^ 1 = y at *
    generalize t11.length = k at *
    have hpk : (0 : Int) < (k : Int) := by omega
    clear hz
    have ds := same_false (hu.below BW) hSt hne
    clear hne
    have Hm := (show Hid _ from And.intro BW hSt)
    clear BW hSt
    go_wp2_with fail
    refine ds.mono ?_
    rintro e W' ⟨rfl, rfl⟩
    clear ds
    have BW := Hm.out.1
    generalize w11.setCell ⟨g, 0, none⟩ (.int .u64 (y : Int)) = W at BW ⊢
    clear Hm
    have c21 := less_s (hu.below BW) (hu.below BW)
    go_wp2_with fail
    refine c21.mono ?_
    rintro e w21 ⟨v21, t21, rfl, h21, T21, G21, B21⟩
    clear c21
    have BB21 : Below w.heap.size w w21 := BW.trans (B21.mono BW.size)
    have z21 : (lst t21).length = 0 := count_zero fun k => by rw [G21.out]; cases has a k <;> rfl
    have d := count_s h21
    rw [z21] at d
    go_wp2_with fail
    refine d.mono ?_
    rintro e w' ⟨rfl, rfl⟩
    clear d z21
    have c22 := and_s (hu.below BB21) (hu.below BB21)
    go_wp2_with fail
    refine c22.mono ?_
    rintro e w22 ⟨v22, t22, rfl, h22, T22, G22, B22⟩
    clear c22
    have BB22 : Below w.heap.size w w22 := BB21.trans (B22.mono BB21.size)
    have q : ∀ k, has t22 k = has a k := fun k => by rw [G22.out]; cases has a k <;> rfl
    have d := same_true h22 (hu.below BB22) q
    go_wp2_with fail
    refine d.mono ?_
    rintro e w' ⟨rfl, rfl⟩
    clear d
    have dw := works_ok w22 (hT.below BB22)
    go_wp2_with fail
    refine dw.mono ?_
    rintro e we ⟨rfl, hbe⟩
    clear dw
    go_wp2_with fail
    go_ret
    exact ⟨by rfl, BB22.trans (hbe.mono BB22.size)⟩
end Go.Proofs.YtccccbkllplojaaDoor
