/-
  Contracts of Encode of package utf and of works, the play that the statements of layer 1 ask last. No condition beyond those that each theorem states.
-/
import Derived.Test.YtpmgccjhflcoiaaDoorShow
import Derived.Test.YtpmgccjhflcoiaaDoorRight
namespace Go.Proofs.YtpmgccjhflcoiaaDoor
open Go.RowKit
set_option linter.unusedSimpArgs false
set_option linter.unusedVariables false

/-- is a number a sign's -/
def isSign (r : Int) : Prop := 0 ≤ r ∧ r ≤ 1114111 ∧ ¬ (55296 ≤ r ∧ r ≤ 57343)
theorem valid_yes {r : Int} (h : isSign r) : Lib.validRune r = true := by
  obtain ⟨h1, h2, h3⟩ := h
  unfold Lib.validRune
  rw [decide_eq_true_iff]
  omega
theorem valid_no {r : Int} (h : ¬ isSign r) : Lib.validRune r = false := by
  unfold Lib.validRune
  rw [decide_eq_false_iff_not]
  intro h2
  exact h ⟨by omega, by omega, by omega⟩
theorem enc_eq (r : Nat) (h : isSign r) : Utf8.encode r = bytesOf (encN r) := by
  obtain ⟨h1, h2, h3⟩ := h
  have hv : Utf8.valid (r : Int) = true := by
    unfold Utf8.valid
    simp
    omega
  unfold Utf8.encode encN
  simp only [hv, if_true, Int.toNat_natCast]
  rw [if_neg (show ¬ (1114111 < r ∨ (55296 ≤ r ∧ r ≤ 57343)) by omega)]
  split
  · rfl
  · split
    · rfl
    · split
      · rfl
      · rfl
theorem uenc_yes (r : Nat) (h : isSign r) (w : World) : Calls Tryd.prog 17 #[.int .i32 r] w fun e w' => e = .returned (.tuple #[.string (bytesOf (encN r)), .bool true]) ∧ w = w' := by
  have c := Tryd.utf8_ValidRune r w
  rw [valid_yes h] at c
  have he := enc_eq r h
  go_enter Tryd.func17, Tryd.ntmps17
  go_wp2_with fail
  refine c.mono ?_
  rintro e w' ⟨rfl, rfl⟩
  go_wp2_with fail
  go_ret2
  exact ⟨rfl, rfl⟩
theorem uenc_no (r : Int) (h : ¬ isSign r) (w : World) : Calls Tryd.prog 17 #[.int .i32 r] w fun e w' => e = .returned (.tuple #[.string ⟨#[]⟩, .bool false]) ∧ w = w' := by
  have c := Tryd.utf8_ValidRune r w
  rw [valid_no h] at c
  clear h
  go_enter Tryd.func17, Tryd.ntmps17
  go_wp2_with fail
  refine c.mono ?_
  rintro e w' ⟨rfl, rfl⟩
  go_wp2_with fail
  go_ret2
  exact ⟨rfl, rfl⟩
theorem v_enc : bytesOf (encN 8364) = ⟨#[226, 130, 172]⟩ := by decide +kernel
theorem v_item : itemAt ⟨#[97, 226, 130, 172]⟩ 1 = itemV 1 3 8364 true := by
  have h1 : okAt ⟨#[97, 226, 130, 172]⟩ 1 = true := by decide +kernel
  have h2 : (dec ⟨#[97, 226, 130, 172]⟩ 1).1 = 8364 := by decide +kernel
  have h3 : (dec ⟨#[97, 226, 130, 172]⟩ 1).2 = 3 := by decide +kernel
  unfold itemAt
  rw [if_pos h1, h2, h3]
  rfl
theorem v_pos : pos ⟨#[255, 92]⟩ 2 = 2 := by decide +kernel
theorem v_piece0 : piece ⟨#[255, 92]⟩ 0 = ⟨#[92, 117, 123, 102, 102, 125]⟩ := by
  have h1 : ¬ okAt ⟨#[255, 92]⟩ 0 = true := by decide +kernel
  have h2 : byteAt ⟨#[255, 92]⟩ 0 = 255 := by decide +kernel
  unfold piece
  rw [if_neg h1, h2]
  unfold escS
  rw [hexL_high 255 (by omega), hexL_low (255 / 16) (by omega)]
  decide +kernel
theorem v_piece1 : piece ⟨#[255, 92]⟩ 1 = ⟨#[92, 92]⟩ := by
  have h1 : okAt ⟨#[255, 92]⟩ 1 = true := by decide +kernel
  have h2 : (dec ⟨#[255, 92]⟩ 1).1 = 92 := by decide +kernel
  unfold piece
  rw [if_pos h1, if_pos h2]
theorem v_shown : (⟨(shownL ⟨#[255, 92]⟩ 2).toArray⟩ : ByteArray) = ⟨#[92, 117, 123, 102, 102, 125, 92, 92]⟩ := by
  have h1 : pos ⟨#[255, 92]⟩ 1 = 1 := by decide +kernel
  have e : shownL ⟨#[255, 92]⟩ 2 = ([] ++ (piece ⟨#[255, 92]⟩ (pos ⟨#[255, 92]⟩ 0)).data.toList) ++ (piece ⟨#[255, 92]⟩ (pos ⟨#[255, 92]⟩ 1)).data.toList := rfl
  rw [e, h1, show pos ⟨#[255, 92]⟩ 0 = 0 from rfl, v_piece0, v_piece1]
  rfl
theorem v_caret3 : caretI ⟨#[226, 130, 172]⟩ 3 = true := by decide +kernel
theorem v_caret1 : caretI ⟨#[226, 130, 172]⟩ 1 = false := by decide +kernel
set_option maxRecDepth 100000 in
set_option maxHeartbeats 1000000 in
theorem works1_ok (w : World) (hT : Tabs w) (hD : Deb w) :
    Calls Tryd.prog 22 #[] w fun e w' => e = .returned (.bool true) ∧ Below w.heap.size w w' := by
  have HT := (show Hid (∀ W, Below w.heap.size w W → Tabs W ∧ Deb W) from fun W h => ⟨Utf8Tabs_below hT h, hD.below h⟩)
  have c1 := uenc_yes 8364 ⟨by omega, by omega, by omega⟩ w
  rw [v_enc] at c1
  have c2 := at_in ⟨#[97, 226, 130, 172]⟩ 1 (by decide) (by decide) w hT
  rw [v_item] at c2
  unfold itemV at c2
  have C3 := (show Hid (∀ W, Below w.heap.size w W → Calls Tryd.prog 20 #[.string ⟨#[255, 92]⟩] W fun e w' => e = .returned (.string ⟨#[92, 117, 123, 102, 102, 125, 92, 92]⟩) ∧ Below W.heap.size W w') from fun W h => by
    refine (show_ok ⟨#[255, 92]⟩ (by decide) W (HT.out W h).1 (HT.out W h).2).mono ?_
    rintro e w' ⟨n, rfl, hn, hb⟩
    have : n = 2 := by
      rw [← posF_zero] at hn
      have h2 := v_pos
      rw [← posF_zero] at h2
      exact posF_inj _ 0 (hn.trans h2.symm)
    subst this
    rw [v_shown]
    exact ⟨rfl, hb⟩)
  have C4 := (show Hid (∀ W, Below w.heap.size w W → Calls Tryd.prog 33 #[.string ⟨#[226, 130, 172]⟩, .int .i64 3] W fun e w' => e = .returned (.bool true) ∧ Below W.heap.size W w') from fun W h => by
    have := ucaret_ok ⟨#[226, 130, 172]⟩ 3 (by decide) W (HT.out W h).1
    rw [v_caret3] at this
    exact this)
  have C5 := (show Hid (∀ W, Below w.heap.size w W → Calls Tryd.prog 33 #[.string ⟨#[226, 130, 172]⟩, .int .i64 1] W fun e w' => e = .returned (.bool false) ∧ Below W.heap.size W w') from fun W h => by
    have := ucaret_ok ⟨#[226, 130, 172]⟩ 1 (by decide) W (HT.out W h).1
    rw [v_caret1] at this
    exact this)
  clear hT hD
  go_enter Tryd.func22, Tryd.ntmps22
  go_wp2_with fail
  refine c1.mono ?_
  rintro e w' ⟨rfl, rfl⟩
  clear c1
  go_wp2_with fail
  refine c2.mono ?_
  rintro e w2 ⟨rfl, hb2⟩
  have HB2 := Lib.hid (hb2.alloc hb2.size (.cells #[.int .i64 1, .int .i64 3, .int .i32 8364, .bool true] 35))
  have hblk := blk_new w2 (.cells #[.int .i64 1, .int .i64 3, .int .i32 8364, .bool true] 35)
  have d0 : (w2.alloc (.cells #[.int .i64 1, .int .i64 3, .int .i32 8364, .bool true] 35)).cell? ⟨w2.heap.size, 0, none⟩ = some (.int .i64 1) := blk_cell hblk rfl
  clear c2 hb2 hblk
  go_wp2_with fail
  refine (C3.out _ HB2.out).mono ?_
  rintro e w3 ⟨rfl, hb3⟩
  have HB3 := Lib.hid (HB2.out.trans (hb3.mono HB2.out.size))
  clear hb3
  go_wp2_with fail
  refine (C4.out _ HB3.out).mono ?_
  rintro e w4 ⟨rfl, hb4⟩
  have HB4 := Lib.hid (HB3.out.trans (hb4.mono HB3.out.size))
  clear hb4
  go_wp2_with fail
  refine (C5.out _ HB4.out).mono ?_
  rintro e w5 ⟨rfl, hb5⟩
  have HB5 := Lib.hid (HB4.out.trans (hb5.mono HB4.out.size))
  clear hb5
  go_wp2_with fail
  go_ret
  exact ⟨rfl, HB5.out⟩
end Go.Proofs.YtpmgccjhflcoiaaDoor
