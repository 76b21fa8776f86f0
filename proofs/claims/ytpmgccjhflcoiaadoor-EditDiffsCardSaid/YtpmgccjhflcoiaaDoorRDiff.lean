/-
  Contract of the answer's Diff. No condition beyond those that each theorem states.
-/
import Derived.Test.YtpmgccjhflcoiaaDoorDiff
namespace Go.Proofs.YtpmgccjhflcoiaaDoor
open Go.RowKit
set_option linter.unusedSimpArgs false
set_option linter.unusedVariables false

theorem byte_some (s : ByteArray) (i : Nat) (h : i < s.size) : s.data.toList[i]? = some (s[i]'h) ∧ byteAt s i = (s[i]'h).toNat := by
  refine ⟨?_, ?_⟩
  · rw [List.getElem?_eq_getElem (by rw [← Lib.size_eq]; exact h)]; rfl
  · unfold byteAt; rw [Utf8W.get!_of_lt s i h]
theorem byte_iff (a b : ByteArray) (i j : Nat) (hi : i < a.size) (hj : j < b.size) : a.data.toList[i]? = b.data.toList[j]? ↔ byteAt a i = byteAt b j := by
  obtain ⟨e1, e2⟩ := byte_some a i hi
  obtain ⟨e3, e4⟩ := byte_some b j hj
  rw [e1, e2, e3, e4]
  constructor
  · intro h; rw [Option.some.inj h]
  · intro h; rw [UInt8.toNat_inj.1 h]
/-- what the answer has tried from the head -/
def Head (a b : ByteArray) (i x : Nat) : Prop := x = down (bothB a b) (i - 1) ∧ i - 1 ≤ a.size ∧ i - 1 ≤ b.size ∧ ∀ j, j < i - 1 → byteAt a j = byteAt b j
def HeadIs (a b : ByteArray) (x : Nat) : Prop := ∃ n, IsPre a.data.toList b.data.toList n ∧ x = down (bothB a b) n
theorem head_end {a b : ByteArray} {i x : Nat} (h : Head a b i x) (hi : 0 < i) (he : a.size < i ∨ b.size < i ∨ (i ≤ a.size ∧ i ≤ b.size ∧ byteAt a (i - 1) ≠ byteAt b (i - 1))) : HeadIs a b x := by
  obtain ⟨h1, h2, h3, h4⟩ := h
  refine ⟨i - 1, isPre_end (by rw [← Lib.size_eq]; exact h2) (by rw [← Lib.size_eq]; exact h3) (fun j hj => (byte_iff a b j j (by omega) (by omega)).2 (h4 j hj)) ?_, h1⟩
  rcases he with h5 | h5 | ⟨h5, h6, h7⟩
  · left; rw [← Lib.size_eq]; omega
  · right; left; rw [← Lib.size_eq]; omega
  · right; right; intro e; exact h7 ((byte_iff a b _ _ (by omega) (by omega)).1 e)
theorem head_step {a b : ByteArray} {i x : Nat} (h : Head a b i x) (ha : i ≤ a.size) (hb : i ≤ b.size) (he : i = 0 ∨ byteAt a (i - 1) = byteAt b (i - 1)) : Head a b (i + 1) (if bothB a b i then i else x) := by
  obtain ⟨h1, h2, h3, h4⟩ := h
  refine ⟨?_, by omega, by omega, fun j hj => ?_⟩
  · rw [show i + 1 - 1 = i from rfl]
    cases hP : bothB a b i with
    | true => rw [if_pos rfl]; exact (down_yes _ _ hP).symm
    | false => rw [if_neg (by simp), h1]; exact (down_no _ _ hP).symm
  · rcases Nat.lt_or_ge j (i - 1) with h5 | h5
    · exact h4 j h5
    · rcases he with rfl | he
      · omega
      · obtain rfl : j = i - 1 := by omega
        exact he
/-- what it has tried from the end -/
def Tail (a b : ByteArray) (x i y : Nat) : Prop := y = down (tailB a b) (i - 1) ∧ i - 1 ≤ a.size - x ∧ i - 1 ≤ b.size - x ∧ ∀ j, j < i - 1 → byteAt a (a.size - 1 - j) = byteAt b (b.size - 1 - j)
def TailIs (a b : ByteArray) (x y : Nat) : Prop := ∃ m, IsPre (endL a x) (endL b x) m ∧ y = down (tailB a b) m
theorem tail_end {a b : ByteArray} {x i y : Nat} (h : Tail a b x i y) (hi : 0 < i) (he : a.size - x < i ∨ b.size - x < i ∨ (i ≤ a.size - x ∧ i ≤ b.size - x ∧ byteAt a (a.size - i) ≠ byteAt b (b.size - i))) : TailIs a b x y := by
  obtain ⟨h1, h2, h3, h4⟩ := h
  have each : ∀ j, j < a.size - x → j < b.size - x → ((endL a x)[j]? = (endL b x)[j]? ↔ byteAt a (a.size - 1 - j) = byteAt b (b.size - 1 - j)) := by
    intro j hj1 hj2
    rw [endL_at a x j hj1, endL_at b x j hj2]
    exact byte_iff a b _ _ (by omega) (by omega)
  refine ⟨i - 1, isPre_end (by rw [endL_len]; exact h2) (by rw [endL_len]; exact h3) (fun j hj => (each j (by omega) (by omega)).2 (h4 j hj)) ?_, h1⟩
  rw [endL_len, endL_len]
  rcases he with h5 | h5 | ⟨h5, h6, h7⟩
  · left; omega
  · right; left; omega
  · right; right
    intro e
    have := (each (i - 1) (by omega) (by omega)).1 e
    rw [show a.size - 1 - (i - 1) = a.size - i from by omega, show b.size - 1 - (i - 1) = b.size - i from by omega] at this
    exact h7 this
theorem tail_step {a b : ByteArray} {x i y : Nat} (h : Tail a b x i y) (ha : i ≤ a.size - x) (hb : i ≤ b.size - x) (he : i = 0 ∨ byteAt a (a.size - i) = byteAt b (b.size - i)) : Tail a b x (i + 1) (if tailB a b i then i else y) := by
  obtain ⟨h1, h2, h3, h4⟩ := h
  refine ⟨?_, by omega, by omega, fun j hj => ?_⟩
  · rw [show i + 1 - 1 = i from rfl]
    cases hP : tailB a b i with
    | true => rw [if_pos rfl]; exact (down_yes _ _ hP).symm
    | false => rw [if_neg (by simp), h1]; exact (down_no _ _ hP).symm
  · rcases Nat.lt_or_ge j (i - 1) with h5 | h5
    · exact h4 j h5
    · rcases he with rfl | he
      · omega
      · obtain rfl : j = i - 1 := by omega
        rw [show a.size - 1 - (i - 1) = a.size - i from by omega, show b.size - 1 - (i - 1) = b.size - i from by omega]
        exact he
def RDiffSays (a b : ByteArray) (w : World) (e : Ending) (w' : World) : Prop := ∃ x y : Nat, DiffIs a b x y ∧ e = .returned (.tuple #[.int .i64 x, .int .i64 y]) ∧ Below w.heap.size w w'
set_option maxRecDepth 100000 in
set_option maxHeartbeats 1000000 in
theorem rdiff_ok (a b : ByteArray) (ha : a.size ≤ 100000) (hb : b.size ≤ 100000) (w : World) : Calls Tryd.prog 30 #[.string a, .string b] w (RDiffSays a b w) := by
  go_enter Tryd.func30, Tryd.ntmps30
  go_upto_block 0 with fail
  go_cut [6] (fun s6 wc => ∃ x : Nat, s6 = .int .i64 (x : Int) ∧ x ≤ a.size ∧ x ≤ b.size ∧ Hid (HeadIs a b x) ∧ Below w.heap.size w wc)
  case first =>
    go_wp2_with fail
    go_loopg [6, 7] (a.size + 2) (fun g s6 s7 W => ∃ x i : Nat, s6 = .int .i64 (x : Int) ∧ s7 = .int .i64 (i : Int) ∧ g + i = a.size + 2 ∧ x ≤ a.size ∧ x ≤ b.size ∧ (i = 0 ∨ i - 1 ≤ a.size) ∧ Hid (Head a b i x) ∧ Below w.heap.size w W)
    case atStart => exact ⟨0, 0, rfl, rfl, rfl, Nat.zero_le _, Nat.zero_le _, Or.inl rfl, ⟨rfl, Nat.zero_le _, Nat.zero_le _, fun j h => by omega⟩, Below.refl _ _⟩
    case round =>
      obtain ⟨x, i, rfl, rfl, hg, hxa, hxb, hia, HH, hb0⟩ := hrel
      have hi0 : i ≤ 100001 := by omega
      by_cases h1 : i ≤ a.size
      · have h1' : (i : Int) ≤ (a.size : Int) := by omega
        by_cases h2 : i ≤ b.size
        · have h2' : (i : Int) ≤ (b.size : Int) := by omega
          have CA := rcaret_ok a i (by omega) 
          rw [caretI_nat a i h1] at CA
          have CB := rcaret_ok b i (by omega)
          rw [caretI_nat b i h2] at CB
          by_cases h0 : i = 0
          · subst h0
            have H2 := Lib.hid (head_step HH.out h1 h2 (Or.inl rfl))
            rw [both_zero, if_pos rfl] at H2
            rw [caret_zero] at CA CB
            have CAh := Lib.hid CA
            have CBh := Lib.hid CB
            have hd : decide ((0 : Int) < 0) = false := rfl
            clear CA CB HH
            go_wp2_with fail
            go_quiet (fail)
            go_wp2_with fail
            refine (CAh.out _).mono ?_
            rintro e w1 ⟨rfl, hb1⟩
            go_wp2_with fail
            refine (CBh.out _).mono ?_
            rintro e w2 ⟨rfl, hb2⟩
            have hbw := (hb0.trans (drewN_below _ _ _)).trans ((hb1.trans (hb2.mono hb1.size)).mono hb0.size)
            clear hb1 hb2
            go_wp2_with fail
            go_roundg (gk - 1)
            case measure => omega
            case rel => exact ⟨0, 1, rfl, rfl, by omega, by omega, by omega, by omega, H2, hbw⟩
          · obtain ⟨k, rfl⟩ : ∃ k, i = k + 1 := ⟨i - 1, by omega⟩
            have hka : k < a.size := by omega
            have hkb : k < b.size := by omega
            obtain ⟨_, ea⟩ := byte_some a k hka
            obtain ⟨_, eb⟩ := byte_some b k hkb
            have hka' : (k : Int) < (a.size : Int) := by omega
            have hkb' : (k : Int) < (b.size : Int) := by omega
            have hk1 : ((k + 1 : Nat) : Int) = (k : Int) + 1 := by omega
            have hk2 : (k : Int) + 1 - 1 = (k : Int) := by omega
            rw [hk1]
            rw [hk1] at CA CB h1' h2'
            by_cases he : byteAt a k = byteAt b k
            · have H2 := Lib.hid (head_step HH.out h1 h2 (Or.inr he))
              rw [ea, eb] at he
              have he' : ((((a[k]'hka).toNat : Nat) : Int) != (((b[k]'hkb).toNat : Nat) : Int)) = false := by rw [he]; simp
              have HBB := Lib.hid (show bothB a b (k + 1) = (caretN a (k + 1) && caretN b (k + 1)) from rfl)
              have CBh := Lib.hid CB
              clear ea eb HH h0 hk1 CB
              cases hca : caretN a (k + 1) with
              | false =>
                rw [hca] at CA
                have CAh := Lib.hid CA
                have H3 := Lib.hid (show Head a b (k + 1 + 1) x from by
                  have := H2.out
                  rw [HBB.out, hca, Bool.false_and, if_neg (by simp)] at this
                  exact this)
                clear CA hca H2 HBB CBh
                go_wp2_with fail
                go_quiet (fail)
                go_wp2_with fail
                refine (CAh.out _).mono ?_
                rintro e w1 ⟨rfl, hb1⟩
                have hbw := (hb0.trans (drewN_below _ _ _)).trans (hb1.mono hb0.size)
                clear hb1
                go_wp2_with fail
                go_roundg (gk - 1)
                case measure => omega
                case rel => exact ⟨x, k + 1 + 1, rfl, by go_num, by omega, hxa, hxb, by omega, H3, hbw⟩
              | true =>
                rw [hca] at CA
                have CAh := Lib.hid CA
                cases hcb : caretN b (k + 1) with
                | false =>
                  have CBi := Lib.hid (fun W => CBh.out W)
                  rw [hcb] at CBi
                  have H3 := Lib.hid (show Head a b (k + 1 + 1) x from by
                    have := H2.out
                    rw [HBB.out, hca, hcb, Bool.true_and, if_neg (by simp)] at this
                    exact this)
                  clear CA hca H2 HBB CBh hcb
                  go_wp2_with fail
                  go_quiet (fail)
                  go_wp2_with fail
                  refine (CAh.out _).mono ?_
                  rintro e w1 ⟨rfl, hb1⟩
                  go_wp2_with fail
                  refine (CBi.out _).mono ?_
                  rintro e w2 ⟨rfl, hb2⟩
                  have hbw := (hb0.trans (drewN_below _ _ _)).trans ((hb1.trans (hb2.mono hb1.size)).mono hb0.size)
                  clear hb1 hb2
                  go_wp2_with fail
                  go_roundg (gk - 1)
                  case measure => omega
                  case rel => exact ⟨x, k + 1 + 1, rfl, by go_num, by omega, hxa, hxb, by omega, H3, hbw⟩
                | true =>
                  have CBi := Lib.hid (fun W => CBh.out W)
                  rw [hcb] at CBi
                  have H3 := Lib.hid (show Head a b (k + 1 + 1) (k + 1) from by
                    have := H2.out
                    rw [HBB.out, hca, hcb, Bool.true_and, if_pos rfl] at this
                    exact this)
                  clear CA hca H2 HBB CBh hcb
                  go_wp2_with fail
                  go_quiet (fail)
                  go_wp2_with fail
                  refine (CAh.out _).mono ?_
                  rintro e w1 ⟨rfl, hb1⟩
                  go_wp2_with fail
                  refine (CBi.out _).mono ?_
                  rintro e w2 ⟨rfl, hb2⟩
                  have hbw := (hb0.trans (drewN_below _ _ _)).trans ((hb1.trans (hb2.mono hb1.size)).mono hb0.size)
                  clear hb1 hb2
                  go_wp2_with fail
                  go_roundg (gk - 1)
                  case measure => omega
                  case rel => exact ⟨k + 1, k + 1 + 1, by go_num, by go_num, by omega, by omega, by omega, by omega, H3, hbw⟩
            · have HE := Lib.hid (head_end HH.out (by omega) (Or.inr (Or.inr ⟨h1, h2, he⟩)))
              rw [ea, eb] at he
              have he' : ((((a[k]'hka).toNat : Nat) : Int) != (((b[k]'hkb).toNat : Nat) : Int)) = true := by simp; omega
              clear ea eb HH h0 hk1 CA CB
              go_wp2_with fail
              go_quiet (fail)
              go_wp2_with fail
              go_meet
              case rel => exact ⟨x, rfl, hxa, hxb, HE, hb0.trans (drewN_below _ _ _)⟩
        · have h2' : ¬ ((i : Int) ≤ (b.size : Int)) := by omega
          have HE := Lib.hid (head_end HH.out (by omega) (Or.inr (Or.inl (by omega))))
          go_wp2_with fail
          go_meet
          case rel => exact ⟨x, rfl, hxa, hxb, HE, hb0⟩
      · have h1' : ¬ ((i : Int) ≤ (a.size : Int)) := by omega
        have HE := Lib.hid (head_end HH.out (by omega) (Or.inl (by omega)))
        go_wp2_with fail
        go_meet
        case rel => exact ⟨x, rfl, hxa, hxb, HE, hb0⟩
  case rest =>
    obtain ⟨x, rfl, hxa, hxb, HX, hbw⟩ := hcut
    go_upto_block 2 with fail
    go_cut [8] (fun s8 wd => ∃ y : Nat, s8 = .int .i64 (y : Int) ∧ Hid (TailIs a b x y) ∧ Below w.heap.size w wd)
    case first =>
      go_wp2_with fail
      go_loopg [8, 9] (a.size + 2) (fun g s8 s9 W => ∃ y i : Nat, s8 = .int .i64 (y : Int) ∧ s9 = .int .i64 (i : Int) ∧ g + i = a.size + 2 ∧ (i = 0 ∨ i - 1 ≤ a.size) ∧ Hid (Tail a b x i y) ∧ Below w.heap.size w W)
      case atStart => exact ⟨0, 0, rfl, rfl, rfl, Or.inl rfl, ⟨rfl, Nat.zero_le _, Nat.zero_le _, fun j h => by omega⟩, hbw⟩
      case round =>
        obtain ⟨y, i, rfl, rfl, hg, hia, HH, hb0⟩ := hrel
        have hi0 : i ≤ 100001 := by omega
        by_cases h1 : i ≤ a.size - x
        · have h1' : (i : Int) ≤ (a.size : Int) - (x : Int) := by omega
          by_cases h2 : i ≤ b.size - x
          · have h2' : (i : Int) ≤ (b.size : Int) - (x : Int) := by omega
            have CA := rcaret_ok a (a.size - i : Nat) (by omega)
            rw [caretI_nat a (a.size - i) (by omega)] at CA
            have CB := rcaret_ok b (b.size - i : Nat) (by omega)
            rw [caretI_nat b (b.size - i) (by omega)] at CB
            by_cases h0 : i = 0
            · subst h0
              have H2 := Lib.hid (tail_step HH.out h1 h2 (Or.inl rfl))
              rw [tail_zero, if_pos rfl] at H2
              rw [Nat.sub_zero, caret_end] at CA CB
              have CAh := Lib.hid CA
              have CBh := Lib.hid CB
              have hd : decide ((0 : Int) < 0) = false := rfl
              clear CA CB HH
              go_wp2_with fail
              go_quiet (fail)
              go_wp2_with fail
              refine (CAh.out _).mono ?_
              rintro e w1 ⟨rfl, hb1⟩
              go_wp2_with fail
              refine (CBh.out _).mono ?_
              rintro e w2 ⟨rfl, hb2⟩
              have hbx := (hb0.trans (drewN_below _ _ _)).trans ((hb1.trans (hb2.mono hb1.size)).mono hb0.size)
              clear hb1 hb2
              go_wp2_with fail
              go_roundg (gk - 1)
              case measure => omega
              case rel => exact ⟨0, 1, rfl, rfl, by omega, by omega, H2, hbx⟩
            · have hip : (0 : Int) < (i : Int) := by omega
              have hip2 : 0 < i := by omega
              have hip3 : decide (0 < i) = true := by simp; omega
              have hip4 : (i == 0) = false := by simp; omega
              have hla : a.size - i < a.size := by omega
              have hlb : b.size - i < b.size := by omega
              obtain ⟨_, ea⟩ := byte_some a (a.size - i) hla
              obtain ⟨_, eb⟩ := byte_some b (b.size - i) hlb
              have HTT := Lib.hid (show tailB a b i = (caretN a (a.size - i) && caretN b (b.size - i)) from rfl)
              have HEE := (show Hid (byteAt a (a.size - i) ≠ byteAt b (b.size - i) → TailIs a b x y) from fun he => tail_end HH.out (by omega) (Or.inr (Or.inr ⟨h1, h2, he⟩)))
              have HSS := (show Hid (byteAt a (a.size - i) = byteAt b (b.size - i) → Tail a b x (i + 1) (if tailB a b i then i else y)) from fun he => tail_step HH.out h1 h2 (Or.inr he))
              have sa : (a.size : Int) - (i : Int) = ((a.size - i : Nat) : Int) := by omega
              have sb : (b.size : Int) - (i : Int) = ((b.size - i : Nat) : Int) := by omega
              clear HH
              generalize a.size - i = ia at *
              generalize b.size - i = ib at *
              have hla' : (ia : Int) < (a.size : Int) := by omega
              have hlb' : (ib : Int) < (b.size : Int) := by omega
              by_cases he : byteAt a ia = byteAt b ib
              · have H2 := Lib.hid (HSS.out he)
                rw [ea, eb] at he
                have he' : ((((a[ia]'hla).toNat : Nat) : Int) != (((b[ib]'hlb).toNat : Nat) : Int)) = false := by rw [he]; simp
                have CBh := Lib.hid CB
                clear ea eb h0 CB HEE HSS
                cases hca : caretN a ia with
                | false =>
                  rw [hca] at CA
                  have CAh := Lib.hid CA
                  have H3 := Lib.hid (show Tail a b x (i + 1) y from by
                    have := H2.out
                    rw [HTT.out, hca, Bool.false_and, if_neg (by simp)] at this
                    exact this)
                  clear CA hca H2 HTT CBh
                  go_wp2_with fail
                  go_quiet (fail)
                  go_wp2_with fail
                  refine (CAh.out _).mono ?_
                  rintro e w1 ⟨rfl, hb1⟩
                  have hbx := (hb0.trans (drewN_below _ _ _)).trans (hb1.mono hb0.size)
                  clear hb1
                  go_wp2_with fail
                  go_roundg (gk - 1)
                  case measure => omega
                  case rel => exact ⟨y, i + 1, rfl, by go_num, by omega, by omega, H3, hbx⟩
                | true =>
                  rw [hca] at CA
                  have CAh := Lib.hid CA
                  cases hcb : caretN b ib with
                  | false =>
                    have CBi := Lib.hid (fun W => CBh.out W)
                    rw [hcb] at CBi
                    have H3 := Lib.hid (show Tail a b x (i + 1) y from by
                      have := H2.out
                      rw [HTT.out, hca, hcb, Bool.true_and, if_neg (by simp)] at this
                      exact this)
                    clear CA hca H2 HTT CBh hcb
                    go_wp2_with fail
                    go_quiet (fail)
                    go_wp2_with fail
                    refine (CAh.out _).mono ?_
                    rintro e w1 ⟨rfl, hb1⟩
                    go_wp2_with fail
                    refine (CBi.out _).mono ?_
                    rintro e w2 ⟨rfl, hb2⟩
                    have hbx := (hb0.trans (drewN_below _ _ _)).trans ((hb1.trans (hb2.mono hb1.size)).mono hb0.size)
                    clear hb1 hb2
                    go_wp2_with fail
                    go_roundg (gk - 1)
                    case measure => omega
                    case rel => exact ⟨y, i + 1, rfl, by go_num, by omega, by omega, H3, hbx⟩
                  | true =>
                    have CBi := Lib.hid (fun W => CBh.out W)
                    rw [hcb] at CBi
                    have H3 := Lib.hid (show Tail a b x (i + 1) i from by
                      have := H2.out
                      rw [HTT.out, hca, hcb, Bool.true_and, if_pos rfl] at this
                      exact this)
                    clear CA hca H2 HTT CBh hcb
                    go_wp2_with fail
                    go_quiet (fail)
                    go_wp2_with fail
                    refine (CAh.out _).mono ?_
                    rintro e w1 ⟨rfl, hb1⟩
                    go_wp2_with fail
                    refine (CBi.out _).mono ?_
                    rintro e w2 ⟨rfl, hb2⟩
                    have hbx := (hb0.trans (drewN_below _ _ _)).trans ((hb1.trans (hb2.mono hb1.size)).mono hb0.size)
                    clear hb1 hb2
                    go_wp2_with fail
                    go_roundg (gk - 1)
                    case measure => omega
                    case rel => exact ⟨i, i + 1, rfl, by go_num, by omega, by omega, H3, hbx⟩
              · have HE := Lib.hid (HEE.out he)
                rw [ea, eb] at he
                have he' : ((((a[ia]'hla).toNat : Nat) : Int) != (((b[ib]'hlb).toNat : Nat) : Int)) = true := by simp; omega
                clear ea eb h0 CA CB HEE HSS HTT
                go_wp2_with fail
                go_quiet (fail)
                go_wp2_with fail
                go_meet
                case rel => exact ⟨y, rfl, HE, hb0.trans (drewN_below _ _ _)⟩
          · have h2' : ¬ ((i : Int) ≤ (b.size : Int) - (x : Int)) := by omega
            have HE := Lib.hid (tail_end HH.out (by omega) (Or.inr (Or.inl (by omega))))
            go_wp2_with fail
            go_meet
            case rel => exact ⟨y, rfl, HE, hb0⟩
        · have h1' : ¬ ((i : Int) ≤ (a.size : Int) - (x : Int)) := by omega
          have HE := Lib.hid (tail_end HH.out (by omega) (Or.inl (by omega)))
          go_wp2_with fail
          go_meet
          case rel => exact ⟨y, rfl, HE, hb0⟩
    case rest =>
      obtain ⟨y, rfl, HY, hbd⟩ := hcut
      go_wp2_with fail
      go_ret2
      obtain ⟨n, h1, h2⟩ := HX.out
      obtain ⟨m, h3, h4⟩ := HY.out
      exact ⟨x, y, ⟨n, m, h1, h2, h3, h4⟩, rfl, hbd⟩
end Go.Proofs.YtpmgccjhflcoiaaDoor
