/-
  Contract of the answer's At. No condition beyond those that each theorem states.
-/
import Derived.Test.YtpmgccjhflcoiaaDoorREnc
namespace Go.Proofs.YtpmgccjhflcoiaaDoor
open Go.RowKit
set_option linter.unusedSimpArgs false
set_option linter.unusedVariables false

def byteAt (s : ByteArray) (i : Nat) : Nat := (s.get! i).toNat
def rhead (n b : Nat) : Nat := if n = 2 then b % 32 else if n = 3 then b % 16 else if n = 4 then b % 8 else b
/-- the number that n bytes from i on tell, after k of them -/
def racc (s : ByteArray) (i n : Nat) : Nat → Nat
  | 0 => rhead n (byteAt s i)
  | k + 1 => 64 * racc s i n k + byteAt s (i + (k + 1)) % 64

theorem byteAt_lt (s : ByteArray) (i : Nat) : byteAt s i < 256 := UInt8.toNat_lt _
theorem rhead_lt (n b : Nat) (h : b < 256) : rhead n b < 256 := by
  unfold rhead
  repeat' split
  all_goals omega
theorem racc_lt (s : ByteArray) (i n k : Nat) : racc s i n k < 256 * 64 ^ k := by
  induction k with
  | zero => simpa [racc] using rhead_lt n _ (byteAt_lt s i)
  | succ k ih => rw [racc, Nat.pow_succ]; omega
theorem ext_byte (s : ByteArray) (i n : Nat) (h : i + n ≤ s.size) (j : Nat) (hj : j < (s.extract i (i + n)).size) : ((s.extract i (i + n))[j]).toNat = byteAt s (i + j) := by
  unfold byteAt
  rw [ByteArray.getElem_extract, Utf8W.get!_of_lt s (i + j) (by rw [ByteArray.size_extract] at hj; omega)]
theorem ext_size (s : ByteArray) (i n : Nat) (h : i + n ≤ s.size) : (s.extract i (i + n)).size = n := by
  simp; omega
/-- do n bytes from i on tell a sign, by the document -/
def matchAt (s : ByteArray) (i n : Nat) : Bool := decide (bytesOf (encN (racc s i n (n - 1))) = s.extract i (i + n))

/-- what the answer's At tells -/
def RefAt (s : ByteArray) (i : Nat) (r : Int) (k : Nat) : Prop :=
  (∃ n, 1 ≤ n ∧ n ≤ 4 ∧ i + n ≤ s.size ∧ matchAt s i n = true ∧ (∀ m, 1 ≤ m → m < n → matchAt s i m = false) ∧ r = (racc s i n (n - 1) : Nat) ∧ k = n) ∨
  ((∀ n, 1 ≤ n → n ≤ 4 → i + n ≤ s.size → matchAt s i n = false) ∧ r = -1 ∧ k = 1)
theorem wrap_small (a : Int) (h0 : 0 ≤ a) (h : a < 9223372036854775808) : wrap64 a = a := by unfold wrap64; omega
theorem toList_ne {a b : ByteArray} (h : ¬ a = b) : ¬ a.toList = b.toList := fun e => h (by rw [ByteArray.toList_eq, ByteArray.toList_eq] at e; exact ByteArray.ext (Array.toList_inj.1 e))

set_option maxRecDepth 100000 in
theorem rat_ok (s : ByteArray) (i : Nat) (hi : i < s.size) (hs : s.size ≤ 1000000) (w : World) :
    Calls Tryd.prog 23 #[.string s, .int .i64 i] w fun e w' => ∃ (r : Int) (k : Nat), e = .returned (.tuple #[.int .i64 r, .int .i64 k]) ∧ RefAt s i r k ∧ Below w.heap.size w w' := by
  go_enter Tryd.func23, Tryd.ntmps23
  go_wp2_with fail
  go_loopg [6] 4 (fun g s6 W => ∃ n : Nat, s6 = .int .i64 (n : Int) ∧ g + n = 5 ∧ 1 ≤ n ∧ Hid (∀ m, 1 ≤ m → m < n → matchAt s i m = false) ∧ Below w.heap.size w W)
  case atStart => exact ⟨1, rfl, rfl, by omega, fun m h1 h2 => by omega, Below.refl _ _⟩
  case round =>
    obtain ⟨n, rfl, hg, hn1, Hno, hb⟩ := hrel
    by_cases hn : n ≤ 4
    · by_cases hl : n ≤ s.size - i
      · have hl' : (n : Int) ≤ (s.size : Int) - (i : Int) := by omega
        have hx := ext_byte s i n (by omega)
        have hz := ext_size s i n (by omega)
        have hmin : 0 < min (i + n) s.size - i := by omega
        have hin : i + n ≤ s.size := by omega
        go_upto_region 5 with fail
        have Hmt := (show Hid (matchAt s i n = decide (bytesOf (encN (racc s i n (n - 1))) = s.extract i (i + n))) from rfl)
        generalize hB : s.extract i (i + n) = b at hx hz Hmt ⊢
        have hb0 : ∀ h : 0 < b.size, (b[0]'h).toNat = byteAt s i := fun h => hx 0 h
        have hlt := byteAt_lt s i
        have HX := (show Hid (∀ j (hj : j < b.size), (b[j]'hj).toNat = byteAt s (i + j)) from hx)
        have hbz : 0 < b.size := by omega
        have Hz := (show Hid _ from hz)
        have HF := (show Hid (i + n ≤ s.size) from hin)
        have H0 := (show Hid (racc s i n 0 = rhead n (byteAt s i)) from rfl)
        clear hx hB hin
        generalize byteAt s i = x at hb0 hlt H0
        obtain ⟨gko, rfl⟩ : ∃ y : Nat, y = gk := ⟨_, rfl⟩
        rcases (show n = 1 ∨ n = 2 ∨ n = 3 ∨ n = 4 by omega) with rfl | rfl | rfl | rfl
        · have H0 : Hid (racc s i 1 0 = x) := H0.out.trans (by simp [rhead])
          clear hl hl' hmin hn
          go_wp2_with fail
          go_loopg [8, 9] 1 (fun g s8 s9 W => ∃ k : Nat, s9 = .int .i64 (k : Int) ∧ s8 = .int .i64 (racc s i 1 (k - 1) : Nat) ∧ g + k = 1 + 1 ∧ 1 ≤ k ∧ k ≤ 1 ∧ Below wr.heap.size wr W)
          case atStart => exact ⟨1, rfl, by rw [show 1 - 1 = 0 from rfl, H0.out], by omega, by omega, by omega, Below.refl _ _⟩
          case round =>
            obtain ⟨k, rfl, rfl, hk, hk1, hkN, hbi⟩ := hrel
            by_cases hkn : k < 1
            · exfalso; omega
            · obtain rfl : k = 1 := by omega
              have hal := racc_lt s i 1 (1 - 1)
              have he := renc_ok (racc s i 1 (1 - 1)) (Nat.le_of_lt (Nat.lt_of_lt_of_le (racc_lt s i 1 (1 - 1)) (by decide))) wr
              have Hr := (show Hid (∀ r : Nat, r = racc s i 1 (1 - 1) → matchAt s i 1 = true → RefAt s i (r : Int) 1) from fun r hr hm => Or.inl ⟨1, by omega, by omega, HF.out, hm, Hno.out, by rw [hr], rfl⟩)
              have hbb := hb.trans (hbi.mono hb.size)
              generalize hrr : racc s i 1 (1 - 1) = r at he Hmt ⊢
              have Hrr := (show Hid _ from hrr)
              clear hal hrr
              by_cases hm : bytesOf (encN r) = b
              · rw [hm] at he
                have Hm := (show Hid _ from Hmt.out.trans (decide_eq_true hm))
                clear hm Hmt
                go_wp2_with fail
                refine he.mono ?_
                rintro e w2 ⟨rfl, hb2⟩
                clear he
                go_wp2_with fail
                go_ret2
                exact ⟨(r : Int), 1, rfl, Hr.out r Hrr.out.symm Hm.out, hbb.trans (hb2.mono hbb.size)⟩
              · have hne := toList_ne hm
                have hne2 : ((bytesOf (encN r)).toList == b.toList) = false := beq_eq_false_iff_ne.2 hne
                have Hm := (show Hid _ from Hmt.out.trans (decide_eq_false hm))
                clear hm Hmt
                generalize bytesOf (encN r) = B at he hne hne2
                go_wp2_with fail
                refine he.mono ?_
                rintro e w2 ⟨rfl, hb2⟩
                clear he
                go_wp2_with fail
                go_roundg (gko - 1)
                case measure => omega
                case rel => exact ⟨1 + 1, by go_num, by omega, by omega, (fun m h1 h2 => by rcases Nat.lt_or_ge m 1 with h | h; exact Hno.out m h1 h; (have e : m = 1 := by omega); subst e; exact Hm.out), hbb.trans (hb2.mono hbb.size)⟩
        · have H0 : Hid (racc s i 2 0 = x % 32) := H0.out.trans (by simp [rhead])
          clear hl hl' hmin hn
          go_wp2_with fail
          go_loopg [8, 9] 2 (fun g s8 s9 W => ∃ k : Nat, s9 = .int .i64 (k : Int) ∧ s8 = .int .i64 (racc s i 2 (k - 1) : Nat) ∧ g + k = 2 + 1 ∧ 1 ≤ k ∧ k ≤ 2 ∧ Below wr.heap.size wr W)
          case atStart => exact ⟨1, rfl, by rw [show 1 - 1 = 0 from rfl, H0.out]; first | rfl | (congr 1; omega), by omega, by omega, by omega, Below.refl _ _⟩
          case round =>
            obtain ⟨k, rfl, rfl, hk, hk1, hkN, hbi⟩ := hrel
            by_cases hkn : k < 2
            · have hby : ∀ h : k < b.size, (b[k]'h).toNat = byteAt s (i + k) := fun h => HX.out k h
              have hylt := byteAt_lt s (i + k)
              have hal := racc_lt s i 2 (k - 1)
              have hpw : (64 : Nat) ^ (k - 1) ≤ 64 ^ 3 := Nat.pow_le_pow_right (by omega) (by omega)
              have hnx : racc s i 2 (k + 1 - 1) = 64 * racc s i 2 (k - 1) + byteAt s (i + k) % 64 := by
                obtain ⟨j, rfl⟩ : ∃ j, k = j + 1 := ⟨k - 1, by omega⟩
                rfl
              generalize racc s i 2 (k - 1) = acc at hal hnx ⊢
              generalize byteAt s (i + k) = y at hby hylt hnx
              have e1 : wrap64 (64 * (acc : Int)) = ((64 * acc : Nat) : Int) := (wrap_small _ (by omega) (by omega)).trans (by omega)
              generalize hm : 64 * acc = m at hnx e1
              have e2 : wrap64 ((m : Int) + (y : Int) % 64) = ((m + y % 64 : Nat) : Int) := (wrap_small _ (by omega) (by omega)).trans (by omega)
              generalize hm2 : m + y % 64 = m2 at hnx e2
              have Hnx := (show Hid _ from hnx)
              have hkb : k < b.size := by have := Hz.out; omega
              clear hal hpw hm hm2 hnx
              go_wp2_with fail
              go_roundg (gk - 1)
              case measure => omega
              case rel => exact ⟨k + 1, by go_num, by rw [Hnx.out, e2], by omega, by omega, by omega, hbi⟩
            · obtain rfl : k = 2 := by omega
              have hal := racc_lt s i 2 (2 - 1)
              have he := renc_ok (racc s i 2 (2 - 1)) (Nat.le_of_lt (Nat.lt_of_lt_of_le (racc_lt s i 2 (2 - 1)) (by decide))) wr
              have Hr := (show Hid (∀ r : Nat, r = racc s i 2 (2 - 1) → matchAt s i 2 = true → RefAt s i (r : Int) 2) from fun r hr hm => Or.inl ⟨2, by omega, by omega, HF.out, hm, Hno.out, by rw [hr], rfl⟩)
              have hbb := hb.trans (hbi.mono hb.size)
              generalize hrr : racc s i 2 (2 - 1) = r at he Hmt ⊢
              have Hrr := (show Hid _ from hrr)
              clear hal hrr
              by_cases hm : bytesOf (encN r) = b
              · rw [hm] at he
                have Hm := (show Hid _ from Hmt.out.trans (decide_eq_true hm))
                clear hm Hmt
                go_wp2_with fail
                refine he.mono ?_
                rintro e w2 ⟨rfl, hb2⟩
                clear he
                go_wp2_with fail
                go_ret2
                exact ⟨(r : Int), 2, rfl, Hr.out r Hrr.out.symm Hm.out, hbb.trans (hb2.mono hbb.size)⟩
              · have hne := toList_ne hm
                have hne2 : ((bytesOf (encN r)).toList == b.toList) = false := beq_eq_false_iff_ne.2 hne
                have Hm := (show Hid _ from Hmt.out.trans (decide_eq_false hm))
                clear hm Hmt
                generalize bytesOf (encN r) = B at he hne hne2
                go_wp2_with fail
                refine he.mono ?_
                rintro e w2 ⟨rfl, hb2⟩
                clear he
                go_wp2_with fail
                go_roundg (gko - 1)
                case measure => omega
                case rel => exact ⟨2 + 1, by go_num, by omega, by omega, (fun m h1 h2 => by rcases Nat.lt_or_ge m 2 with h | h; exact Hno.out m h1 h; (have e : m = 2 := by omega); subst e; exact Hm.out), hbb.trans (hb2.mono hbb.size)⟩
        · have H0 : Hid (racc s i 3 0 = x % 16) := H0.out.trans (by simp [rhead])
          clear hl hl' hmin hn
          go_wp2_with fail
          go_loopg [8, 9] 3 (fun g s8 s9 W => ∃ k : Nat, s9 = .int .i64 (k : Int) ∧ s8 = .int .i64 (racc s i 3 (k - 1) : Nat) ∧ g + k = 3 + 1 ∧ 1 ≤ k ∧ k ≤ 3 ∧ Below wr.heap.size wr W)
          case atStart => exact ⟨1, rfl, by rw [show 1 - 1 = 0 from rfl, H0.out]; first | rfl | (congr 1; omega), by omega, by omega, by omega, Below.refl _ _⟩
          case round =>
            obtain ⟨k, rfl, rfl, hk, hk1, hkN, hbi⟩ := hrel
            by_cases hkn : k < 3
            · have hby : ∀ h : k < b.size, (b[k]'h).toNat = byteAt s (i + k) := fun h => HX.out k h
              have hylt := byteAt_lt s (i + k)
              have hal := racc_lt s i 3 (k - 1)
              have hpw : (64 : Nat) ^ (k - 1) ≤ 64 ^ 3 := Nat.pow_le_pow_right (by omega) (by omega)
              have hnx : racc s i 3 (k + 1 - 1) = 64 * racc s i 3 (k - 1) + byteAt s (i + k) % 64 := by
                obtain ⟨j, rfl⟩ : ∃ j, k = j + 1 := ⟨k - 1, by omega⟩
                rfl
              generalize racc s i 3 (k - 1) = acc at hal hnx ⊢
              generalize byteAt s (i + k) = y at hby hylt hnx
              have e1 : wrap64 (64 * (acc : Int)) = ((64 * acc : Nat) : Int) := (wrap_small _ (by omega) (by omega)).trans (by omega)
              generalize hm : 64 * acc = m at hnx e1
              have e2 : wrap64 ((m : Int) + (y : Int) % 64) = ((m + y % 64 : Nat) : Int) := (wrap_small _ (by omega) (by omega)).trans (by omega)
              generalize hm2 : m + y % 64 = m2 at hnx e2
              have Hnx := (show Hid _ from hnx)
              have hkb : k < b.size := by have := Hz.out; omega
              clear hal hpw hm hm2 hnx
              go_wp2_with fail
              go_roundg (gk - 1)
              case measure => omega
              case rel => exact ⟨k + 1, by go_num, by rw [Hnx.out, e2], by omega, by omega, by omega, hbi⟩
            · obtain rfl : k = 3 := by omega
              have hal := racc_lt s i 3 (3 - 1)
              have he := renc_ok (racc s i 3 (3 - 1)) (Nat.le_of_lt (Nat.lt_of_lt_of_le (racc_lt s i 3 (3 - 1)) (by decide))) wr
              have Hr := (show Hid (∀ r : Nat, r = racc s i 3 (3 - 1) → matchAt s i 3 = true → RefAt s i (r : Int) 3) from fun r hr hm => Or.inl ⟨3, by omega, by omega, HF.out, hm, Hno.out, by rw [hr], rfl⟩)
              have hbb := hb.trans (hbi.mono hb.size)
              generalize hrr : racc s i 3 (3 - 1) = r at he Hmt ⊢
              have Hrr := (show Hid _ from hrr)
              clear hal hrr
              by_cases hm : bytesOf (encN r) = b
              · rw [hm] at he
                have Hm := (show Hid _ from Hmt.out.trans (decide_eq_true hm))
                clear hm Hmt
                go_wp2_with fail
                refine he.mono ?_
                rintro e w2 ⟨rfl, hb2⟩
                clear he
                go_wp2_with fail
                go_ret2
                exact ⟨(r : Int), 3, rfl, Hr.out r Hrr.out.symm Hm.out, hbb.trans (hb2.mono hbb.size)⟩
              · have hne := toList_ne hm
                have hne2 : ((bytesOf (encN r)).toList == b.toList) = false := beq_eq_false_iff_ne.2 hne
                have Hm := (show Hid _ from Hmt.out.trans (decide_eq_false hm))
                clear hm Hmt
                generalize bytesOf (encN r) = B at he hne hne2
                go_wp2_with fail
                refine he.mono ?_
                rintro e w2 ⟨rfl, hb2⟩
                clear he
                go_wp2_with fail
                go_roundg (gko - 1)
                case measure => omega
                case rel => exact ⟨3 + 1, by go_num, by omega, by omega, (fun m h1 h2 => by rcases Nat.lt_or_ge m 3 with h | h; exact Hno.out m h1 h; (have e : m = 3 := by omega); subst e; exact Hm.out), hbb.trans (hb2.mono hbb.size)⟩
        · have H0 : Hid (racc s i 4 0 = x % 8) := H0.out.trans (by simp [rhead])
          clear hl hl' hmin hn
          go_wp2_with fail
          go_loopg [8, 9] 4 (fun g s8 s9 W => ∃ k : Nat, s9 = .int .i64 (k : Int) ∧ s8 = .int .i64 (racc s i 4 (k - 1) : Nat) ∧ g + k = 4 + 1 ∧ 1 ≤ k ∧ k ≤ 4 ∧ Below wr.heap.size wr W)
          case atStart => exact ⟨1, rfl, by rw [show 1 - 1 = 0 from rfl, H0.out]; first | rfl | (congr 1; omega), by omega, by omega, by omega, Below.refl _ _⟩
          case round =>
            obtain ⟨k, rfl, rfl, hk, hk1, hkN, hbi⟩ := hrel
            by_cases hkn : k < 4
            · have hby : ∀ h : k < b.size, (b[k]'h).toNat = byteAt s (i + k) := fun h => HX.out k h
              have hylt := byteAt_lt s (i + k)
              have hal := racc_lt s i 4 (k - 1)
              have hpw : (64 : Nat) ^ (k - 1) ≤ 64 ^ 3 := Nat.pow_le_pow_right (by omega) (by omega)
              have hnx : racc s i 4 (k + 1 - 1) = 64 * racc s i 4 (k - 1) + byteAt s (i + k) % 64 := by
                obtain ⟨j, rfl⟩ : ∃ j, k = j + 1 := ⟨k - 1, by omega⟩
                rfl
              generalize racc s i 4 (k - 1) = acc at hal hnx ⊢
              generalize byteAt s (i + k) = y at hby hylt hnx
              have e1 : wrap64 (64 * (acc : Int)) = ((64 * acc : Nat) : Int) := (wrap_small _ (by omega) (by omega)).trans (by omega)
              generalize hm : 64 * acc = m at hnx e1
              have e2 : wrap64 ((m : Int) + (y : Int) % 64) = ((m + y % 64 : Nat) : Int) := (wrap_small _ (by omega) (by omega)).trans (by omega)
              generalize hm2 : m + y % 64 = m2 at hnx e2
              have Hnx := (show Hid _ from hnx)
              have hkb : k < b.size := by have := Hz.out; omega
              clear hal hpw hm hm2 hnx
              go_wp2_with fail
              go_roundg (gk - 1)
              case measure => omega
              case rel => exact ⟨k + 1, by go_num, by rw [Hnx.out, e2], by omega, by omega, by omega, hbi⟩
            · obtain rfl : k = 4 := by omega
              have hal := racc_lt s i 4 (4 - 1)
              have he := renc_ok (racc s i 4 (4 - 1)) (Nat.le_of_lt (Nat.lt_of_lt_of_le (racc_lt s i 4 (4 - 1)) (by decide))) wr
              have Hr := (show Hid (∀ r : Nat, r = racc s i 4 (4 - 1) → matchAt s i 4 = true → RefAt s i (r : Int) 4) from fun r hr hm => Or.inl ⟨4, by omega, by omega, HF.out, hm, Hno.out, by rw [hr], rfl⟩)
              have hbb := hb.trans (hbi.mono hb.size)
              generalize hrr : racc s i 4 (4 - 1) = r at he Hmt ⊢
              have Hrr := (show Hid _ from hrr)
              clear hal hrr
              by_cases hm : bytesOf (encN r) = b
              · rw [hm] at he
                have Hm := (show Hid _ from Hmt.out.trans (decide_eq_true hm))
                clear hm Hmt
                go_wp2_with fail
                refine he.mono ?_
                rintro e w2 ⟨rfl, hb2⟩
                clear he
                go_wp2_with fail
                go_ret2
                exact ⟨(r : Int), 4, rfl, Hr.out r Hrr.out.symm Hm.out, hbb.trans (hb2.mono hbb.size)⟩
              · have hne := toList_ne hm
                have hne2 : ((bytesOf (encN r)).toList == b.toList) = false := beq_eq_false_iff_ne.2 hne
                have Hm := (show Hid _ from Hmt.out.trans (decide_eq_false hm))
                clear hm Hmt
                generalize bytesOf (encN r) = B at he hne hne2
                go_wp2_with fail
                refine he.mono ?_
                rintro e w2 ⟨rfl, hb2⟩
                clear he
                go_wp2_with fail
                go_roundg (gko - 1)
                case measure => omega
                case rel => exact ⟨4 + 1, by go_num, by omega, by omega, (fun m h1 h2 => by rcases Nat.lt_or_ge m 4 with h | h; exact Hno.out m h1 h; (have e : m = 4 := by omega); subst e; exact Hm.out), hbb.trans (hb2.mono hbb.size)⟩
      · have Hr := (show Hid (RefAt s i (-1) 1) from Or.inr ⟨fun m h1 h2 h3 => Hno.out m h1 (by omega), rfl, rfl⟩)
        have hl' : ¬ ((n : Int) ≤ (s.size : Int) - (i : Int)) := by omega
        clear Hno
        go_wp2_with fail
        go_ret2
        exact ⟨-1, 1, rfl, Hr.out, hb⟩
    · have Hr := (show Hid (RefAt s i (-1) 1) from Or.inr ⟨fun m h1 h2 h3 => Hno.out m h1 (by omega), rfl, rfl⟩)
      clear Hno
      go_wp2_with fail
      go_ret2
      exact ⟨-1, 1, rfl, Hr.out, hb⟩
end Go.Proofs.YtpmgccjhflcoiaaDoor
