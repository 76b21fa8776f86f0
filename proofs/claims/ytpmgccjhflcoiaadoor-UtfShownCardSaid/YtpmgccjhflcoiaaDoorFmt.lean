/-
  Contract of strconv.FormatInt at base 16, of numbers that are not below zero and not great. No condition beyond those that each theorem states.
-/
import Derived.Test.YtpmgccjhflcoiaaDoorBld
namespace Go.Proofs.YtpmgccjhflcoiaaDoor
open Go.RowKit
set_option linter.unusedSimpArgs false
set_option linter.unusedVariables false

/-- the one entry of math/bits' table that base 16 asks for -/
def Deb (w : World) : Prop := w.cell? ⟨5, 15, none⟩ = some (.int .u8 4)
theorem Deb.below {w w' : World} (h : Deb w) (hb : Below w.heap.size w w') : Deb w' := later_cell hb h
theorem tz16 (w : World) (h : Deb w) : Calls Tryd.prog 82 #[.int .u64 16] w fun e w' => e = .returned (.int .i64 4) ∧ w = w' := by
  have hc : w.cell? ⟨5, 15, none⟩ = some (.int .u8 4) := h
  have key : IntKind.u64.wrap (bits BinOp.and IntKind.u64 16 (IntKind.u64.wrap (-16)) * 285870213051353865) / 288230376151711744 = 15 := by decide +kernel
  go_enter Tryd.func82, Tryd.ntmps82
  go_wp2_with (simp only [key])
  go_ret
  exact ⟨rfl, rfl⟩
theorem tzu16 (w : World) (h : Deb w) : Calls Tryd.prog 80 #[.int .u64 16] w fun e w' => e = .returned (.int .i64 4) ∧ w = w' := by
  have c := tz16 w h
  go_enter Tryd.func80, Tryd.ntmps80
  go_wp2_with fail
  refine c.mono ?_
  rintro e w' ⟨rfl, rfl⟩
  go_wp2_with fail
  go_ret
  exact ⟨rfl, rfl⟩
theorem pow16 (w : World) : Calls Tryd.prog 79 #[.int .i64 16] w fun e w' => e = .returned (.bool true) ∧ w = w' := by
  have key : bits BinOp.and IntKind.i64 16 15 = 0 := by decide +kernel
  go_enter Tryd.func79, Tryd.ntmps79
  go_wp2_with fail
  go_ret
  exact ⟨rfl, rfl⟩
/-- a digit of base 16 -/
def hexd (n : Nat) : UInt8 := [48, 49, 50, 51, 52, 53, 54, 55, 56, 57, 97, 98, 99, 100, 101, 102].getD n 0
/-- a number in digits of base 16 -/
def hexL (u : Nat) : List UInt8 := if h : u < 16 then [hexd u] else hexL (u / 16) ++ [hexd (u % 16)]
termination_by u
decreasing_by omega
theorem hexL_low (u : Nat) (h : u < 16) : hexL u = [hexd u] := by rw [hexL, dif_pos h]
theorem hexL_high (u : Nat) (h : ¬ u < 16) : hexL u = hexL (u / 16) ++ [hexd (u % 16)] := by rw [hexL, dif_neg h]
/-- the digits that have been laid, from a place on -/
def Dig (nb : Nat) (W : World) (i : Nat) (D : List UInt8) : Prop := ∃ cs : Array Value, W.heap[nb]? = some (.cells cs 101 (0, 0)) ∧ cs.size = 65 ∧ i + D.length = 65 ∧ ∀ j, (h : j < D.length) → cs[i + j]? = some (.int .u8 ((D[j]'h).toNat : Int))
theorem Dig.put {nb : Nat} {W : World} {i : Nat} {D : List UInt8} (h : Dig nb W (i + 1) D) (d : UInt8) : Dig nb (W.setCell ⟨nb, i, none⟩ (.int .u8 (d.toNat : Int))) i (d :: D) := by
  obtain ⟨cs, h1, h2, h3, h4⟩ := h
  refine ⟨_, blk_set h1, by simpa using h2, by simp; omega, fun j hj => ?_⟩
  rcases j with _ | j
  · rw [Nat.add_zero, Array.getElem?_setIfInBounds_self_of_lt (by omega)]
    rfl
  · rw [Array.getElem?_setIfInBounds_ne (by omega), show i + (j + 1) = i + 1 + j from by omega]
    exact h4 j (by simpa using hj)
theorem Dig.cell {nb : Nat} {W : World} {i : Nat} {D : List UInt8} (h : Dig nb W (i + 1) D) : ∃ v, W.cell? ⟨nb, i, none⟩ = some v ∧ W.frozen? ⟨nb, i, none⟩ = false := by
  obtain ⟨cs, h1, h2, h3, h4⟩ := h
  exact ⟨cs[i]'(by omega), blk_cell h1 (Array.getElem?_eq_getElem _), blk_free h1⟩
theorem addr_add (nb i j : Nat) : ((⟨nb, i, none⟩ : Addr).add j) = ⟨nb, i + j, none⟩ := by
  unfold Addr.add
  split
  · rename_i h0; subst h0; rfl
  · rfl
theorem Dig.text {nb : Nat} {W : World} {i : Nat} {D : List UInt8} (h : Dig nb W i D) (cap : Nat) : (convert 65 9 (.slice (some ⟨nb, i, none⟩) D.length cap)).run Tryd.prog W = .ok (.string ⟨D.toArray⟩) W := by
  refine run_convert_bytes_back (P := Tryd.prog) W 65 9 5 ⟨nb, i, none⟩ cap D Tryd.underlying65 Tryd.underlying5 Tryd.underlying9 (fun j hj => ?_)
  obtain ⟨cs, h1, h2, h3, h4⟩ := h
  rw [addr_add]
  exact blk_cell h1 (h4 j hj)
theorem len101 : Tryd.prog.arrayLen 101 = 65 := by kernel_rfl
theorem elem101 : Tryd.prog.elem 101 = 5 := by kernel_rfl
theorem tail101 (nb i : Nat) (hi : i < 65) (W : World) : (Instr.sliceAt 101 (.pointer (some ⟨nb, 0, none⟩)) (some (.int .i64 (i : Int))) none none).run Tryd.prog W = .ok (.slice (some ⟨nb, i, none⟩) (65 - i) (65 - i)) W := by
  have hu : Tryd.prog.underlying 101 = some (.array (Tryd.prog.arrayLen 101) (Tryd.prog.elem 101)) := by rw [len101, elem101]; exact Tryd.underlying101
  rw [run_sliceAt_array_l (P := Tryd.prog) W 101 ⟨nb, 0, none⟩ hu .i64 (i : Int) (by omega) (by rw [len101]; omega), elem101, Tryd.sizeOf5, len101]
  simp only [Result.andThen, slicedAt, Int.toNat_natCast, Nat.mul_one]
  rw [if_neg (by omega), addr_add, Nat.zero_add]
set_option maxRecDepth 100000 in
theorem zero101 : Tryd.zeroCells101.size = 65 := by kernel_rfl
abbrev DIG : ByteArray := ⟨#[48, 49, 50, 51, 52, 53, 54, 55, 56, 57, 97, 98, 99, 100, 101, 102, 103, 104, 105, 106, 107, 108, 109, 110, 111, 112, 113, 114, 115, 116, 117, 118, 119, 120, 121, 122]⟩
theorem digit_eq (d : Nat) (hd : d < 16) (h : d < DIG.size) : DIG[d]'h = hexd d := by
  rcases (show d = 0 ∨ d = 1 ∨ d = 2 ∨ d = 3 ∨ d = 4 ∨ d = 5 ∨ d = 6 ∨ d = 7 ∨ d = 8 ∨ d = 9 ∨ d = 10 ∨ d = 11 ∨ d = 12 ∨ d = 13 ∨ d = 14 ∨ d = 15 by omega) with rfl | rfl | rfl | rfl | rfl | rfl | rfl | rfl | rfl | rfl | rfl | rfl | rfl | rfl | rfl | rfl
  all_goals rfl
theorem dig_size : DIG.size = 36 := rfl
set_option maxRecDepth 100000 in
theorem fb_ok (u : Nat) (hu : u ≤ 1114111) (w : World) (hD : Deb w) :
    Calls Tryd.prog 73 #[.slice none 0 0, .int .u64 u, .int .i64 16, .bool false, .bool false] w fun e w' => e = .returned (.tuple #[.slice none 0 0, .string ⟨(hexL u).toArray⟩]) ∧ Below w.heap.size w w' := by
  have HD := Lib.hid hD
  have hp := pow16 (w.alloc (.cells Tryd.zeroCells101 101))
  have hb0 : Below w.heap.size w (w.alloc (.cells Tryd.zeroCells101 101)) := (Below.refl _ _).alloc (Nat.le_refl _) _
  have ht := tzu16 (w.alloc (.cells Tryd.zeroCells101 101)) (hD.below hb0)
  have H0 : Dig w.heap.size (w.alloc (.cells Tryd.zeroCells101 101)) 65 [] := ⟨_, blk_new _ _, zero101, rfl, fun j h => by simp at h⟩
  obtain ⟨W0, hW0⟩ : ∃ W0, W0 = w.alloc (.cells Tryd.zeroCells101 101) := ⟨_, rfl⟩
  have HW := Lib.hid hW0
  clear hD
  go_enter Tryd.func73, Tryd.ntmps73
  go_wp2_with fail
  refine hp.mono ?_
  rintro e w' ⟨rfl, rfl⟩
  clear hp
  go_wp2_with fail
  refine ht.mono ?_
  rintro e w' ⟨rfl, rfl⟩
  clear ht
  rw [← hW0] at hb0 H0 ⊢
  clear hW0
  go_wp2_with fail
  go_loopg [1, 13] u (fun g s1 s13 W => ∃ (x i m : Nat) (D : List UInt8), s1 = .int .u64 (x : Int) ∧ s13 = .int .i64 ((i + 1 : Nat) : Int) ∧ x ≤ g ∧ i + 1 = 59 + m ∧ m ≤ 6 ∧ x ≤ 1114111 ∧ Hid (x < 16 ^ m ∧ hexL u = hexL x ++ D) ∧ Dig w.heap.size W (i + 1) D ∧ Below w.heap.size w W)
  case atStart => exact ⟨u, 64, 6, [], rfl, rfl, Nat.le_refl _, rfl, Nat.le_refl _, hu, ⟨by omega, by simp⟩, H0, hb0⟩
  case round =>
    obtain ⟨x, i, m, D, rfl, rfl, hg, him, hm, hx, HX, hd, hb⟩ := hrel
    have hi : ((i + 1 : Nat) : Int) = (i : Int) + 1 := by omega
    have hi64 : (i : Int) < 65 := by omega
    rw [hi]
    obtain ⟨v, hcell, hfree⟩ := hd.cell
    have hand : bits BinOp.and IntKind.u64 (x : Int) 15 = ((x % 16 : Nat) : Int) := by
      have := u64_and_nat x 15 (by omega) (by omega)
      rw [show x &&& 15 = x % 16 from Nat.and_two_pow_sub_one_eq_mod x 4] at this
      exact this
    by_cases h16 : 16 ≤ x
    · have h16' : (16 : Int) ≤ (x : Int) := by omega
      have hlt : x % 16 < DIG.size := by rw [dig_size]; omega
      have HS := Lib.hid (show hexL x = hexL (x / 16) ++ [DIG[x % 16]'hlt] from by rw [hexL_high x (by omega), digit_eq _ (Nat.mod_lt _ (by omega))])
      have HP := Lib.hid (hd.put (DIG[x % 16]'hlt))
      clear hd
      go_wp2_with fail
      go_roundg (x / 16)
      case measure => omega
      case rel =>
        have hm2 : 2 ≤ m := by
          have := HX.out.1
          rcases (show m = 0 ∨ m = 1 ∨ 2 ≤ m by omega) with rfl | rfl | h
          · omega
          · omega
          · exact h
        obtain ⟨k, rfl⟩ : ∃ k, m = k + 1 := ⟨m - 1, by omega⟩
        refine ⟨x / 16, i - 1, k, DIG[x % 16]'hlt :: D, by go_num, by congr 1; omega, Nat.le_refl _, by omega, by omega, by omega, ⟨?_, ?_⟩, ?_, hb.setCell (p := ⟨w.heap.size, i, none⟩) (Nat.le_refl _) _⟩
        · have := HX.out.1
          rw [Nat.pow_succ] at this
          omega
        · rw [HX.out.2, HS.out, List.append_assoc]; rfl
        · rw [show i - 1 + 1 = i from by omega]
          exact HP.out
    · have h16' : ¬ (16 : Int) ≤ (x : Int) := by omega
      have hlt : x < DIG.size := by rw [dig_size]; omega
      have hxi : (x : Int) < 36 := by omega
      have HS := Lib.hid (show hexL x = [DIG[x]'hlt] from by rw [hexL_low x (by omega), digit_eq _ (by omega)])
      have HP := Lib.hid (hd.put (DIG[x]'hlt))
      have hl : 65 - i = (DIG[x]'hlt :: D).length := by have := HP.out; obtain ⟨_, _, _, h3, _⟩ := this; omega
      have htx := HP.out.text (65 - i)
      rw [← hl] at htx
      have hsl := tail101 w.heap.size i (by omega)
      have HX2 := Lib.hid (show hexL u = DIG[x]'hlt :: D from by rw [HX.out.2, HS.out]; rfl)
      clear hd hl
      go_wp2_with fail
      go_ret2
      exact ⟨by rw [HX2.out]; rfl, hb.setCell (p := ⟨w.heap.size, i, none⟩) (Nat.le_refl _) _⟩
set_option maxRecDepth 100000 in
theorem fi_ok (u : Nat) (hu : u ≤ 1114111) (w : World) (hD : Deb w) :
    Calls Tryd.prog 64 #[.int .i64 u, .int .i64 16] w fun e w' => e = .returned (.string ⟨(hexL u).toArray⟩) ∧ Below w.heap.size w w' := by
  have c := fb_ok u hu w hD
  generalize (⟨(hexL u).toArray⟩ : ByteArray) = t at *
  have h0 : ¬ (u : Int) < 0 := by omega
  go_enter Tryd.func64, Tryd.ntmps64
  go_wp2_with fail
  refine c.mono ?_
  rintro e w' ⟨rfl, hb⟩
  go_wp2_with fail
  go_ret
  exact ⟨rfl, hb⟩
theorem fs_ok (u : Nat) (hu : u ≤ 1114111) (w : World) (hD : Deb w) :
    Calls Tryd.prog 55 #[.int .i64 u, .int .i64 16] w fun e w' => e = .returned (.string ⟨(hexL u).toArray⟩) ∧ Below w.heap.size w w' := by
  have c := fi_ok u hu w hD
  generalize (⟨(hexL u).toArray⟩ : ByteArray) = t at *
  go_enter Tryd.func55, Tryd.ntmps55
  go_wp2_with fail
  refine c.mono ?_
  rintro e w' ⟨rfl, hb⟩
  go_wp2_with fail
  go_ret
  exact ⟨rfl, hb⟩
theorem hexL_len (m : Nat) : ∀ u, u < 16 ^ m → (hexL u).length ≤ m + 1 := by
  induction m with
  | zero => intro u h; rw [hexL_low u (by omega)]; exact Nat.le_refl _
  | succ m ih =>
    intro u h
    by_cases h16 : u < 16
    · rw [hexL_low u h16]; simp
    · rw [hexL_high u h16, List.length_append]
      have := ih (u / 16) (by rw [Nat.pow_succ] at h; omega)
      simp only [List.length_cons, List.length_nil]
      omega
/-- a number as an escape -/
def escS (u : Nat) : ByteArray := ⟨#[92, 117, 123]⟩ ++ ⟨(hexL u).toArray⟩ ++ ⟨#[125]⟩
theorem number_ok (u : Nat) (hu : u ≤ 1114111) (w : World) (hD : Deb w) :
    Calls Tryd.prog 42 #[.int .i64 u] w fun e w' => e = .returned (.string (escS u)) ∧ Below w.heap.size w w' := by
  have c := fs_ok u hu w hD
  have hl := hexL_len 6 u (by omega)
  have hz : (⟨(hexL u).toArray⟩ : ByteArray).size = (hexL u).length := List.size_toArray
  rw [← hz] at hl
  clear hz
  unfold escS
  generalize (⟨(hexL u).toArray⟩ : ByteArray) = t at *
  have z1 : ¬ 9223372036854775807 < 3 + t.size := by omega
  have z2 : ¬ 9223372036854775807 < 3 + t.size + 1 := by omega
  go_enter Tryd.func42, Tryd.ntmps42
  go_wp2_with fail
  refine c.mono ?_
  rintro e w' ⟨rfl, hb⟩
  go_wp2_with fail
  go_ret
  exact ⟨rfl, hb⟩
end Go.Proofs.YtpmgccjhflcoiaaDoor
