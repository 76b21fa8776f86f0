/-
  Contract of math/bits' OnesCount64 in this program: how many bits are set, of every number. No condition beyond those stated.
-/
import Derived.Test.YtccccbkllplojaaDoorRows
import Derived.Test.YtccccbkllplojaaDoorPopsEnd
import Derived.WalkLawsBesides
import Derived.WalkSpells
import Derived.Laws.Bits64b
import Derived.Laws.Bits128
import Derived.Deep.DeepCutAuto
import Derived.Deep.CutBlock
namespace Go.Proofs.YtccccbkllplojaaDoor
open Go.RowKit
set_option linter.unusedSimpArgs false
set_option linter.unusedVariables false

theorem wrap64_nat (x : Nat) (h : x < 9223372036854775808) : wrap64 (x : Int) = x := by
  unfold wrap64
  omega
def Hid (p : Prop) : Prop := p
theorem Hid.out {p : Prop} (h : Hid p) : p := h
theorem wrap_nat (n : Nat) (h : n < 18446744073709551616) : IntKind.u64.wrap (n : Int) = n := by rw [IntKind.wrap_u64]; omega
theorem pop1_le (x : Nat) : pop1 x < 18446744073709551616 := by
  have h1 : x / 2 &&& 6148914691236517205 ≤ 6148914691236517205 := Nat.and_le_right
  have h2 : x &&& 6148914691236517205 ≤ 6148914691236517205 := Nat.and_le_right
  unfold pop1; omega
theorem pop2_le (x : Nat) : pop2 x ≤ 7378697629483820646 := by
  have h1 : x / 4 &&& 3689348814741910323 ≤ 3689348814741910323 := Nat.and_le_right
  have h2 : x &&& 3689348814741910323 ≤ 3689348814741910323 := Nat.and_le_right
  unfold pop2; omega
theorem pop3_le (x : Nat) : pop3 x ≤ 1085102592571150095 := Nat.and_le_right
theorem and_nat (a : Nat) (m : Nat) (ha : a < 18446744073709551616) (hm : m < 18446744073709551616) : bits BinOp.and IntKind.u64 (a : Int) (m : Int) = ((a &&& m : Nat) : Int) := bits_and_u64_nat a m ha hm
theorem one_eq (x : Nat) (hx : x < 18446744073709551616) : IntKind.u64.wrap (bits BinOp.and IntKind.u64 ((x : Int) / 2) 6148914691236517205 + bits BinOp.and IntKind.u64 (x : Int) 6148914691236517205) = (pop1 x : Nat) := by
  have e : (x : Int) / 2 = ((x / 2 : Nat) : Int) := by omega
  have h1 := and_nat (x / 2) 6148914691236517205 (by omega) (by omega)
  have h2 := and_nat x 6148914691236517205 hx (by omega)
  rw [e]
  rw [show (6148914691236517205 : Int) = ((6148914691236517205 : Nat) : Int) from rfl, h1, h2, ← Int.natCast_add]
  exact wrap_nat _ (pop1_le x)
theorem two_eq (x : Nat) (hx : x < 18446744073709551616) : IntKind.u64.wrap (bits BinOp.and IntKind.u64 ((x : Int) / 4) 3689348814741910323 + bits BinOp.and IntKind.u64 (x : Int) 3689348814741910323) = (pop2 x : Nat) := by
  have e : (x : Int) / 4 = ((x / 4 : Nat) : Int) := by omega
  have h1 := and_nat (x / 4) 3689348814741910323 (by omega) (by omega)
  have h2 := and_nat x 3689348814741910323 hx (by omega)
  rw [e]
  rw [show (3689348814741910323 : Int) = ((3689348814741910323 : Nat) : Int) from rfl, h1, h2, ← Int.natCast_add]
  exact wrap_nat _ (by have := pop2_le x; unfold pop2 at this; omega)
theorem three_eq (x : Nat) (hx : x ≤ 7378697629483820646) : bits BinOp.and IntKind.u64 (IntKind.u64.wrap ((x : Int) / 16 + (x : Int))) 1085102592571150095 = (pop3 x : Nat) := by
  have e : (x : Int) / 16 + (x : Int) = ((x / 16 + x : Nat) : Int) := by omega
  have h1 := and_nat (x / 16 + x) 1085102592571150095 (by omega) (by omega)
  rw [e, wrap_nat _ (by omega)]
  rw [show (1085102592571150095 : Int) = ((1085102592571150095 : Nat) : Int) from rfl, h1]
  rfl
theorem four_eq (x : Nat) (hx : x ≤ 2000000000000000000) : IntKind.u64.wrap ((x : Int) + (x : Int) / 256) = (pop4 x : Nat) := by
  have e : (x : Int) + (x : Int) / 256 = ((x + x / 256 : Nat) : Int) := by omega
  rw [e, wrap_nat _ (by omega)]; rfl
theorem five_eq (x : Nat) (hx : x ≤ 2000000000000000000) : IntKind.u64.wrap ((x : Int) + (x : Int) / 65536) = (pop5 x : Nat) := by
  have e : (x : Int) + (x : Int) / 65536 = ((x + x / 65536 : Nat) : Int) := by omega
  rw [e, wrap_nat _ (by omega)]; rfl
theorem six_eq (x : Nat) (hx : x ≤ 2000000000000000000) : IntKind.u64.wrap ((x : Int) + (x : Int) / 4294967296) = (pop6 x : Nat) := by
  have e : (x : Int) + (x : Int) / 4294967296 = ((x + x / 4294967296 : Nat) : Int) := by omega
  rw [e, wrap_nat _ (by omega)]; rfl
set_option maxRecDepth 100000 in
theorem ones_ok (x : Nat) (hx : x < 18446744073709551616) (w : World) : Calls Tryd.prog 27 #[.int .u64 x] w fun e w' => e = .returned (.int .i64 (pop x : Nat)) ∧ w = w' := by
  have h1 := pop1_le x
  have h2 := pop2_le (pop1 x)
  have h3 := pop3_le (pop2 (pop1 x))
  have hp := pop_is x hx
  have q1 := one_eq x hx
  have q2 := two_eq (pop1 x) h1
  have q3 := three_eq (pop2 (pop1 x)) h2
  generalize pop1 x = x1 at *
  generalize pop2 x1 = x2 at *
  generalize pop3 x2 = x3 at *
  have q4 := four_eq x3 (by omega)
  have h4 : pop4 x3 ≤ 1200000000000000000 := by unfold pop4; omega
  generalize pop4 x3 = x4 at *
  have q5 := five_eq x4 (by omega)
  have h5 : pop5 x4 ≤ 1300000000000000000 := by unfold pop5; omega
  generalize pop5 x4 = x5 at *
  have q6 := six_eq x5 (by omega)
  have h6 : pop6 x5 ≤ 1400000000000000000 := by unfold pop6; omega
  generalize pop6 x5 = x6 at *
  generalize pop x = p at *
  have HA := (show Hid _ from And.intro hx (And.intro h1 (And.intro h2 (And.intro h3 (And.intro h4 (And.intro h5 (And.intro h6 hp)))))))
  clear hx h1 h2 h3 h4 h5 h6 hp
  go_enter Tryd.func27, Tryd.ntmps27
  go_wp2
  clear q1 q2 q3 q4 q5 q6
  go_ret
  refine ⟨?_, rfl⟩
  obtain ⟨_, _, _, _, _, _, h6, hp⟩ := HA.out
  have e : wrap64 (x6 : Int) = x6 := wrap64_nat x6 (by omega)
  show Ending.returned (Value.int .i64 (bits BinOp.and IntKind.i64 (wrap64 x6) 127)) = _
  rw [e, i64_and127, ← hp]
  rfl
end Go.Proofs.YtccccbkllplojaaDoor
