/-
  Plain law: what the answer's At tells is what the library's decoder tells. No condition beyond those that each theorem states.
-/
import Derived.Test.YtpmgccjhflcoiaaDoorRAt
namespace Go.Proofs.YtpmgccjhflcoiaaDoor
open Go.RowKit
set_option linter.unusedSimpArgs false
set_option linter.unusedVariables false

/-- the bytes of a place, as numbers -/
def bytesAt (s : ByteArray) (i n : Nat) : List Nat := (List.range n).map fun j => byteAt s (i + j)
theorem encN_lt (r : Nat) : ∀ x ∈ encN r, x < 256 := by
  intro x hx
  unfold encN at hx
  repeat' split at hx
  all_goals (simp at hx; try omega)
theorem bytesOf_inj {a b : List Nat} (ha : ∀ x ∈ a, x < 256) (hb : ∀ x ∈ b, x < 256) (h : bytesOf a = bytesOf b) : a = b := by
  have h1 : a.map UInt8.ofNat = b.map UInt8.ofNat := by
    have := congrArg (fun s => s.data.toList) h
    simpa [bytesOf] using this
  have h2 : (a.map UInt8.ofNat).map UInt8.toNat = (b.map UInt8.ofNat).map UInt8.toNat := by rw [h1]
  have key : ∀ l : List Nat, (∀ x ∈ l, x < 256) → (l.map UInt8.ofNat).map UInt8.toNat = l := by
    intro l hl
    rw [List.map_map]
    conv => rhs; rw [← List.map_id l]
    apply List.map_congr_left
    intro x hx
    simp only [Function.comp, UInt8.toNat_ofNat', id]
    exact Nat.mod_eq_of_lt (hl x hx)
  rw [key a ha, key b hb] at h2
  exact h2
theorem extract_bytes (s : ByteArray) (i n : Nat) (h : i + n ≤ s.size) : s.extract i (i + n) = bytesOf (bytesAt s i n) := by
  apply ByteArray.ext
  apply Array.ext
  · have := ext_size s i n h
    have e : (s.extract i (i + n)).data.size = n := this
    rw [e]
    simp [bytesOf, bytesAt]
  · intro j h1 h2
    have hs := ext_size s i n h
    have hj : j < (s.extract i (i + n)).size := h1
    have hb := ext_byte s i n h j hj
    have : (s.extract i (i + n)).data[j] = (s.extract i (i + n))[j] := rfl
    rw [this]
    apply UInt8.toNat_inj.1
    rw [hb]
    have hlt := byteAt_lt s (i + j)
    simp [bytesOf, bytesAt, Nat.mod_eq_of_lt hlt]
theorem match_iff (s : ByteArray) (i n : Nat) (h : i + n ≤ s.size) : matchAt s i n = true ↔ encN (racc s i n (n - 1)) = bytesAt s i n := by
  unfold matchAt
  rw [decide_eq_true_iff, extract_bytes s i n h]
  constructor
  · intro e
    exact bytesOf_inj (encN_lt _) (by intro x hx; obtain ⟨j, _, rfl⟩ := List.mem_map.1 hx; exact byteAt_lt _ _) e
  · intro e; rw [e]
theorem enc1 (b0 : Nat) (h0 : b0 < 256) : encN b0 = [b0] ↔ b0 < 128 := by
  unfold encN
  repeat' split
  all_goals simp
  all_goals omega
theorem enc2 (b0 b1 : Nat) (h0 : b0 < 256) (h1 : b1 < 256) : encN (64 * (b0 % 32) + b1 % 64) = [b0, b1] ↔ (b0 / 32 = 6 ∧ b1 / 64 = 2 ∧ 128 ≤ 64 * (b0 % 32) + b1 % 64) := by
  unfold encN
  repeat' split
  all_goals simp
  all_goals omega
theorem enc3 (b0 b1 b2 : Nat) (h0 : b0 < 256) (h1 : b1 < 256) (h2 : b2 < 256) : encN (64 * (64 * (b0 % 16) + b1 % 64) + b2 % 64) = [b0, b1, b2] ↔
    (b0 / 16 = 14 ∧ b1 / 64 = 2 ∧ b2 / 64 = 2 ∧ 2048 ≤ 64 * (64 * (b0 % 16) + b1 % 64) + b2 % 64 ∧ ¬ (55296 ≤ 64 * (64 * (b0 % 16) + b1 % 64) + b2 % 64 ∧ 64 * (64 * (b0 % 16) + b1 % 64) + b2 % 64 ≤ 57343)) := by
  unfold encN
  repeat' split
  all_goals simp
  all_goals omega
theorem enc4 (b0 b1 b2 b3 : Nat) (h0 : b0 < 256) (h1 : b1 < 256) (h2 : b2 < 256) (h3 : b3 < 256) : encN (64 * (64 * (64 * (b0 % 8) + b1 % 64) + b2 % 64) + b3 % 64) = [b0, b1, b2, b3] ↔
    (b0 / 8 = 30 ∧ b1 / 64 = 2 ∧ b2 / 64 = 2 ∧ b3 / 64 = 2 ∧ 65536 ≤ 64 * (64 * (64 * (b0 % 8) + b1 % 64) + b2 % 64) + b3 % 64 ∧ 64 * (64 * (64 * (b0 % 8) + b1 % 64) + b2 % 64) + b3 % 64 ≤ 1114111) := by
  unfold encN
  repeat' split
  all_goals simp
  all_goals omega
end Go.Proofs.YtpmgccjhflcoiaaDoor
