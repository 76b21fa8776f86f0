/-
  Of no program: the last steps of math/bits.OnesCount64: the bytes' sum. No condition beyond those that each theorem states.
-/
import Derived.Test.YtccccbkllplojaaDoorPops
namespace Go.Proofs.YtccccbkllplojaaDoor

theorem val8_div (a : Nat) (r : List Nat) (ha : a < 256) : val 8 (a :: r) / 256 = val 8 r := val_tail 8 a r ha
theorem val8_cons (a : Nat) (r : List Nat) : val 8 (a :: r) = a + 256 * val 8 r := rfl

theorem bytes4 (a b c d e f g h : Nat) (ha : a < 256) : pop4 (val 8 [a, b, c, d, e, f, g, h]) = val 8 [a + b, b + c, c + d, d + e, e + f, f + g, g + h, h] := by
  unfold pop4
  rw [val8_div a _ ha]
  have := val_add 8 [a, b, c, d, e, f, g, h] [b, c, d, e, f, g, h, 0] rfl
  have z := val_zero 8 [b, c, d, e, f, g, h]
  simp only [List.cons_append, List.nil_append] at z
  rw [z] at this
  rw [this]
  simp [List.zipWith]
theorem bytes5 (a b c d e f g h : Nat) (ha : a < 256) (hb : b < 256) : pop5 (val 8 [a, b, c, d, e, f, g, h]) = val 8 [a + c, b + d, c + e, d + f, e + g, f + h, g, h] := by
  unfold pop5
  rw [show (65536 : Nat) = 256 * 256 from rfl, ← Nat.div_div_eq_div_mul, val8_div a _ ha, val8_div b _ hb]
  have := val_add 8 [a, b, c, d, e, f, g, h] [c, d, e, f, g, h, 0, 0] rfl
  have z := val_zero 8 [c, d, e, f, g, h]
  have z2 := val_zero 8 [c, d, e, f, g, h, 0]
  simp only [List.cons_append, List.nil_append] at z z2
  rw [z2, z] at this
  rw [this]
  simp [List.zipWith]
theorem bytes6 (a b c d : Nat) (r : List Nat) (s : Nat) (hs : s < 256) (ha : a < 256) (hb : b < 256) (hc : c < 256) (hd : d < 256) : ∃ m, pop6 (val 8 (a :: b :: c :: d :: s :: r)) = a + s + 128 * m := by
  unfold pop6
  rw [show (4294967296 : Nat) = 256 * 256 * 256 * 256 from rfl, ← Nat.div_div_eq_div_mul, ← Nat.div_div_eq_div_mul, ← Nat.div_div_eq_div_mul, val8_div a _ ha, val8_div b _ hb, val8_div c _ hc, val8_div d _ hd, val8_cons a, val8_cons s]
  generalize val 8 (b :: c :: d :: s :: r) = X
  generalize val 8 r = Y
  exact ⟨2 * X + 2 * Y, by omega⟩
theorem pop_bytes (ds : List Nat) (hl : ds.length = 8) (hd : ∀ d ∈ ds, d ≤ 8) : pop6 (pop5 (pop4 (val 8 ds))) % 128 = ds.sum := by
  match ds, hl with
  | [a, b, c, d, e, f, g, h], _ =>
    have ha := hd a (by simp)
    have hb := hd b (by simp)
    have hc := hd c (by simp)
    have hd1 := hd d (by simp)
    have he := hd e (by simp)
    have hf := hd f (by simp)
    have hg := hd g (by simp)
    have hh := hd h (by simp)
    clear hd
    rw [bytes4 _ _ _ _ _ _ _ _ (by omega), bytes5 _ _ _ _ _ _ _ _ (by omega) (by omega)]
    obtain ⟨m, hm⟩ := bytes6 (a + b + (c + d)) (b + c + (d + e)) (c + d + (e + f)) (d + e + (f + g)) [f + g + h, g + h, h] (e + f + (g + h)) (by omega) (by omega) (by omega) (by omega) (by omega)
    rw [hm, Nat.add_mul_mod_self_left, Nat.mod_eq_of_lt (by omega)]
    simp only [List.sum_cons, List.sum_nil]
    omega
/-- OnesCount64's own steps tell how many bits are set -/
theorem pop_is (x : Nat) (hx : x < 18446744073709551616) : pop6 (pop5 (pop4 (pop3 (pop2 (pop1 x))))) % 128 = pop x := by
  obtain ⟨ds, e, hl, hd, hs⟩ := pop_three x hx
  rw [e, pop_bytes ds hl hd, hs]
end Go.Proofs.YtccccbkllplojaaDoor
