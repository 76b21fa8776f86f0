/-
  The set of two numbers that each statement asks at its end. No condition beyond those that each theorem states.
-/
import Derived.Test.YtccccbkllplojaaDoorWith
import Derived.Test.YtccccbkllplojaaDoorNext
import Derived.Test.YtccccbkllplojaaDoorKey
import Derived.Test.YtccccbkllplojaaDoorList
namespace Go.Proofs.YtccccbkllplojaaDoor
open Go.RowKit
set_option linter.unusedSimpArgs false
set_option linter.unusedVariables false

theorem has21 (m : Nat) : has [2, 1] m = true ↔ m = 64 ∨ m = 1 := by
  have h : ∀ m, m < 128 → (has [2, 1] m = true ↔ m = 64 ∨ m = 1) := by decide +kernel
  rcases Nat.lt_or_ge m 128 with h1 | h1
  · exact h m h1
  · rw [has_ge _ _ (by simpa using h1)]
    simp; omega
theorem fit21 : Fit [2, 1] := by intro x hx; simp at hx; omega
theorem tidy21 : Tidy [2, 1] := by right; decide
theorem next21 {r : Int} (h : IsNext [2, 1] 2 r) : r = 64 := by
  rcases h with ⟨_, h⟩ | ⟨m, rfl, h1, h2, h3⟩
  · have := h 64 ((has21 64).2 (by simp)); omega
  · rcases (has21 m).1 h1 with rfl | rfl
    · rfl
    · omega
theorem lst21 : (lst [2, 1]).length = 2 := by decide +kernel
theorem key21 : keyOf' [2, 1] = ⟨#[2, 0, 0, 0, 0, 0, 0, 0, 1, 0, 0, 0, 0, 0, 0, 0]⟩ := by
  have h : seenl [2, 1] = [2, 1] := tidy_seen tidy21
  unfold keyOf'
  rw [h]
  decide +kernel
theorem nums_two (w : World) (a b : Int) : Nums (w.alloc (.cells #[.int .i64 a, .int .i64 b] 3)) (.slice (some ⟨w.heap.size, 0, none⟩) 2 2) [a, b] := by
  have hh : (w.alloc (.cells #[.int .i64 a, .int .i64 b] 3)).heap[w.heap.size]? = some (.cells #[.int .i64 a, .int .i64 b] 3) := by
    show (w.heap.push _)[w.heap.size]? = _
    simp
  refine ⟨_, 2, rfl, by simp, by simp, fun i hi => ⟨_, _, rfl, ?_⟩⟩
  have : i = 0 ∨ i = 1 := by simp at hi; omega
  rcases this with rfl | rfl <;> simp only [World.cell?, hh] <;> rfl

theorem works_ok (w : World) (hT : Tab 0 w) : Calls Tryd.prog 13 #[] w fun e w' => e = .returned (.bool true) ∧ Below w.heap.size w w' := by
  have ho := of_ok _ _ _ (nums_two w 64 1) (by simp)
  go_enter Tryd.func13, Tryd.ntmps13
  go_wp2_with fail
  refine ho.mono ?_
  rintro e w2 ⟨v2, t2, rfl, ho2, hl2, ht2, hf2, hh2, hb2⟩
  obtain rfl : t2 = [2, 1] := by
    refine set_ext ht2 tidy21 hf2 fit21 fun m => ?_
    rw [Bool.eq_iff_iff, hh2, has21]
    simp; omega
  have hsz : w.heap.size ≤ (w.alloc (.cells #[.int .i64 64, .int .i64 1] 3)).heap.size := by simp
  have hbb := (alloc_below w (.cells #[.int .i64 64, .int .i64 1] 3)).trans (hb2.mono hsz)
  have hW := ho2.words
  have hT2 := hT.below hbb
  have c1 := next_ok w2 v2 _ 2 (by omega) hW (by simp) fit21 hT2
  have c2 := count_ok w2 v2 _ hW (by simp) fit21
  have c3 := has_ok w2 v2 _ 1 hW (by simp) fit21
  have c4 := has_ok w2 v2 _ 2 hW (by simp) fit21
  have c5 := key_ok w2 v2 _ hW (by simp) fit21
  rw [lst21] at c2
  rw [show (decide ((0:Int) ≤ 1 ∧ (1:Int) < 65536) && has [2, 1] (1:Int).toNat) = true from by decide +kernel] at c3
  rw [show (decide ((0:Int) ≤ 2 ∧ (2:Int) < 65536) && has [2, 1] (2:Int).toNat) = false from by decide +kernel] at c4
  rw [key21] at c5
  obtain ⟨a, n, cap, rfl, hn⟩ := Words.wn hW
  have hn2 : n = 2 := by have := hn.len.out; simp at this; omega
  subst hn2
  obtain ⟨b1, o1, rfl, h0⟩ := hn.at_ 0 (by omega)
  obtain ⟨b2, o2, e, h1⟩ := hn.at_ 1 (by omega)
  cases e
  simp at h0 h1
  clear ho hW ho2 hT hn hb2 hsz hh2 ht2 hf2
  have HB := (show Hid _ from hbb)
  clear hbb
  go_wp2_with fail
  refine c1.mono ?_
  rintro e w' ⟨r, rfl, hr, rfl⟩
  obtain rfl := next21 hr
  go_wp2_with fail
  refine c2.mono ?_
  rintro e w' ⟨rfl, rfl⟩
  go_wp2_with fail
  refine c3.mono ?_
  rintro e w' ⟨rfl, rfl⟩
  go_wp2_with fail
  refine c4.mono ?_
  rintro e w' ⟨rfl, rfl⟩
  go_wp2_with fail
  refine c5.mono ?_
  rintro e w3 ⟨rfl, hb3⟩
  clear c1 c2 c3 c4 c5
  go_wp2_with fail
  go_ret
  exact ⟨by rfl, HB.out.trans (hb3.mono HB.out.size)⟩
end Go.Proofs.YtccccbkllplojaaDoor
