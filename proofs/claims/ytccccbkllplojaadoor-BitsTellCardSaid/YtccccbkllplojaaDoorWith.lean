/-
  Contracts of With and Without of package bits. No condition beyond those that each theorem states.
-/
import Derived.Test.YtccccbkllplojaaDoorROf
namespace Go.Proofs.YtccccbkllplojaaDoor
open Go.RowKit
set_option linter.unusedSimpArgs false
set_option linter.unusedVariables false

theorem has_or {t a b : List Nat} (h : ∀ i, t.getD i 0 = a.getD i 0 ||| b.getD i 0) (k : Nat) : has t k = (has a k || has b k) := by
  unfold has; rw [h, Nat.testBit_or]
theorem has_and {t a b : List Nat} (h : ∀ i, t.getD i 0 = a.getD i 0 &&& b.getD i 0) (k : Nat) : has t k = (has a k && has b k) := by
  unfold has; rw [h, Nat.testBit_and]
theorem has_less {t a b : List Nat} (fb : Fit b) (h : ∀ i, t.getD i 0 = wdiff (a.getD i 0) (b.getD i 0)) (k : Nat) : has t k = (has a k && !has b k) := by
  unfold has; rw [h, wdiff_bit _ _ _ (fb.getD _) (by omega)]
theorem nums_one (w : World) (n : Int) : Nums (w.alloc (.cells #[.int .i64 n] 3)) (.slice (some ⟨w.heap.size, 0, none⟩) 1 1) [n] := by
  refine ⟨_, 1, rfl, by simp, by simp, fun i hi => ⟨_, _, rfl, ?_⟩⟩
  have : i = 0 := by simp at hi; omega
  subst this
  exact cell_one_new w (.int .i64 n) 3 0 _ rfl
theorem alloc_below (w : World) (o : Obj) : Below w.heap.size w (w.alloc o) := (Below.refl _ _).alloc (Nat.le_refl _) o
theorem Own.mono {B B' : Nat} {w : World} {v : Value} {l : List Nat} (h : Own B w v l) (hb : B' ≤ B) : Own B' w v l := World.ownsRow.mono h hb
theorem OwnI.mono {B B' : Nat} {w : World} {v : Value} {l : List Nat} (h : OwnI B w v l) (hb : B' ≤ B) : OwnI B' w v l := World.ownsRow.mono h hb

theorem with_ok (w : World) (v : Value) (l : List Nat) (n : Int) (hv : Words w v l) (hl : l.length ≤ 1024) (hf : Fit l) :
    Calls Tryd.prog 19 #[v, .int .i64 n] w fun e w' => ∃ v' t, e = .returned v' ∧ Own w.heap.size w' v' t ∧ t.length ≤ 1024 ∧ Tidy t ∧ Fit t ∧ (∀ k : Nat, has t k = true ↔ has l k = true ∨ ((k : Int) = n ∧ k < 65536)) ∧ Below w.heap.size w w' := by
  have ho := of_ok _ _ _ (nums_one w n) (by simp)
  have HO := (show Hid (∀ W u m, Below w.heap.size w W → Words W u m → m.length ≤ 1024 → Fit m → Calls Tryd.prog 21 #[v, u] W fun e w' => ∃ v' t, e = .returned v' ∧ Own W.heap.size w' v' t ∧ t.length ≤ 1024 ∧ Tidy t ∧ Fit t ∧ (∀ i, t.getD i 0 = l.getD i 0 ||| m.getD i 0) ∧ Below W.heap.size W w') from
    fun W u m hb hu hm fm => or_ok W v u l m (hv.below hb) hu hl hm hf fm)
  go_enter Tryd.func19, Tryd.ntmps19
  go_wp2_with fail
  refine ho.mono ?_
  rintro e w2 ⟨v2, t2, rfl, ho2, hl2, ht2, hf2, hh2, hb2⟩
  have hsz : w.heap.size ≤ (w.alloc (.cells #[.int .i64 n] 3)).heap.size := by simp
  have hbb := (alloc_below w (.cells #[.int .i64 n] 3)).trans (hb2.mono hsz)
  have hor := HO.out w2 v2 t2 hbb ho2.words hl2 hf2
  clear ho HO
  go_wp2_with fail
  refine hor.mono ?_
  rintro e w3 ⟨v3, t3, rfl, ho3, hl3, ht3, hf3, hg3, hb3⟩
  clear hor
  go_wp2_with fail
  go_ret
  refine ⟨_, t3, rfl, ho3.mono hbb.size, hl3, ht3, hf3, fun k => ?_, hbb.trans (hb3.mono hbb.size)⟩
  rw [has_or hg3, Bool.or_eq_true, hh2]
  simp
theorem without_ok (w : World) (v : Value) (l : List Nat) (n : Int) (hv : Words w v l) (hl : l.length ≤ 1024) (hf : Fit l) :
    Calls Tryd.prog 20 #[v, .int .i64 n] w fun e w' => ∃ v' t, e = .returned v' ∧ Own w.heap.size w' v' t ∧ t.length ≤ 1024 ∧ Tidy t ∧ Fit t ∧ (∀ k : Nat, has t k = true ↔ has l k = true ∧ ¬ (k : Int) = n) ∧ Below w.heap.size w w' := by
  have ho := of_ok _ _ _ (nums_one w n) (by simp)
  have HO := (show Hid (∀ W u m, Below w.heap.size w W → Words W u m → m.length ≤ 1024 → Fit m → Calls Tryd.prog 23 #[v, u] W fun e w' => ∃ v' t, e = .returned v' ∧ Own W.heap.size w' v' t ∧ t.length ≤ 1024 ∧ Tidy t ∧ Fit t ∧ (∀ i, t.getD i 0 = wdiff (l.getD i 0) (m.getD i 0)) ∧ Below W.heap.size W w') from
    fun W u m hb hu hm fm => less_ok W v u l m (hv.below hb) hu hl hm hf fm)
  go_enter Tryd.func20, Tryd.ntmps20
  go_wp2_with fail
  refine ho.mono ?_
  rintro e w2 ⟨v2, t2, rfl, ho2, hl2, ht2, hf2, hh2, hb2⟩
  have hsz : w.heap.size ≤ (w.alloc (.cells #[.int .i64 n] 3)).heap.size := by simp
  have hbb := (alloc_below w (.cells #[.int .i64 n] 3)).trans (hb2.mono hsz)
  have hor := HO.out w2 v2 t2 hbb ho2.words hl2 hf2
  clear ho HO
  go_wp2_with fail
  refine hor.mono ?_
  rintro e w3 ⟨v3, t3, rfl, ho3, hl3, ht3, hf3, hg3, hb3⟩
  clear hor
  go_wp2_with fail
  go_ret
  refine ⟨_, t3, rfl, ho3.mono hbb.size, hl3, ht3, hf3, fun k => ?_, hbb.trans (hb3.mono hbb.size)⟩
  rw [has_less hf2 hg3, Bool.and_eq_true, Bool.not_eq_true', Bool.eq_false_iff, Ne, hh2]
  have hk := has_lt (l := l) (n := k)
  constructor
  · rintro ⟨h1, h2⟩
    exact ⟨h1, fun e => h2 ⟨by simp [e], by have := hk h1; omega⟩⟩
  · rintro ⟨h1, h2⟩
    refine ⟨h1, ?_⟩
    rintro ⟨h3, _⟩
    exact h2 (by simpa using h3)
end Go.Proofs.YtccccbkllplojaaDoor
