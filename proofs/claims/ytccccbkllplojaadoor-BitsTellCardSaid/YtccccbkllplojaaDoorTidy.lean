/-
  Contract of tidy of package bits; facts on rows that a call has made. No condition beyond those that each theorem states.
-/
import Derived.Test.YtccccbkllplojaaDoorNums
import Derived.Laws.CopyOwn
import Derived.WalkLawsBesides
import Derived.WalkSpells
import Derived.BigQuiet
import Derived.BigRegion
import Derived.Deep.QuietTactic
import Derived.Deep.RegionLaw
import Derived.Deep.DeepCutAuto
import Derived.Deep.CutBlock
import Derived.Deep.Draws
namespace Go.Proofs.YtccccbkllplojaaDoor
open Go.RowKit
set_option linter.unusedSimpArgs false
set_option linter.unusedVariables false

theorem info41 : (Tryd.prog.info? 41).map (fun i => (i.zero, i.size, i.bytes)) = some (some (.int .u64 0), 1, 8) := by kernel_rfl
theorem info3 : (Tryd.prog.info? 3).map (fun i => (i.zero, i.size, i.bytes)) = some (some (.int .i64 0), 1, 8) := by kernel_rfl
theorem size41 : (Tryd.prog.info? 41).map (·.size) = some 1 := by kernel_rfl

theorem own_heap {w : World} {B e g n : Nat} {xs : List Value} (h : w.ownsRow B e 1 (.slice (some ⟨g, 0, none⟩) n n) n xs) : w.heap[g]? = some (.cells xs.toArray e (0, 0)) ∧ B ≤ g := by
  have hl := h.1
  rcases h.2 with ⟨h', _⟩ | ⟨g', cap', cur, h', hb, hg, h1, h2, h3, h4⟩
  · simp at h'
  · simp only [Value.slice.injEq, Option.some.injEq, Addr.mk.injEq, and_true, true_and] at h'
    obtain ⟨rfl, rfl⟩ := h'
    refine ⟨?_, hb⟩
    rw [hg, ← h4, List.take_of_length_le (by simp; omega)]
theorem heap_own {w : World} {B e g n : Nat} {xs : List Value} (h : w.heap[g]? = some (.cells xs.toArray e (0, 0))) (hb : B ≤ g) (hn : xs.length = n) (hm : n ≤ maxLen) : w.ownsRow B e 1 (.slice (some ⟨g, 0, none⟩) n n) n xs :=
  ⟨by rw [hn, Nat.mul_one], .inr ⟨g, n, xs.toArray, rfl, hb, h, Nat.le_refl _, hm, by simp [hn], List.take_of_length_le (by simp [hn])⟩⟩
theorem words_made (n : Nat) : (madeCells (Value.cells (.int .u64 0)) (n * 1)).toList = (List.replicate n 0).map word := by
  rw [Nat.mul_one]
  have : Value.cells (.int .u64 0) = #[.int .u64 0] := rfl
  rw [this, toList_madeCells_one]
  simp [word]
theorem words_one (l : List Nat) : ∀ u ∈ l.map word, u.oneCell' = true := by
  intro u hu
  obtain ⟨x, _, rfl⟩ := List.mem_map.1 hu
  rfl
theorem splice_all {α : Type} (Z X : List α) (h : Z.length = X.length) : splice Z 0 X = X := by
  simp [splice, h]

theorem seen_at (w : World) (v : Value) (l : List Nat) (hv : Words w v l) (hl : l.length ≤ 1024) : Calls Tryd.prog 24 #[v] w fun e w' => ∃ a cap, e = .returned (.slice a (seenl l).length cap) ∧ Words w (.slice a (seenl l).length cap) (seenl l) ∧ w = w' := by
  refine (seen_ok w v l hv (by omega)).mono ?_
  rintro e w' ⟨v', rfl, ⟨a, cap, rfl, h⟩, rfl⟩
  exact ⟨a, cap, rfl, ⟨a, cap, rfl, h⟩, rfl⟩
/-- what tidy tells: a new row -/
theorem tidy_at (w : World) (v : Value) (l : List Nat) (hv : Words w v l) (hl : l.length ≤ 1024) :
    Calls Tryd.prog 28 #[v] w fun e w' => ∃ n, e = .returned (.slice (some ⟨w.heap.size, 0, none⟩) n n) ∧ Hid ((seenl l).length = n) ∧ w'.ownsRow w.heap.size 41 1 (.slice (some ⟨w.heap.size, 0, none⟩) n n) n ((seenl l).map word) ∧ Below w.heap.size w w' := by
  have hs := seen_at w v l hv hl
  have hle := seen_le l
  obtain ⟨a, cap, rfl, h1, h2, h3⟩ := hv
  obtain ⟨i0, hi, hz0, hz1, hz2⟩ := info_parts info41
  have hx : ∀ i, (hi : i < (seenl l).length) → l[i]? = some (seenl l)[i] := by
    intro i hi
    rw [List.getElem?_eq_getElem (by omega)]
    simp [seenl]
  generalize seenl l = m at hs hle hx ⊢
  have hcp : ∀ W : World, Below w.heap.size w W → 0 < (m.map word).length → ∃ ad, a = some ad ∧ ∀ j u, (m.map word)[j]? = some u → W.cell? (ad.add j) = some u := by
    intro W hb hpos
    have hm : 0 < m.length := by simpa using hpos
    obtain ⟨b, off, rfl, _⟩ := h3 0 (by omega)
    refine ⟨_, rfl, fun j u hu => ?_⟩
    have hj : j < m.length := by have := (List.getElem?_eq_some_iff.1 hu).1; simpa using this
    obtain ⟨b', off', e, hc⟩ := h3 j (by omega)
    cases e
    have he : l[j] = m[j] := by have := hx j hj; rw [List.getElem?_eq_getElem (by omega)] at this; exact Option.some.inj this
    have hu' : u = .int .u64 (m[j] : Nat) := by simp [hj, word] at hu; exact hu.symm
    have ha : (⟨b, off, none⟩ : Addr).add j = ⟨b, off + j, none⟩ := by
      unfold Addr.add
      split
      · rename_i h0; subst h0; rfl
      · rfl
    rw [hu', ← he, ha]
    exact (hb.cell (cell_lt hc)).trans hc
  go_enter Tryd.func28, Tryd.ntmps28
  go_wp2_with (first
    | (go_at_call 24; refine hs.mono ?_; rintro e w' ⟨a1, cap1, rfl, hw1, rfl⟩)
    | (at_make; refine wpList_make_full _ rfl _ _ 23 rfl w.heap.size 41 i0 (.int .u64 0) 1 Tryd.underlying23 hi hz0 hz1 _ _ _ _ m.length rfl rfl rfl rfl (by rw [hz2]; omega) (by unfold maxLen; omega) (Nat.le_refl _) ?_; intro w1 hown1 hgrow1; rw [words_made] at hown1; have hb1 : Below w.heap.size w w1 := (Below.refl _ _).grown hgrow1 (Nat.le_refl _) (fun k hk => by cases hk))
    | (with_reducible refine wpList_copy_splice rfl _ _ 23 23 rfl 41 Tryd.underlying23 size41 _ _ _ _ _ _ rfl rfl w.heap.size 0 _ 41 (own_heap hown1).1 (m.map word) (by simp [Nat.min_eq_right hle]) (fun h => ⟨rfl, hcp w1 hb1 h⟩) (by simp) (words_one m) w.heap.size w hb1 (Nat.le_refl _) ?_; intro w2 hh2 hb2; clear hown1 hgrow1))
  rw [splice_all _ _ (by simp)] at hh2
  go_ret
  exact ⟨_, rfl, rfl, heap_own hh2.out (Nat.le_refl _) (by simp) (by unfold maxLen; omega), hb2⟩
theorem tidy_ok (w : World) (v : Value) (l : List Nat) (hv : Words w v l) (hl : l.length ≤ 1024) :
    Calls Tryd.prog 28 #[v] w fun e w' => ∃ v', e = .returned v' ∧ Own w.heap.size w' v' (seenl l) ∧ Below w.heap.size w w' := by
  refine (tidy_at w v l hv hl).mono ?_
  rintro e w' ⟨n, rfl, hn, ho, hb⟩
  refine ⟨_, rfl, ?_, hb⟩
  unfold Own
  rw [hn.out]
  exact ho
/-- a row of words, its length a number of its own -/
structure Wn (w : World) (a : Option Addr) (n cap : Nat) (l : List Nat) : Prop where
  len : Hid (l.length = n)
  capLe : n ≤ cap
  nil : a = none → cap = 0
  at_ : ∀ i, i < n → ∃ b off, a = some ⟨b, off, none⟩ ∧ w.cell? ⟨b, off + i, none⟩ = some (.int .u64 ((l.getD i 0 : Nat) : Int))
theorem Words.wn {w : World} {v : Value} {l : List Nat} (h : Words w v l) : ∃ a n cap, v = .slice a n cap ∧ Wn w a n cap l := by
  obtain ⟨a, cap, rfl, h1, h2, h3⟩ := h
  refine ⟨a, _, cap, rfl, rfl, h1, h2, fun i hi => ?_⟩
  rw [getD_lt l i hi]
  exact h3 i hi
theorem Wn.words {w : World} {a : Option Addr} {n cap : Nat} {l : List Nat} (h : Wn w a n cap l) : Words w (.slice a n cap) l := by
  have hl : l.length = n := h.len
  subst hl
  refine ⟨a, cap, rfl, h.capLe, h.nil, fun i hi => ?_⟩
  have := h.at_ i hi
  rwa [getD_lt l i hi] at this
/-- what seen tells -/
theorem seen_n (w : World) (v : Value) (l : List Nat) (hv : Words w v l) (hl : l.length ≤ 1024) : Calls Tryd.prog 24 #[v] w fun e w' => ∃ a n cap, e = .returned (.slice a n cap) ∧ Wn w a n cap (seenl l) ∧ w = w' := by
  refine (seen_ok w v l hv (by omega)).mono ?_
  rintro e w' ⟨v', rfl, h, rfl⟩
  obtain ⟨a, n, cap, rfl, k⟩ := Words.wn h
  exact ⟨a, n, cap, rfl, k, rfl⟩
/-- the same, wherever the set lies as it does -/
theorem seen_w (w : World) (v : Value) (l : List Nat) (hv : Words w v l) (hl : l.length ≤ 1024) : Calls Tryd.prog 24 #[v] w fun e w' => ∃ a n cap, e = .returned (.slice a n cap) ∧ Wn w a n cap (seenl l) ∧ Hid (∀ W, Words W v l → Wn W a n cap (seenl l)) ∧ w = w' := by
  refine (seen_all w v l hv (by omega)).mono ?_
  rintro e w' ⟨v', rfl, h, rfl⟩
  obtain ⟨a, n, cap, rfl, k⟩ := Words.wn (h w hv)
  refine ⟨a, n, cap, rfl, k, fun W hW => ?_, rfl⟩
  obtain ⟨a1, n1, cap1, e, k⟩ := Words.wn (h W hW)
  cases e
  exact k
theorem Wn.below {w w' : World} {a : Option Addr} {n cap : Nat} {l : List Nat} (h : Wn w a n cap l) (hb : Below w.heap.size w w') : Wn w' a n cap l := by
  refine ⟨h.len, h.capLe, h.nil, fun i hi => ?_⟩
  obtain ⟨b, off, e, hc⟩ := h.at_ i hi
  exact ⟨b, off, e, (hb.cell (cell_lt hc)).trans hc⟩
theorem getD_ext {l m : List Nat} (hl : l.length = m.length) (h : ∀ i, i < l.length → l.getD i 0 = m.getD i 0) : l = m := by
  refine List.ext_getElem hl fun i h1 h2 => ?_
  have := h i h1
  rwa [getD_lt _ _ h1, getD_lt _ _ h2] at this
theorem drewN_below (B : Nat) (w : World) (n : Nat) : Below B w (w.drewN n) := ⟨rfl, rfl, rfl, Nat.le_refl _, fun _ _ => rfl⟩
end Go.Proofs.YtccccbkllplojaaDoor
