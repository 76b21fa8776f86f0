/-
  Contract of the answer's Of. No condition beyond those that each theorem states.
-/
import Derived.Test.YtccccbkllplojaaDoorOf
namespace Go.Proofs.YtccccbkllplojaaDoor
open Go.RowKit
set_option linter.unusedSimpArgs false
set_option linter.unusedVariables false

theorem own_form {B : Nat} {w : World} {v : Value} {t : List Nat} (h : Own B w v t) (hp : 0 < t.length) : ∃ g cap, v = .slice (some ⟨g, 0, none⟩) t.length cap ∧ B ≤ g := by
  unfold Own at h
  rcases h.2 with ⟨rfl, h0⟩ | ⟨g, cap, cur, rfl, hg, _⟩
  · omega
  · exact ⟨g, cap, rfl, hg⟩
theorem own_shape {B : Nat} {w : World} {v : Value} {t : List Nat} (h : Own B w v t) : ∃ a cap, v = .slice a t.length cap := by
  unfold Own at h
  rcases h.2 with ⟨rfl, h0⟩ | ⟨g, cap, cur, rfl, _⟩
  · exact ⟨none, 0, by rw [h0]⟩
  · exact ⟨_, _, rfl⟩
theorem one_word (x : Nat) : ∀ u ∈ [word x], u.oneCell' = true := by
  intro u hu
  simp at hu
  subst hu
  rfl
theorem getD_app_zero (t : List Nat) (j : Nat) : (t ++ [0]).getD j 0 = t.getD j 0 := by
  simp only [List.getD_eq_getElem?_getD, List.getElem?_append]
  split
  · rfl
  · rename_i h
    rw [List.getElem?_eq_none (by omega : t.length ≤ j)]
    cases h' : j - t.length with
    | zero => simp
    | succ n => simp

set_option maxRecDepth 100000 in
theorem rof_ok (w : World) (v : Value) (l : List Int) (hv : Nums w v l) (hl : l.length ≤ 100000) (hr : ∀ x ∈ l, 0 ≤ x ∧ x < 65536) :
    Calls Tryd.prog 16 #[v] w fun e w' => ∃ v' t, e = .returned v' ∧ Own w.heap.size w' v' t ∧ t.length ≤ 1024 ∧ Tidy t ∧ Fit t ∧ (∀ m : Nat, has t m = true ↔ (m : Int) ∈ l) ∧ Below w.heap.size w w' := by
  obtain ⟨i0, hi, hz0, hz1, hz2⟩ := info_parts info41
  obtain ⟨a, n, cap, rfl, h1⟩ := Nums.nn hv
  have hn : Hid (n ≤ 100000) := by have := h1.len.out; exact (show n ≤ 100000 by omega)
  have hn63 : (n : Int) ≤ 9223372036854775806 := by have := hn.out; omega
  have hln := h1.len
  have HR := (show Hid _ from hr)
  clear hv hl hr
  go_enter Tryd.func16, Tryd.ntmps16
  go_wp2_with fail
  go_loopg [3, 4] n (fun g s3 n0 W => ∃ (q : Nat) (t : List Nat), n0 = .int .i64 q ∧ g + q = n ∧ Own w.heap.size W s3 t ∧ t.length ≤ 1024 ∧ Tidy t ∧ Fit t ∧ Hid (∀ m : Nat, has t m = true ↔ (m : Int) ∈ l.take q) ∧ Below w.heap.size w W)
  case atStart =>
    refine ⟨0, [], rfl, by omega, World.ownsRow_nil _ _ _ _, by simp, Or.inl rfl, fun x hx => by simp at hx, fun m => ?_, Below.refl _ _⟩
    simp [has]
  case round =>
    obtain ⟨q, t, rfl, hq, hown, htl, htidy, hfit, Hhas, hb⟩ := hrel
    by_cases hqn : q < n
    · obtain ⟨b1, o1, rfl, hc⟩ := (h1.below hb).at_ q hqn
      have hmem := mem_take_succ l q (by have := hln.out; omega)
      have hin := HR.out (l.getD q 0) (by rw [igetD_lt l q (by have := hln.out; omega)]; exact List.getElem_mem _)
      have Hmem := (show Hid _ from hmem)
      have Hcell := (show Hid (∀ W, Below w.heap.size w W → W.cell? ⟨b1, o1 + q, none⟩ = some (.int .i64 (l.getD q 0))) from fun W hb => by
        obtain ⟨b2, o2, e, hc⟩ := (h1.below hb).at_ q hqn
        cases e
        exact hc)
      clear hmem
      generalize l.getD q 0 = x at hc Hmem hin Hcell
      obtain ⟨m, rfl⟩ : ∃ m : Nat, x = m := ⟨x.toNat, by omega⟩
      have hm65 : m < 65536 := by omega
      obtain ⟨gko, rfl⟩ : ∃ x : Nat, x = gk := ⟨_, rfl⟩
      obtain ⟨sa, sc, hs3⟩ := own_shape hown
      rw [hs3] at hown
      subst hs3
      go_wp2_with fail
      go_loopg [3] (m / 64 + 1) (fun g s3 W => ∃ (t1 : List Nat), Own w.heap.size W s3 t1 ∧ t1.length ≤ 1024 ∧ Fit t1 ∧ Hid (∀ j, t1.getD j 0 = t.getD j 0) ∧ Hid (t1 = t ∨ t1.length ≤ m / 64 + 1) ∧ m / 64 + 1 ≤ g + t1.length ∧ Below w.heap.size w W)
      case atStart => exact ⟨t, hown, htl, hfit, fun j => rfl, Or.inl rfl, by omega, hb⟩
      case round =>
        clear hown hb hc
        obtain ⟨t1, hown, htl1, hfit1, Hget, Hlen, hg, hb⟩ := hrel
        have hc := Hcell.out wr hb
        have hown' := hown
        obtain ⟨sa, sc, hs3⟩ := own_shape hown
        rw [hs3] at hown
        subst hs3
        by_cases hlt : t1.length ≤ m / 64
        · have hlz : (t1.length : Int) ≤ (m : Int) / 64 := by omega
          have hsz : w.heap.size ≤ wr.heap.size := hb.size
          unfold Own at hown
          clear hown'
          have Hl2 : Hid (t1.length + 1 ≤ 1024) := (show _ ≤ _ from by omega)
          go_wp2_with (at_builtin; refine wpList_append_own _ rfl _ _ 22 rfl w.heap.size 41 i0 (.int .u64 0) 1 8 Tryd.underlying22 hi hz0 hz1 hz2 rfl (by decide) _ _ _ rfl (World.ownsRow.alloc hown _) ⟨wr.heap.size, 0, none⟩ 1 1 [word 0] rfl rfl (cell_one_new _ _ _) (one_word _) (by have := Hl2.out; unfold maxLen; omega) (by have := Hl2.out; omega) (by simp; omega) ?_; intro v' w5 hown5 hgrow5 _)
          go_roundg (gk - 1)
          case measure => omega
          case rel =>
            refine ⟨t1 ++ [0], ?_, by simp; omega, ?_, fun j => by rw [getD_app_zero]; exact Hget.out j, Or.inr (by simp; omega), by simp; omega, ?_⟩
            · simpa [Own] using hown5
            · intro x hx
              rcases List.mem_append.1 hx with h | h
              · exact hfit1 x h
              · simp at h; omega
            · exact (hb.alloc hsz _).grown hgrow5 (by simp; omega) (own_block hown)
        · have hlz : ¬ ((t1.length : Int) ≤ (m : Int) / 64) := by omega
          have hmN : m / 64 < t1.length := by omega
          obtain ⟨g, sc', hs, hgB⟩ := own_form hown' (by omega)
          cases hs
          clear hown'
          unfold Own at hown
          have hcell := row_cell hown rfl (m / 64) hmN
          have hfz := World.ownsRow.frozenAt hown (m / 64)
          have hx := hfit1.getD (m / 64)
          have hp := shl_one (m % 64) (by omega)
          rw [Int.one_mul] at hp
          have hor := bits_or_u64_nat (t1.getD (m / 64) 0) (2 ^ (m % 64)) hx (Nat.pow_lt_pow_right (n := 64) (by omega) (by omega))
          have Hhas' : Hid (∀ k : Nat, has (t1.set (m / 64) (t1.getD (m / 64) 0 ||| 2 ^ (m % 64))) k = true ↔ (k : Int) ∈ l.take (q + 1)) := by
            intro k
            rw [has_set t1 m k (by omega), Hmem.out, Bool.or_eq_true, has_of_getD Hget.out, Hhas.out k, decide_eq_true_eq]
            constructor
            · rintro (h1 | rfl)
              · exact Or.inl h1
              · exact Or.inr rfl
            · rintro (h1 | h1)
              · exact Or.inl h1
              · exact Or.inr (by omega)
          have hfit' := set_fit hfit1 (m / 64) _ (or_bit_lt _ (m % 64) hx (by omega))
          have htl' : (t1.set (m / 64) (t1.getD (m / 64) 0 ||| 2 ^ (m % 64))).length = t1.length := List.length_set
          have Htidy' : Hid (Tidy (t1.set (m / 64) (t1.getD (m / 64) 0 ||| 2 ^ (m % 64)))) := by
            right
            rw [htl', getD_set t1 _ _ _ hmN]
            have hpos := Nat.two_pow_pos (m % 64)
            by_cases h : t1.length - 1 = m / 64
            · rw [if_pos h]
              intro h0
              have := (Nat.or_eq_zero_iff.1 h0).2
              omega
            · rw [if_neg h, Hget.out]
              rcases Hlen.out with h2 | h2
              · rw [h2]
                rcases htidy with h3 | h3
                · rw [h2] at hmN; omega
                · exact h3
              · omega
          have hst := fun (W : World) (h : W.ownsRow w.heap.size 41 1 (.slice (some ⟨g, 0, none⟩) t1.length sc) t1.length (t1.map word)) => row_set h (m / 64) (t1.getD (m / 64) 0 ||| 2 ^ (m % 64))
          generalize t1.set (m / 64) (t1.getD (m / 64) 0 ||| 2 ^ (m % 64)) = t' at Hhas' hfit' htl' hst Htidy'
          generalize t1.getD (m / 64) 0 = y at hcell hor hst
          generalize y ||| 2 ^ (m % 64) = z at hor hst
          generalize (2 : Nat) ^ (m % 64) = p at hor hp
          generalize hk : t1.length = k at *
          have hmK : (m : Int) / 64 < (k : Int) := by omega
          have HS := (show Hid _ from And.intro hst (And.intro hown hb))
          have HT := (show Hid _ from htl')
          have HK := (show Hid _ from And.intro hk hgB)
          clear hst hown hb hfit hfit1 htl Hhas hx Hmem htl' hk Hlen Hget htidy hgB
          go_wp2_with fail
          go_region
          all_goals
            go_wp2_with fail
            go_roundg (gko - 1)
            case measure => omega
            case rel => exact ⟨q + 1, t', by go_num, by omega, by unfold Own; rw [HT.out]; exact HS.out.1 _ HS.out.2.1, by rw [HT.out]; exact htl1, Htidy'.out, hfit', Hhas', (HS.out.2.2.setCell HK.out.2 _).drew⟩
    · obtain rfl : q = n := by omega
      have Hh2 : Hid (∀ m : Nat, has t m = true ↔ (m : Int) ∈ l) := by
        intro m
        rw [Hhas.out m, List.take_of_length_le (by rw [hln.out]; exact Nat.le_refl _)]
      clear Hhas
      go_wp2_with fail
      go_ret
      exact ⟨_, t, rfl, hown, htl, htidy, hfit, Hh2.out, hb⟩
end Go.Proofs.YtccccbkllplojaaDoor
