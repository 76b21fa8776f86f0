/-
  Contracts of List of package bits and of the answer's List. No condition beyond those that each theorem states.
-/
import Derived.Test.YtccccbkllplojaaDoorTells
import Derived.Deep.Onto
namespace Go.Proofs.YtccccbkllplojaaDoor
open Go.RowKit
set_option linter.unusedSimpArgs false
set_option linter.unusedVariables false

theorem cell_one_new (w : World) (x : Value) (t : TypeId) : ∀ j u, ([x] : List Value)[j]? = some u → (w.alloc (.cells #[x] t)).cell? ((⟨w.heap.size, 0, none⟩ : Addr).add j) = some u := by
  intro j u hu
  cases j with
  | zero =>
    obtain rfl : x = u := by simpa using hu
    show (w.alloc (.cells #[x] t)).cell? ⟨w.heap.size, 0, none⟩ = some x
    have : (w.alloc (.cells #[x] t)).heap[w.heap.size]? = some (.cells #[x] t) := by
      show (w.heap.push _)[w.heap.size]? = _
      simp
    simp only [World.cell?, this]
    rfl
  | succ j => simp at hu
theorem one_int (k : IntKind) (x : Int) : ∀ u ∈ [Value.int k x], u.oneCell' = true := by
  intro u hu
  simp at hu
  subst hu
  rfl
theorem own_block {B : Nat} {w : World} {e : TypeId} {n : Nat} {v : Value} {xs : List Value} (h : w.ownsRow B e 1 v n xs) : ∀ k, v.ownBlock = some k → B ≤ k := fun k hk => (World.ownsRow.lt h k hk).1

set_option maxRecDepth 100000 in
theorem rlist_ok (w : World) (v : Value) (l : List Nat) (hv : Words w v l) (hl : l.length ≤ 1024) (hf : Fit l) :
    Calls Tryd.prog 14 #[v] w fun e w' => ∃ v', e = .returned v' ∧ OwnI w.heap.size w' v' (lst l) ∧ Below w.heap.size w w' := by
  obtain ⟨i0, hi, hz0, hz1, hz2⟩ := info_parts info3
  have hR := (show Hid (∀ (W : World) (n : Int), Below w.heap.size w W → Calls Tryd.prog 18 #[v, .int .i64 n] W fun e w' => e = .returned (.bool (decide (0 ≤ n ∧ n < 65536) && has l n.toNat)) ∧ W = w') from fun W n hb => rhas_ok W v l n (hv.below hb) hl hf)
  have hfin := (show Hid (∀ q, 64 * l.length ≤ q → (List.range q).filter (has l) = lst l) from fun q h => lst_range l q h)
  obtain ⟨a, n, cap, rfl, hu⟩ := Words.wn hv
  have hn : n ≤ 1024 := by have := hu.len.out; omega
  have hln := hu.len
  clear hl
  go_enter Tryd.func14, Tryd.ntmps14
  go_wp2_with fail
  go_loopg [3, 4] (64 * n) (fun g v3 n0 W => ∃ (q : Nat), n0 = .int .i64 q ∧ g + q = 64 * n ∧ OwnI w.heap.size W v3 ((List.range q).filter (has l)) ∧ Below w.heap.size w W)
  case atStart => exact ⟨0, rfl, by omega, World.ownsRow_nil _ _ _ _, Below.refl _ _⟩
  case round =>
    obtain ⟨q, rfl, hq, ho, hb⟩ := hrel
    by_cases hqn : q < 64 * n
    · have hc := hR.out wr q hb
      have hd : (decide ((0 : Int) ≤ (q : Int) ∧ (q : Int) < 65536) && has l ((q : Int)).toNat) = has l q := by
        rw [decide_eq_true (by omega), Bool.true_and, Int.toNat_natCast]
      rw [hd] at hc
      have hacc : (List.range (q + 1)).filter (has l) = (List.range q).filter (has l) ++ (if has l q then [q] else []) := by
        rw [List.range_succ, List.filter_append]
        simp [List.filter_cons]
      have hlen : Hid (((List.range q).filter (has l)).length ≤ 65536) := Nat.le_trans (List.length_filter_le _ _) (by simp; omega)
      have hq65 : (q : Int) < 65536 := by omega
      have hq64 : (q : Int) / 64 < (n : Int) := by omega
      have Hacc := (show Hid _ from hacc)
      clear hacc hd
      generalize (List.range q).filter (has l) = acc at ho hlen Hacc
      by_cases hh : has l q = true
      · rw [hh] at hc
        have Hacc : Hid ((List.range (q + 1)).filter (has l) = acc ++ [q]) := by have := Hacc.out; rwa [hh, if_pos rfl] at this
        clear hh
        go_wp2_with fail
        refine hc.mono ?_
        rintro e w' ⟨rfl, rfl⟩
        clear hc
        have hsz : w.heap.size ≤ wr.heap.size := hb.size
        unfold OwnI at ho
        go_wp2_with (at_builtin; refine wpList_append_own _ rfl _ _ 24 rfl w.heap.size 3 i0 (.int .i64 0) 1 8 Tryd.underlying24 hi hz0 hz1 hz2 rfl (by decide) _ _ _ rfl (World.ownsRow.alloc ho _) ⟨wr.heap.size, 0, none⟩ 1 1 [.int .i64 ((q : Nat) : Int)] rfl rfl (cell_one_new _ _ _) (one_int _ _) (by have := hlen.out; unfold maxLen; omega) (by have := hlen.out; omega) (by simp; omega) ?_; intro v' w5 hown5 hgrow5 _)
        go_roundg (gk - 1)
        case measure => omega
        case rel =>
          refine ⟨q + 1, by go_num, by omega, ?_, ?_⟩
          · rw [Hacc.out]; simpa [OwnI] using hown5
          · exact (hb.alloc hsz _).grown hgrow5 (by simp; omega) (own_block ho)
      · have hh' : has l q = false := by simpa using hh
        rw [hh'] at hc
        have Hacc : Hid ((List.range (q + 1)).filter (has l) = acc) := by have := Hacc.out; rwa [hh', if_neg (by simp), List.append_nil] at this
        clear hh hh'
        go_wp2_with fail
        refine hc.mono ?_
        rintro e w' ⟨rfl, rfl⟩
        clear hc
        go_wp2_with fail
        go_roundg (gk - 1)
        case measure => omega
        case rel => exact ⟨q + 1, by go_num, by omega, by rw [Hacc.out]; exact ho, hb⟩
    · obtain rfl : q = 64 * n := by omega
      have ho' : OwnI w.heap.size wr u3 (lst l) := by rw [← hfin.out (64 * n) (by rw [hln.out]; exact Nat.le_refl _)]; exact ho
      clear ho
      by_cases h1024 : n = 1024
      · subst h1024
        go_wp2_with fail
        go_ret
        exact ⟨_, rfl, ho', hb⟩
      · have hq65 : ((64 * n : Nat) : Int) < 65536 := by omega
        have hq64 : ((64 * n : Nat) : Int) / 64 = (n : Int) := by omega
        generalize 64 * n = q at *
        go_wp2_with fail
        go_ret
        exact ⟨_, rfl, ho', hb⟩
end Go.Proofs.YtccccbkllplojaaDoor
