/-
  Contract of works: it returns true. No condition beyond those that each theorem states.
-/
import Derived.Test.YtkapilomliicdaaNo
namespace Go.Proofs.Ytkapilomliicdaa
open Go.RowKit Go.Maps
set_option linter.unusedSimpArgs false
set_option linter.unusedVariables false

theorem new_cs (r : Int) (w : World) : Calls Try.prog 5 #[.int .i64 r] w fun e w' => e = .returned (.pointer (some ⟨w.heap.size + 1, 0, none⟩)) ∧
    CS w' w.heap.size (w.heap.size + 1) w.heap.size (max 0 (min r 4096)) [] 0 0 0 ∧ Below w.heap.size w w' := by
  refine (new_any r w).mono ?_
  rintro e w' ⟨rfl, rfl⟩
  exact ⟨rfl, made_cs w _ _ rfl, ((Below.refl _ _).alloc (Nat.le_refl _) _).alloc (by simp) _⟩

theorem eql33 (w : World) : (Op.equalIn 10000 33 (.agg #[.int .i64 1, .int .i64 1, .int .i64 1]) (.agg #[.int .i64 1, .int .i64 1, .int .i64 1])).run Try.prog w = .ok true w := by kernel_rfl

theorem look_no {w : World} {B c m : Nat} {room s0 s1 s2 : Int} {L : List Ent} (h : CS w B c m room L s0 s1 s2) (k : ByteArray) (hk : k.size ≤ maxLen) (hn : k ∉ L.map Ent.k) :
    (Instr.lookup 31 (.map (some m)) (.string k) true).run Try.prog w = .ok (.tuple #[.pointer none, .bool false]) w := by
  rcases h.look k hk with h | ⟨xs, x, ys, rfl, rfl, _⟩
  · exact h.2
  · exact absurd (by simp) hn

theorem look_yes {w : World} {B c m : Nat} {room s0 s1 s2 : Int} {xs ys : List Ent} {x : Ent} (h : CS w B c m room (xs ++ x :: ys) s0 s1 s2) :
    (Instr.lookup 31 (.map (some m)) (.string x.k) true).run Try.prog w = .ok (.tuple #[.pointer (some ⟨x.b, 0, none⟩), .bool true]) w := by
  rcases h.look x.k (h.ksz x (by simp)) with h | ⟨xs', x', ys', e, hk, hl⟩
  · exact absurd (by simp) h.1
  · have hx : x' ∈ xs ++ x :: ys := by rw [e]; simp
    have : x' = x := by
      have hn := h.keys
      rw [List.nodup_iff_pairwise_ne, List.pairwise_map] at hn
      rcases List.mem_append.1 hx with h1 | h1
      · exact absurd hk ((List.pairwise_append.1 hn).2.2 x' h1 x (by simp))
      · rcases List.mem_cons.1 h1 with h1 | h1
        · exact h1
        · exact absurd hk.symm ((List.pairwise_cons.1 (List.pairwise_append.1 hn).2.1).1 x' h1)
    rw [← this, hk, this]
    rw [this, ← hk, this] at hl
    exact hl

theorem ab : (⟨#[97]⟩ : ByteArray) ≠ ⟨#[98]⟩ := by intro e; cases e

set_option maxHeartbeats 800000 in
theorem works_any (w : World) : Calls Try.prog 9 #[] w fun e w' => e = .returned (.bool true) ∧ Below w.heap.size w w' := by
  go_enter Try.func9, Try.ntmps9
  go_wp2_with fail
  refine (new_cs 1 w).mono ?_
  rintro e w1 ⟨rfl, h1, hB1⟩
  rw [show max 0 (min (1 : Int) 4096) = ((1 : Nat) : Int) from by omega] at h1
  have hsz : w.heap.size ≤ w1.heap.size := hB1.size
  generalize w.heap.size + 1 = c at h1 ⊢
  have hp := put_miss h1 (by omega) (by omega) (by simp) ⟨#[97]⟩ (by decide) 1 (by simp) hsz (look_no h1 _ (by decide) (by simp))
  go_wp2_with fail
  refine hp.mono ?_
  rintro e w2 ⟨rfl, b1, h2, hB2⟩
  clear hp
  simp only [List.take_nil, List.length_nil, Nat.sub_self, wrapN] at h2
  have hp := put_miss h2 (by omega) (by omega) (by simp) ⟨#[98]⟩ (by decide) 2 (by simp [Ne.symm ab]) (Nat.le_trans hsz hB2.size) (look_no h2 _ (by decide) (by simp [Ne.symm ab]))
  go_wp2_with fail
  refine hp.mono ?_
  rintro e w3 ⟨rfl, b2, h3, hB3⟩
  clear hp
  simp only [Nat.sub_self, List.take_zero, List.length_cons, List.length_nil, wrapN, Nat.zero_add, Nat.sub_zero] at h3
  have hp := get_miss h3 ⟨#[97]⟩ (look_no h3 _ (by decide) (by simp [ab]))
  go_wp2_with fail
  refine hp.mono ?_
  rintro e w4 ⟨rfl, h4, hB4⟩
  clear hp
  have hp := get_hit (xs := []) (ys := []) h4 (look_yes (xs := []) (ys := []) h4)
  go_wp2_with fail
  refine hp.mono ?_
  rintro e w5 ⟨rfl, h5, hB5⟩
  clear hp
  have hl := long_cs h5
  have w1 : wrap64 (0 + 1) = 1 := IntWalk.wrap64_in _ (by omega)
  have hst := stats_cs h5
  rw [w1] at hst
  clear w1
  simp only [List.append_nil, List.length_cons, List.length_nil] at hl
  go_wp2_with fail
  refine hl.mono ?_
  rintro e w' ⟨rfl, rfl⟩
  clear hl
  go_wp2_with fail
  refine hst.mono ?_
  rintro e w6 ⟨rfl, hB6⟩
  clear hst
  have hr := room_cs (h5.below hB6)
  have he := eql33 w6
  have Hh := (show Hid _ from And.intro hB5 (And.intro hB6 (And.intro hB4 (And.intro hB3 (And.intro hB2 hB1)))))
  clear hB1 hB2 hB3 hB4 hB5 hB6 h1 h2 h3 h4 h5
  go_wp2_with fail
  refine hr.mono ?_
  rintro e w' ⟨rfl, rfl⟩
  clear hr
  go_wp2_with fail
  go_ret
  obtain ⟨a5, a6, a4, a3, a2, a1⟩ := Hh.out
  refine ⟨rfl, ?_⟩
  have h5 := (((a1.trans a2).trans a3).trans a4).trans a5
  exact h5.trans (a6.mono h5.size)
end Go.Proofs.Ytkapilomliicdaa
