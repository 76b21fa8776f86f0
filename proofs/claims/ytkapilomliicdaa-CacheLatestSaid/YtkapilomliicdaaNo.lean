/-
  Contracts of the calls on a cache that nobody made, and of Put where there is no room. No condition beyond those that each theorem states.
-/
import Derived.Test.YtkapilomliicdaaOps
namespace Go.Proofs.Ytkapilomliicdaa
open Go.RowKit Go.Maps
set_option linter.unusedSimpArgs false
set_option linter.unusedVariables false

/-- a cache that nobody made: nil, or plain -/
def Unmade (v : Value) (w : World) : Prop :=
  v = .pointer none ∨ ∃ c, v = .pointer (some ⟨c, 0, none⟩) ∧ w.cell? ⟨c, 1, none⟩ = some (.map none)

theorem made_no {v : Value} {w : World} (h : Unmade v w) : Calls Try.prog 15 #[v] w fun e w' => e = .returned (.bool false) ∧ w = w' := by
  rcases h with rfl | ⟨c, rfl, c1⟩
  · go_enter Try.func15, Try.ntmps15
    go_wp2
    go_ret
    exact ⟨rfl, rfl⟩
  · have e1 := fun w : World => run_neq_map_nil (P := Try.prog) w 31 9 32 none Try.underlying31
    go_enter Try.func15, Try.ntmps15
    go_wp2
    go_ret
    exact ⟨rfl, rfl⟩

theorem put_no {v : Value} {w : World} (h : Unmade v w) (k : ByteArray) (n : Int) : Calls Try.prog 6 #[v, .string k, .int .i64 n] w fun e w' => e = .returned (.tuple #[]) ∧ w = w' := by
  have hm := made_no h
  obtain ⟨p, rfl⟩ : ∃ p, v = .pointer p := by rcases h with rfl | ⟨c, rfl, _⟩ <;> exact ⟨_, rfl⟩
  clear h
  go_enter Try.func6, Try.ntmps6
  go_wp2_with fail
  refine hm.mono ?_
  rintro e w' ⟨rfl, rfl⟩
  clear hm
  go_wp2_with fail
  exact bodyPost_ret (results_none rfl _ _ _) rfl ⟨rfl, rfl⟩

theorem clear_no {v : Value} {w : World} (h : Unmade v w) : Calls Try.prog 10 #[v] w fun e w' => e = .returned (.tuple #[]) ∧ w = w' := by
  have hm := made_no h
  obtain ⟨p, rfl⟩ : ∃ p, v = .pointer p := by rcases h with rfl | ⟨c, rfl, _⟩ <;> exact ⟨_, rfl⟩
  clear h
  go_enter Try.func10, Try.ntmps10
  go_wp2_with fail
  refine hm.mono ?_
  rintro e w' ⟨rfl, rfl⟩
  clear hm
  go_wp2_with fail
  exact bodyPost_ret (results_none rfl _ _ _) rfl ⟨rfl, rfl⟩

theorem resize_no {v : Value} {w : World} (h : Unmade v w) (r : Int) : Calls Try.prog 13 #[v, .int .i64 r] w fun e w' => e = .returned (.tuple #[]) ∧ w = w' := by
  have hm := made_no h
  obtain ⟨p, rfl⟩ : ∃ p, v = .pointer p := by rcases h with rfl | ⟨c, rfl, _⟩ <;> exact ⟨_, rfl⟩
  clear h
  go_enter Try.func13, Try.ntmps13
  go_wp2_with fail
  refine hm.mono ?_
  rintro e w' ⟨rfl, rfl⟩
  clear hm
  go_wp2_with fail
  exact bodyPost_ret (results_none rfl _ _ _) rfl ⟨rfl, rfl⟩

theorem get_no {v : Value} {w : World} (h : Unmade v w) (k : ByteArray) : Calls Try.prog 8 #[v, .string k] w fun e w' => e = .returned (.tuple #[.int .i64 0, .bool false]) ∧ w = w' := by
  have hm := made_no h
  obtain ⟨p, rfl⟩ : ∃ p, v = .pointer p := by rcases h with rfl | ⟨c, rfl, _⟩ <;> exact ⟨_, rfl⟩
  clear h
  go_enter Try.func8, Try.ntmps8
  go_wp2_with fail
  refine hm.mono ?_
  rintro e w' ⟨rfl, rfl⟩
  clear hm
  go_wp2_with fail
  go_ret2
  exact ⟨rfl, rfl⟩

theorem long_no {v : Value} {w : World} (h : Unmade v w) : Calls Try.prog 11 #[v] w fun e w' => e = .returned (.int .i64 0) ∧ w = w' := by
  have hm := made_no h
  obtain ⟨p, rfl⟩ : ∃ p, v = .pointer p := by rcases h with rfl | ⟨c, rfl, _⟩ <;> exact ⟨_, rfl⟩
  clear h
  go_enter Try.func11, Try.ntmps11
  go_wp2_with fail
  refine hm.mono ?_
  rintro e w' ⟨rfl, rfl⟩
  clear hm
  go_wp2_with fail
  go_ret
  exact ⟨rfl, rfl⟩

theorem room_no {v : Value} {w : World} (h : Unmade v w) : Calls Try.prog 12 #[v] w fun e w' => e = .returned (.int .i64 0) ∧ w = w' := by
  have hm := made_no h
  obtain ⟨p, rfl⟩ : ∃ p, v = .pointer p := by rcases h with rfl | ⟨c, rfl, _⟩ <;> exact ⟨_, rfl⟩
  clear h
  go_enter Try.func12, Try.ntmps12
  go_wp2_with fail
  refine hm.mono ?_
  rintro e w' ⟨rfl, rfl⟩
  clear hm
  go_wp2_with fail
  go_ret
  exact ⟨rfl, rfl⟩

theorem keys_no {v : Value} {w : World} (h : Unmade v w) : Calls Try.prog 7 #[v] w fun e w' => e = .returned (.slice none 0 0) ∧ w = w' := by
  have hm := made_no h
  obtain ⟨p, rfl⟩ : ∃ p, v = .pointer p := by rcases h with rfl | ⟨c, rfl, _⟩ <;> exact ⟨_, rfl⟩
  clear h
  go_enter Try.func7, Try.ntmps7
  go_wp2_with fail
  refine hm.mono ?_
  rintro e w' ⟨rfl, rfl⟩
  clear hm
  go_wp2_with fail
  go_ret
  exact ⟨rfl, rfl⟩

/-- a put with no room -/
theorem put_noroom {w : World} {B c m : Nat} {s0 s1 s2 : Int} {L : List Ent} (h : CS w B c m 0 L s0 s1 s2) (k : ByteArray) (n : Int) :
    Calls Try.prog 6 #[.pointer (some ⟨c, 0, none⟩), .string k, .int .i64 n] w fun e w' => e = .returned (.tuple #[]) ∧ w = w' := by
  have hmade := h.made
  have c0 : w.cell? ⟨c, 0, none⟩ = some (.int .i64 0) := blk_cell h.hd rfl
  go_enter Try.func6, Try.ntmps6
  go_wp2_with fail
  refine hmade.mono ?_
  rintro e w' ⟨rfl, rfl⟩
  clear hmade
  go_wp2_with fail
  exact bodyPost_ret (results_none rfl _ _ _) rfl ⟨rfl, rfl⟩

/-- a cache just made -/
theorem made_cs (w : World) (r : Int) (m : Nat) (hm : m = w.heap.size) : CS ((w.alloc (.map #[] 0)).alloc (hdObj r m [] 0 0 0)) m (m + 1) m r [] 0 0 0 := by
  subst hm
  have e : (w.alloc (.map #[] 0)).heap.size = w.heap.size + 1 := by simp
  refine ⟨?_, trivial, ⟨[], (IsMap.new w).congr (blk_old (by rw [e]; omega)), List.Perm.refl _⟩, List.nodup_nil, ?_, ?_, by simp⟩
  · rw [← e]; exact blk_new _ _
  · simp
  · intro b hb
    simp at hb
    omega
end Go.Proofs.Ytkapilomliicdaa
