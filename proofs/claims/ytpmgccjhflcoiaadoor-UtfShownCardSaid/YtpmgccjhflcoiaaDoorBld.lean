/-
  Contracts of copyCheck and WriteString of a strings.Builder, as this seat's program has them. No condition beyond those that each theorem states.
-/
import Derived.Test.YtpmgccjhflcoiaaDoorBack
import Derived.Lib.AppendStr
namespace Go.Proofs.YtpmgccjhflcoiaaDoor
open Go.RowKit
set_option linter.unusedSimpArgs false
set_option linter.unusedVariables false

theorem size70 : (Tryd.prog.info? 70).map (·.size) = some 2 := by kernel_rfl
theorem infoU8 : (Tryd.prog.info? 5).map (fun i => (i.zero, i.size, i.bytes)) = some (some (.int .u8 0), 1, 1) := by kernel_rfl
theorem lies70 : liesAt Tryd.prog Tryd.prog.depth 70 (2 / Tryd.prog.cellsOf 70) 0 70 1 = true := by kernel_rfl
/-- a builder of one's own that holds these bytes, fresh or used -/
abbrev BldF (B b : Nat) (l : List UInt8) (w : World) : Prop := Lib.IsBuilder 70 5 B b (Lib.byteCells l) w
abbrev BldU (B b : Nat) (l : List UInt8) (w : World) : Prop := Lib.BuilderAt 70 5 B b (.pointer (some ⟨b, 0, none⟩)) (Lib.byteCells l) w
theorem check_used (b : Nat) (w : World) (h0 : w.cell? ⟨b, 0, none⟩ = some (.pointer (some ⟨b, 0, none⟩))) :
    Calls Tryd.prog 54 #[.pointer (some ⟨b, 0, none⟩)] w fun e w' => e = .returned (.tuple #[]) ∧ w' = w := by
  obtain ⟨j, hj, _⟩ := Option.map_eq_some_iff.1 size70
  have hnp := fun (W : World) => Lib.run_neq_ptr_same (P := Tryd.prog) W ⟨b, 0, none⟩ Tryd.underlying68 hj
  go_enter Tryd.func54, Tryd.ntmps54
  go_wp2_with fail
  go_end0
  exact ⟨rfl, rfl⟩
theorem check_fresh (b : Nat) (w : World) (h0 : w.cell? ⟨b, 0, none⟩ = some (.pointer none)) (hsh : w.shape? b = some (70, 2)) (hfz : w.frozen? ⟨b, 0, none⟩ = false) :
    Calls Tryd.prog 54 #[.pointer (some ⟨b, 0, none⟩)] w fun e w' => e = .returned (.tuple #[]) ∧ w' = w.setCell ⟨b, 0, none⟩ (.pointer (some ⟨b, 0, none⟩)) := by
  obtain ⟨j, hj, hjs⟩ := Option.map_eq_some_iff.1 size70
  have hnp := fun (W : World) => Lib.run_neq_ptr_same (P := Tryd.prog) W ⟨b, 0, none⟩ Tryd.underlying68 hj
  have hto := Lib.run_to_unsafe (P := Tryd.prog) w ⟨b, 0, none⟩ Tryd.underlying68 Tryd.underlying88 hj (by rw [hjs]; decide) hsh (Nat.zero_lt_succ 1)
  have hfrom := Lib.run_from_unsafe (P := Tryd.prog) w ⟨b, 0, none⟩ Tryd.underlying88 Tryd.underlying68 hj hsh lies70
  have hsame : (callFunc 63 #[.pointer (some ⟨b, 0, none⟩)]).run Tryd.prog w = .ok (.value (.pointer (some ⟨b, 0, none⟩))) w := by
    rw [run_callFunc_extern Tryd.func63 (by kernel_rfl) (by kernel_rfl) (by kernel_rfl) (e := Extern.AbiNoEscape.same) (by kernel_rfl), Lib.run_noEscape]
    rfl
  go_enter Tryd.func54, Tryd.ntmps54
  go_wp2_with fail
  go_end0
  exact ⟨rfl, rfl⟩
/-- what is neither the builder nor a row of bytes stays as it was -/
def KeptF (b : Nat) (w w' : World) : Prop := ∀ k cs t fz, k ≠ b → t ≠ 5 → w.heap[k]? = some (.cells cs t fz) → w'.heap[k]? = some (.cells cs t fz)
theorem check_ok (B b : Nat) (l : List UInt8) (w : World) (h : BldF B b l w) :
    Calls Tryd.prog 54 #[.pointer (some ⟨b, 0, none⟩)] w fun e w' => e = .returned (.tuple #[]) ∧ BldU B b l w' ∧ Below B w w' ∧ KeptF b w w' := by
  rcases h with h | h
  · refine (check_fresh b w h.cell0 h.shape h.frozen0).mono ?_
    rintro e w' ⟨rfl, rfl⟩
    exact ⟨rfl, h.used _, (Below.refl B w).setCell (p := ⟨b, 0, none⟩) h.1 _, fun k cs t fz h1 _ h3 => by rw [blk_set_ne h1]; exact h3⟩
  · refine (check_used b w h.cell0).mono ?_
    rintro e w' ⟨rfl, rfl⟩
    exact ⟨rfl, h, Below.refl B _, fun k cs t fz _ _ h3 => h3⟩
theorem after_append {w1 w2 : World} {B b n : Nat} {v v' p : Value} {xs : List Value} (hbk : w1.heap[b]? = some (.cells #[p, v] 70 (0, 0))) (hne : v.ownBlock ≠ some b) (hgrow : w1.grownBy w2 v.ownBlock) (hown : w2.ownsRow B 5 1 v' n xs) :
    (∃ ao n' cap, v' = .slice ao n' cap) ∧ w2.heap[b]? = some (.cells #[p, v] 70 (0, 0)) := by
  refine ⟨?_, by rw [hgrow.block b (blk_lt hbk) (fun e => hne e.symm)]; exact hbk⟩
  rcases hown.2 with ⟨hv, _⟩ | ⟨g, cap, cur, hv, _⟩
  · exact ⟨_, _, _, hv⟩
  · exact ⟨_, _, _, hv⟩
theorem put_row {w : World} {B b : Nat} {p v v' : Value} {xs : List Value} (hB : B ≤ b) (hown : w.ownsRow B 5 1 v' xs.length xs) (hb : w.heap[b]? = some (.cells #[p, v] 70 (0, 0))) : Lib.BuilderAt 70 5 B b p xs (w.setCell ⟨b, 1, none⟩ v') := by
  have hne : v'.ownBlock ≠ some b := by
    intro e
    rcases hown.2 with ⟨hv, _⟩ | ⟨g, cap, cur, hv, _, hg, _⟩
    · rw [hv] at e; cases e
    · rw [hv] at e
      have : g = b := Option.some.inj e
      subst this
      rw [hb] at hg
      simp at hg
  refine ⟨hB, v', ?_, ?_, hne⟩
  · have := blk_set (i := 1) (v := v') hb
    simpa using this
  · exact hown.kept (row := some b) ⟨rfl, rfl, rfl, by simp [World.setCell], fun k _ hk => Below.heap_setCell _ _ _ _ (fun e => hk (by simp [e]))⟩ (Or.inr hne)
set_option maxRecDepth 100000 in
set_option maxHeartbeats 1000000 in
theorem write_ok (B b : Nat) (l : List UInt8) (s : ByteArray) (w : World) (h : BldF B b l w) (hlen : l.length + s.size ≤ 100000000) (hBw : B ≤ w.heap.size) :
    Calls Tryd.prog 41 #[.pointer (some ⟨b, 0, none⟩), .string s] w fun e w' => e = .returned (.tuple #[.int .i64 s.size, .nilIface]) ∧ BldU B b (l ++ s.data.toList) w' ∧ Below B w w' ∧ KeptF b w w' := by
  obtain ⟨i0, hi, hz0, hz1, hz2⟩ := info_parts infoU8
  have cc := check_ok B b l w h
  have hl : (Lib.byteCells l).length = l.length := by simp [Lib.byteCells]
  go_enter Tryd.func41, Tryd.ntmps41
  go_wp2_with fail
  refine cc.mono ?_
  rintro e w1 ⟨rfl, h1, hb1, hkf⟩
  obtain ⟨hB, v, hbk, hown, hne⟩ := h1
  rw [hl] at hown
  have c0 : w1.cell? ⟨b, 0, none⟩ = some (.pointer (some ⟨b, 0, none⟩)) := blk_cell hbk rfl
  have c1 : w1.cell? ⟨b, 1, none⟩ = some v := blk_cell hbk rfl
  have HK := Lib.hid (And.intro hbk (And.intro hne hb1))
  have HKF : KeptF b w w1 := hkf
  clear hkf
  have HO := Lib.hid hown
  clear cc h hbk hne hb1 hown
  go_wp2_with (at_builtin; refine Lib.wpList_append_own_string _ rfl _ _ 65 9 rfl B 5 i0 Tryd.underlying65 Tryd.underlying9 hi hz0 hz1 hz2 _ _ _ rfl HO.out s rfl (by unfold maxLen; omega) (by omega) (by have := HK.out.2.2.size; omega) ?_; intro v' w2 hown' hgrow _; have hgr : w1.grownBy w2 v.ownBlock := hgrow; clear hgrow; obtain ⟨⟨ao, n', cap, rfl⟩, hb2⟩ := after_append HK.out.1 HK.out.2.1 hgr hown'; have d1 : w2.cell? ⟨b, 1, none⟩ = some v := blk_cell hb2 rfl; have f1 : w2.frozen? ⟨b, 1, none⟩ = false := blk_free hb2; have HX := Lib.hid (And.intro hown' (And.intro hgr hb2)); clear hown' hgr hb2)
  go_ret2
  have hcells : Lib.byteCells (l ++ s.data.toList) = Lib.byteCells l ++ Lib.strCells s := by simp [Lib.byteCells, Lib.strCells]
  have hlen2 : (Lib.byteCells l ++ Lib.strCells s).length = l.length + s.size := by rw [List.length_append, hl]; simp [Lib.strCells]
  refine ⟨rfl, ?_, ?_, ?_⟩
  · unfold BldU
    rw [hcells]
    exact put_row hB (by rw [hlen2]; exact HX.out.1) HX.out.2.2
  · exact (HK.out.2.2.grown HX.out.2.1 (by have := HK.out.2.2.size; omega) (fun k hk => (World.ownsRow.lt HO.out k hk).1)).setCell (p := ⟨b, 1, none⟩) hB _
  · intro k cs t fz k1 k2 k3
    have k4 := HKF k cs t fz k1 k2 k3
    rw [blk_set_ne k1, HX.out.2.1.block k (blk_lt k4) (fun e => ?_)]
    · exact k4
    · rcases HO.out.2 with ⟨hv, _⟩ | ⟨g, cp, cur, hv, _, hg, _⟩
      · rw [hv] at e; cases e
      · rw [hv] at e
        have : g = k := Option.some.inj e.symm
        subst this
        rw [k4] at hg
        simp at hg
        exact k2 hg.2.1
end Go.Proofs.YtpmgccjhflcoiaaDoor
