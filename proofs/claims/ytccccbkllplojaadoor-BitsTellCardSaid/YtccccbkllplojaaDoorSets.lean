/-
  Contracts of may and seen of package bits: a set read as words. No condition beyond those stated.
-/
import Derived.Test.YtccccbkllplojaaDoorZeros
import Derived.Deep.LoopGhost
namespace Go.Proofs.YtccccbkllplojaaDoor
open Go.RowKit
set_option linter.unusedSimpArgs false
set_option linter.unusedVariables false

theorem may_ok (n : Int) (w : World) : Calls Tryd.prog 26 #[.int .i64 n] w fun e w' => e = .returned (.bool (decide (0 ≤ n ∧ n < 65536))) ∧ w = w' := by
  by_cases h0 : 0 ≤ n
  · by_cases h1 : n < 65536
    · go_enter Tryd.func26, Tryd.ntmps26
      go_wp2
      go_ret
      exact ⟨by simp [h0, h1], rfl⟩
    · go_enter Tryd.func26, Tryd.ntmps26
      go_wp2
      go_ret
      exact ⟨by simp [h0, h1], rfl⟩
  · go_enter Tryd.func26, Tryd.ntmps26
    go_wp2
    go_ret
    exact ⟨by simp; omega, rfl⟩

/-- a slice of words in memory -/
def Words (w : World) (v : Value) (l : List Nat) : Prop := ∃ a cap, v = .slice a l.length cap ∧ l.length ≤ cap ∧ (a = none → cap = 0) ∧ ∀ i, (hi : i < l.length) → ∃ b off, a = some ⟨b, off, none⟩ ∧ w.cell? ⟨b, off + i, none⟩ = some (.int .u64 (l[i] : Nat))

/-- how many words count -/
def cut0 : List Nat → Nat → Nat
  | _, 0 => 0
  | l, n + 1 => if l.getD n 0 = 0 then cut0 l n else n + 1

set_option maxRecDepth 100000 in
theorem seen_all (w : World) (v : Value) (l : List Nat) (hv : Words w v l) (hl : l.length ≤ 1024) :
    Calls Tryd.prog 24 #[v] w fun e w' => ∃ v', e = .returned v' ∧ (∀ W, Words W v l → Words W v' (l.take (cut0 l l.length))) ∧ w = w' := by
  obtain ⟨a, cap, rfl, hc, hn, hcell⟩ := hv
  go_enter Tryd.func24, Tryd.ntmps24
  go_wp2_with fail
  go_loopg [3] l.length (fun g n W => ∃ q : Nat, n = .int .i64 q ∧ q ≤ g ∧ q ≤ l.length ∧ Hid (cut0 l q = cut0 l l.length) ∧ W = w)
  case atStart => exact ⟨l.length, rfl, by omega, by omega, rfl, rfl⟩
  case round =>
    obtain ⟨q, rfl, hg, hq, hcut, rfl⟩ := hrel
    obtain rfl | ⟨p, rfl⟩ : q = 0 ∨ ∃ p, q = p + 1 := by
      rcases Nat.eq_zero_or_pos q with h | h
      · exact Or.inl h
      · exact Or.inr ⟨q - 1, by omega⟩
    · go_wp2_with fail
      go_ret
      have e : cut0 l l.length = 0 := hcut.out.symm
      refine ⟨_, rfl, ?_, rfl⟩
      rw [e]
      intro W _
      exact ⟨_, _, rfl, by simp, hn, fun i hi => by simp at hi⟩
    · obtain ⟨b, off, rfl, hc1⟩ := hcell p (by omega)
      have hw : IntKind.i64.wrap (((p : Nat) : Int) + 1 - 1) = p := by rw [IntWalk.i64_in _ (by omega)]; omega
      by_cases hz : l[p] = 0
      · rw [hz] at hc1
        go_wp2_with fail
        go_roundg p
        case measure => omega
        case rel =>
          refine ⟨p, by go_num, by omega, by omega, ?_, rfl⟩
          have := hcut.out
          rw [cut0, List.getD_eq_getElem?_getD, List.getElem?_eq_getElem (by omega)] at this
          exact (show cut0 l p = cut0 l l.length from by simpa [hz] using this)
      · have hz' : ((l[p] : Nat) : Int) ≠ 0 := by omega
        go_wp2_with fail
        go_ret
        have e : cut0 l l.length = p + 1 := by
          have := hcut.out
          rw [cut0, List.getD_eq_getElem?_getD, List.getElem?_eq_getElem (by omega)] at this
          rw [← this]
          simp; omega
        have hlen : (l.take (p + 1)).length = p + 1 := by rw [List.length_take]; omega
        refine ⟨_, rfl, ?_, rfl⟩
        rw [e]
        rintro W ⟨aW, capW, eW, _, _, hcellW⟩
        cases eW
        refine ⟨_, _, by rw [hlen]; rfl, by omega, hn, fun i hi => ?_⟩
        obtain ⟨b', off', e1, e2⟩ := hcellW i (by omega)
        exact ⟨b', off', e1, by rw [List.getElem_take]; exact e2⟩
theorem seen_ok (w : World) (v : Value) (l : List Nat) (hv : Words w v l) (hl : l.length ≤ 1024) :
    Calls Tryd.prog 24 #[v] w fun e w' => ∃ v', e = .returned v' ∧ Words w v' (l.take (cut0 l l.length)) ∧ w = w' := by
  refine (seen_all w v l hv hl).mono ?_
  rintro e w' ⟨v', rfl, h, rfl⟩
  exact ⟨v', rfl, h w hv, rfl⟩
end Go.Proofs.YtccccbkllplojaaDoor
