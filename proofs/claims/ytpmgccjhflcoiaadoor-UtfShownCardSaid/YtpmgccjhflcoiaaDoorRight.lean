/-
  utf8.ValidString laid for this seat (the library's contract, one application), and the contract of Right of package utf. No condition beyond those that each theorem states.
-/
import Derived.Test.YtpmgccjhflcoiaaDoorLocal
import Derived.Shelf.Unicode.ValidAny
namespace Go.Proofs
open Go.Shelf
def Tryd.lays196_ren : Go.Shelf.Ren := ⟨fun | 196 => 52 | 259 => 62 | n => n, fun | 9 => 9 | 3 => 3 | 4 => 4 | 5 => 5 | 12 => 12 | 0 => 0 | 46 => 87 | 53 => 93 | 119 => 83 | 138 => 85 | 139 => 86 | n => n, fun | 3 => 0 | 4 => 1 | n => n⟩
theorem Tryd.lays196 : Go.Proofs.Lays.n196 Tryd.prog Tryd.lays196_ren := {
  mixed := by kernel_rfl
  f196 := Tryd.func52.trans (congrArg some (by kernel_rfl))
  f259 := Tryd.func62.trans (congrArg some (by kernel_rfl))
  t0 := Tryd.underlying0
  a0 := Tryd.isAgg0
  z0 := Tryd.sizeOf0
  v0 := Tryd.zeroValue0
  t3 := Tryd.underlying3
  a3 := Tryd.isAgg3
  z3 := Tryd.sizeOf3
  v3 := Tryd.zeroValue3
  t4 := Tryd.underlying4
  a4 := Tryd.isAgg4
  z4 := Tryd.sizeOf4
  v4 := Tryd.zeroValue4
  t5 := Tryd.underlying5
  a5 := Tryd.isAgg5
  z5 := Tryd.sizeOf5
  v5 := Tryd.zeroValue5
  t9 := Tryd.underlying9
  a9 := Tryd.isAgg9
  z9 := Tryd.sizeOf9
  v9 := Tryd.zeroValue9
  t12 := Tryd.underlying12
  a12 := Tryd.isAgg12
  z12 := Tryd.sizeOf12
  v12 := Tryd.zeroValue12
  t46 := Tryd.underlying87
  a46 := Tryd.isAgg87
  z46 := Tryd.sizeOf87
  v46 := Tryd.zeroValue87
  t53 := Tryd.underlying93
  a53 := Tryd.isAgg93
  z53 := Tryd.sizeOf93
  v53 := Tryd.zeroValue93
  t119 := Tryd.underlying83
  a119 := Tryd.isAgg83
  z119 := Tryd.sizeOf83
  t138 := Tryd.underlying85
  a138 := Tryd.isAgg85
  z138 := Tryd.sizeOf85
  v138 := Tryd.zeroValue85
  t139 := Tryd.underlying86
  a139 := Tryd.isAgg86
  z139 := Tryd.sizeOf86
  v139 := Tryd.zeroValue86
  g3 := by kernel_rfl
  g4 := by kernel_rfl }
namespace YtpmgccjhflcoiaaDoor
open Go.RowKit Go.Lib
set_option linter.unusedSimpArgs false
set_option linter.unusedVariables false
theorem valid_ok (s : ByteArray) (w : World) (hs : s.size ≤ 9223372036854775807) (hT : Tabs w) :
    Calls Tryd.prog 52 #[.string s] w fun e w' => e = .returned (.bool (Lib.validD s.data.toList)) ∧ Below w.heap.size w w' := Any.utf8_ValidString Tryd.lays196 s w hs hT
/-- are all items signs -/
def allOk (s : ByteArray) : Prop := ∀ k, pos s k < s.size → okAt s (pos s k) = true
theorem decL_at (s : ByteArray) (i : Nat) : Lib.decodeL (s.data.toList.drop i) = dec s i := Lib.decodeL_drop s i
theorem valid_from (s : ByteArray) : ∀ (m q : Nat), s.size - q ≤ m → q ≤ s.size → (Lib.validD (s.data.toList.drop q) = true ↔ ∀ k, posF s q k < s.size → okAt s (posF s q k) = true) := by
  intro m
  induction m with
  | zero =>
    intro q h1 h2
    have : s.data.toList.drop q = [] := List.drop_eq_nil_of_le (by rw [← Lib.size_eq]; omega)
    rw [this]
    exact ⟨fun _ k hk => by have := posF_ge s q k; omega, fun _ => rfl⟩
  | succ m ih =>
    intro q h1 h2
    by_cases hq : q = s.size
    · have : s.data.toList.drop q = [] := List.drop_eq_nil_of_le (by rw [← Lib.size_eq]; omega)
      rw [this]
      exact ⟨fun _ k hk => by have := posF_ge s q k; omega, fun _ => rfl⟩
    · have hne : s.data.toList.drop q ≠ [] := by
        intro e
        have := congrArg List.length e
        rw [List.length_drop, ← Lib.size_eq] at this
        simp at this
        omega
      rw [Lib.validD_step _ hne, decL_at, List.drop_drop]
      have hb := dec_bounds s q
      have hshift : ∀ k, posF s (q + wid s q) k = posF s q (k + 1) := by
        intro k
        induction k with
        | zero => rfl
        | succ k ihk =>
          have e1 : posF s (q + wid s q) (k + 1) = posF s (q + wid s q) k + wid s (posF s (q + wid s q) k) := rfl
          have e2 : posF s q (k + 1 + 1) = posF s q (k + 1) + wid s (posF s q (k + 1)) := rfl
          rw [e1, e2, ihk]
      by_cases hok : okAt s q = true
      · have hnot : ¬ ((dec s q).1 = 65533 ∧ (dec s q).2 = 1) := by
          intro e
          unfold okAt at hok
          rw [decide_eq_true (show (dec s q).1 = 65533 ∧ (dec s q).2 < 2 from ⟨e.1, by omega⟩)] at hok
          cases hok
        rw [if_neg hnot]
        have hw : wid s q = (dec s q).2 := by unfold wid; rw [if_pos hok]
        have hin := wid_in s q (by omega)
        rw [← hw, ih (q + wid s q) (by have := wid_pos s q; omega) hin]
        constructor
        · intro h k hk
          cases k with
          | zero => exact hok
          | succ k => rw [← hshift] at hk ⊢; exact h k hk
        · intro h k hk
          rw [hshift] at hk ⊢
          exact h (k + 1) hk
      · have hyes : (dec s q).1 = 65533 ∧ (dec s q).2 = 1 := by
          unfold okAt at hok
          have : (dec s q).1 = 65533 ∧ (dec s q).2 < 2 := by
            by_cases e : (dec s q).1 = 65533 ∧ (dec s q).2 < 2
            · exact e
            · rw [decide_eq_false e] at hok; exact absurd rfl hok
          omega
        rw [if_pos hyes]
        refine ⟨fun h => (by cases h), fun h => absurd (h 0 (by show q < _; omega)) hok⟩
theorem valid_iff (s : ByteArray) : Lib.validD s.data.toList = true ↔ allOk s := by
  have h := valid_from s s.size 0 (by omega) (Nat.zero_le _)
  rw [List.drop_zero] at h
  rw [h]
  unfold allOk
  constructor
  · intro h k; rw [← posF_zero]; exact h k
  · intro h k; rw [posF_zero]; exact h k
/-- as package utf tells whether all items are signs -/
def rightB (s : ByteArray) : Bool := Lib.validD s.data.toList
theorem right_ok (s : ByteArray) (w : World) (hs : s.size ≤ 9223372036854775807) (hT : Tabs w) :
    Calls Tryd.prog 36 #[.string s] w fun e w' => e = .returned (.bool (rightB s)) ∧ Below w.heap.size w w' := by
  have c := valid_ok s w hs hT
  unfold rightB
  generalize Lib.validD s.data.toList = b at *
  go_enter Tryd.func36, Tryd.ntmps36
  go_wp2_with fail
  refine c.mono ?_
  rintro e w' ⟨rfl, hb⟩
  go_wp2_with fail
  go_ret
  exact ⟨rfl, hb⟩
/-- a place where a sign begins, or the end, is a caret -/
theorem caret_of_lead (t : ByteArray) (p : Nat) (hp : p ≤ t.size) (h : p = t.size ∨ byteAt t p / 64 ≠ 2) : caretN t p = true := by
  unfold caretN
  rw [decide_eq_true_iff]
  intro f hf _
  unfold overB
  cases hok : okAt t f with
  | false => rfl
  | true =>
    rw [Bool.true_and, decide_eq_false_iff_not]
    intro hlt
    rcases h with rfl | h
    · have := wid_in t f (by omega)
      unfold wid at this
      rw [hok, if_pos rfl] at this
      omega
    · have := (lead t f (by omega) hok).2 (p - f) (by omega) (by omega)
      rw [show f + (p - f) = p from by omega] at this
      exact h this
theorem lead_of_caret (s : ByteArray) (p : Nat) (hp : p < s.size) (hr : rightB s = true) (hc : caretN s p = true) : byteAt s p / 64 ≠ 2 := by
  obtain ⟨k, hk⟩ := (caret_iff s p (by omega)).1 hc
  have := (valid_iff s).1 hr k (by omega)
  rw [hk] at this
  exact (lead s p hp this).1
end YtpmgccjhflcoiaaDoor
end Go.Proofs
