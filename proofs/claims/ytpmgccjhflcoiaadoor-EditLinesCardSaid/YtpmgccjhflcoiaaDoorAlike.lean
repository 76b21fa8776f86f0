/-
  Contract of alike of package edit (of bytes). No condition beyond those that each theorem states.
-/
import Derived.Test.YtpmgccjhflcoiaaDoorWorksB
namespace Go.Proofs.YtpmgccjhflcoiaaDoor
open Go.RowKit
set_option linter.unusedSimpArgs false
set_option linter.unusedVariables false

/-- how many bytes two rows begin with alike -/
def IsPre (a b : List UInt8) (n : Nat) : Prop := ∀ k, k ≤ n ↔ (k ≤ a.length ∧ k ≤ b.length ∧ ∀ j, j < k → a[j]? = b[j]?)
theorem isPre_end {a b : List UInt8} {n : Nat} (h1 : n ≤ a.length) (h2 : n ≤ b.length) (h : ∀ j, j < n → a[j]? = b[j]?) (hend : n = a.length ∨ n = b.length ∨ a[n]? ≠ b[n]?) : IsPre a b n := by
  intro k
  constructor
  · intro hk; exact ⟨by omega, by omega, fun j hj => h j (by omega)⟩
  · rintro ⟨k1, k2, k3⟩
    rcases Nat.lt_or_ge n k with h3 | h3
    · rcases hend with h4 | h4 | h4
      · omega
      · omega
      · exact absurd (k3 n h3) h4
    · exact h3
theorem isPre_inj {a b : List UInt8} {n m : Nat} (h1 : IsPre a b n) (h2 : IsPre a b m) : n = m :=
  Nat.le_antisymm ((h2 n).2 ((h1 n).1 (Nat.le_refl _))) ((h1 m).2 ((h2 m).1 (Nat.le_refl _)))
/-- a row of bytes in memory -/
def RowAt (W : World) (b : Nat) (l : List UInt8) : Prop := ∀ i, (h : i < l.length) → W.cell? ⟨b, i, none⟩ = some (.int .u8 ((l[i]'h).toNat : Int))
theorem RowAt.drewN {W : World} {b : Nat} {l : List UInt8} (h : RowAt W b l) (n : Nat) : RowAt (W.drewN n) b l := h
theorem RowAt.later {W W' : World} {b : Nat} {l : List UInt8} (h : RowAt W b l) (hb : Below W.heap.size W W') : RowAt W' b l := fun i hi => (hb.cell (p := ⟨b, i, none⟩) (World.block_lt_of_cell? W _ (h i hi))).trans (h i hi)
def AlikeSays (l1 l2 : List UInt8) (W : World) (e : Ending) (w' : World) : Prop := ∃ n k : Nat, e = .returned (.int .i64 n) ∧ IsPre l1 l2 n ∧ w' = W.drewN k

set_option maxRecDepth 100000 in
theorem alike_ok (l1 l2 : List UInt8) (b1 c1 b2 c2 : Nat) (w : World) (r1 : RowAt w b1 l1) (r2 : RowAt w b2 l2) (h1 : l1.length ≤ 1000000) (h2 : l2.length ≤ 1000000) :
    Calls Tryd.prog 48 #[.slice (some ⟨b1, 0, none⟩) l1.length c1, .slice (some ⟨b2, 0, none⟩) l2.length c2] w (AlikeSays l1 l2 w) := by
  have R1 := Lib.hid r1
  have R2 := Lib.hid r2
  clear r1 r2
  obtain ⟨n1, hn1⟩ : ∃ n, n = l1.length := ⟨_, rfl⟩
  obtain ⟨n2, hn2⟩ : ∃ n, n = l2.length := ⟨_, rfl⟩
  rw [← hn1] at h1 ⊢
  rw [← hn2] at h2 ⊢
  have N1 := Lib.hid hn1
  have N2 := Lib.hid hn2
  clear hn1 hn2
  go_enter Tryd.func48, Tryd.ntmps48
  go_wp2_with fail
  go_loopg [5] (n1 + 1) (fun g s5 W => ∃ n k : Nat, s5 = .int .i64 (n : Int) ∧ n ≤ n1 ∧ n ≤ n2 ∧ g + n = n1 + 1 ∧ Hid (∀ j, j < n → l1[j]? = l2[j]?) ∧ W = w.drewN k)
  case atStart => exact ⟨0, 0, rfl, Nat.zero_le _, Nat.zero_le _, rfl, fun j h => by omega, rfl⟩
  case round =>
    obtain ⟨n, k, rfl, hle1, hle2, hg, H, rfl⟩ := hrel
    by_cases hlt1 : n < n1
    · have hlt1' : (n : Int) < (n1 : Int) := by omega
      by_cases hlt2 : n < n2
      · have hlt2' : (n : Int) < (n2 : Int) := by omega
        have e1 : l1[n]? = some (l1[n]'(by rw [← N1.out]; exact hlt1)) := List.getElem?_eq_getElem _
        have e2 : l2[n]? = some (l2[n]'(by rw [← N2.out]; exact hlt2)) := List.getElem?_eq_getElem _
        have d1 := R1.out n (by rw [← N1.out]; exact hlt1)
        have d2 := R2.out n (by rw [← N2.out]; exact hlt2)
        generalize l1[n]'(by rw [← N1.out]; exact hlt1) = x at e1 d1
        generalize l2[n]'(by rw [← N2.out]; exact hlt2) = y at e2 d2
        by_cases hxy : x = y
        · have H2 := (show Hid (∀ j, j < n + 1 → l1[j]? = l2[j]?) from fun j hj => by
            rcases Nat.lt_or_ge j n with h3 | h3
            · exact H.out j h3
            · obtain rfl : j = n := by omega
              rw [e1, e2, hxy])
          subst hxy
          clear e1 e2 H
          go_wp2_with fail
          go_quiet (fail)
          go_wp2_with fail
          go_roundg (gk - 1)
          case measure => omega
          case rel => exact ⟨n + 1, k + nq, by go_num, by omega, by omega, by omega, H2, rfl⟩
        · have HE := (show Hid (IsPre l1 l2 n) from isPre_end (by rw [← N1.out]; exact hle1) (by rw [← N2.out]; exact hle2) H.out (Or.inr (Or.inr (by rw [e1, e2]; intro e; exact hxy (Option.some.inj e)))))
          have hne : (((x.toNat : Nat) : Int) == ((y.toNat : Nat) : Int)) = false := by
            rw [beq_eq_false_iff_ne]
            intro e
            exact hxy (UInt8.toNat_inj.1 (by omega))
          have hne2 : ((x.toNat : Nat) == (y.toNat : Nat)) = false := by
            rw [beq_eq_false_iff_ne]
            intro e
            exact hxy (UInt8.toNat_inj.1 e)
          clear e1 e2 H hxy
          go_wp2_with fail
          go_quiet (fail)
          go_wp2_with fail
          go_ret
          exact ⟨n, k + nq, rfl, HE.out, World.drewN_drewN _ _ _⟩
      · have HE := (show Hid (IsPre l1 l2 n) from isPre_end (by rw [← N1.out]; exact hle1) (by rw [← N2.out]; exact hle2) H.out (Or.inr (Or.inl (by rw [← N2.out]; omega))))
        have hlt2' : decide ((n : Int) < (n2 : Int)) = false := by simp; omega
        have hlt3' : decide (n < n2) = false := by simp; omega
        clear H
        go_wp2_with fail
        go_quiet (fail)
        go_wp2_with fail
        go_ret
        exact ⟨n, k + nq, rfl, HE.out, World.drewN_drewN _ _ _⟩
    · have HE := (show Hid (IsPre l1 l2 n) from isPre_end (by rw [← N1.out]; exact hle1) (by rw [← N2.out]; exact hle2) H.out (Or.inl (by rw [← N1.out]; omega)))
      have hlt2' : decide ((n : Int) < (n1 : Int)) = false := by simp; omega
      have hlt3' : decide (n < n1) = false := by simp; omega
      clear H
      go_wp2_with fail
      go_quiet (fail)
      go_wp2_with fail
      go_ret
      exact ⟨n, k + nq, rfl, HE.out, World.drewN_drewN _ _ _⟩
end Go.Proofs.YtpmgccjhflcoiaaDoor
