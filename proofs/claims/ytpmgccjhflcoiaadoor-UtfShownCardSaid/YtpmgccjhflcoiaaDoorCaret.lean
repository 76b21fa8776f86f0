/-
  Contract of Caret of package utf. No condition beyond those that each theorem states.
-/
import Derived.Test.YtpmgccjhflcoiaaDoorAt
namespace Go.Proofs.YtpmgccjhflcoiaaDoor
open Go.RowKit
set_option linter.unusedSimpArgs false
set_option linter.unusedVariables false

/-- does a sign at f go over p -/
def overB (s : ByteArray) (p f : Nat) : Bool := okAt s f && decide (p - f < (dec s f).2)
/-- as package utf looks for a caret -/
def caretN (s : ByteArray) (p : Nat) : Bool := decide (∀ f, f < p → p - 3 ≤ f → overB s p f = false)
def caretI (s : ByteArray) (p : Int) : Bool := decide (0 ≤ p ∧ p ≤ s.size) && caretN s p.toNat

set_option maxRecDepth 100000 in
theorem ucaret_ok (s : ByteArray) (p : Int) (hs : s.size ≤ 1000000) (w : World) (hT : Tabs w) :
    Calls Tryd.prog 33 #[.string s, .int .i64 p] w fun e w' => e = .returned (.bool (caretI s p)) ∧ Below w.heap.size w w' := by
  unfold caretI
  by_cases hr : 0 ≤ p ∧ p ≤ s.size
  · rw [decide_eq_true hr, Bool.true_and]
    obtain ⟨n, rfl⟩ : ∃ n : Nat, p = n := ⟨p.toNat, by omega⟩
    rw [Int.toNat_natCast]
    have hn : n ≤ s.size := by omega
    have hn2 : n ≤ 1000000 := by omega
    have hn3 : decide (s.size < n) = false := by simp; omega
    go_enter Tryd.func33, Tryd.ntmps33
    go_wp2_with fail
    go_loopg [5] n (fun g s5 W => ∃ q : Nat, s5 = .int .i64 (q : Int) ∧ n ≤ g + q ∧ n - 3 ≤ q ∧ q ≤ n ∧ Hid (∀ f, f < q → n - 3 ≤ f → overB s n f = false) ∧ Below w.heap.size w W)
    case atStart => exact ⟨n - 3, by congr 1; omega, by omega, Nat.le_refl _, by omega, fun f h1 h2 => by omega, Below.refl _ _⟩
    case round =>
      obtain ⟨q, rfl, hg, hq3, hqn, Hno, hb⟩ := hrel
      by_cases hlt : q < n
      · have ha := at_in s q (by omega) hs wr (Utf8Tabs_below hT hb)
        obtain ⟨b1, b2, b3⟩ := dec_bounds s q
        have hov : overB s n q = (okAt s q && decide (n - q < (dec s q).2)) := rfl
        have Hstep := (show Hid (overB s n q = false → ∀ f, f < q + 1 → n - 3 ≤ f → overB s n f = false) from fun h f h1 h2 => by
          rcases Nat.lt_or_ge f q with h3 | h3
          · exact Hno.out f h3 h2
          · have : f = q := by omega
            subst this; exact h)
        have Hbad := (show Hid (overB s n q = true → caretN s n = false) from fun h => by
          unfold caretN
          rw [decide_eq_false_iff_not]
          intro hall
          rw [hall q hlt hq3] at h
          cases h)
        unfold itemAt at ha
        have hsz : w.heap.size ≤ wr.heap.size := hb.size
        cases hok : okAt s q with
        | false =>
          rw [hok, if_neg (by simp)] at ha
          rw [hok, Bool.false_and] at hov
          have Hs := (show Hid _ from Hstep.out hov)
          clear Hstep Hbad hov Hno
          unfold itemV at ha
          go_wp2_with fail
          refine ha.mono ?_
          rintro e w2 ⟨rfl, hb2⟩
          clear ha
          have hb3 := hb.trans (hb2.mono hsz)
          have hsz2 : w.heap.size ≤ w2.heap.size := hb3.size
          go_wp2_with fail
          go_roundg (gk - 1)
          case measure => omega
          case rel => exact ⟨q + 1, by go_num, by omega, by omega, by omega, Hs, by first | exact hb3.alloc hsz2 _ | exact hb3⟩
        | true =>
          rw [hok, if_pos rfl] at ha
          rw [hok, Bool.true_and] at hov
          unfold itemV at ha
          generalize (dec s q).2 = k at *
          generalize (dec s q).1 = r at *
          by_cases hk : n - q < k
          · rw [decide_eq_true hk] at hov
            have Hc := (show Hid _ from Hbad.out hov)
            have hkz : (n : Int) - (q : Int) < (k : Int) := by omega
            clear Hstep Hbad hov Hno
            go_wp2_with fail
            refine ha.mono ?_
            rintro e w2 ⟨rfl, hb2⟩
            clear ha
            have hb3 := hb.trans (hb2.mono hsz)
            have hsz2 : w.heap.size ≤ w2.heap.size := hb3.size
            go_wp2_with fail
            go_ret
            exact ⟨by rw [Hc.out]; rfl, by first | exact hb3.alloc hsz2 _ | exact hb3⟩
          · rw [decide_eq_false hk] at hov
            have Hs := (show Hid _ from Hstep.out hov)
            have hkz : ¬ ((n : Int) - (q : Int) < (k : Int)) := by omega
            clear Hstep Hbad hov Hno
            go_wp2_with fail
            refine ha.mono ?_
            rintro e w2 ⟨rfl, hb2⟩
            clear ha
            have hb3 := hb.trans (hb2.mono hsz)
            have hsz2 : w.heap.size ≤ w2.heap.size := hb3.size
            go_wp2_with fail
            go_roundg (gk - 1)
            case measure => omega
            case rel => exact ⟨q + 1, by go_num, by omega, by omega, by omega, Hs, by first | exact hb3.alloc hsz2 _ | exact hb3⟩
      · obtain rfl : q = n := by omega
        have hc : caretN s q = true := by
          unfold caretN
          rw [decide_eq_true_iff]
          exact fun f h1 h2 => Hno.out f h1 h2
        have Hc := (show Hid _ from hc)
        clear hc Hno
        go_wp2_with fail
        go_ret
        exact ⟨by rw [Hc.out]; rfl, hb⟩
  · rw [decide_eq_false hr, Bool.false_and]
    by_cases h0 : p < 0
    · go_enter Tryd.func33, Tryd.ntmps33
      go_wp2_with fail
      go_ret
      exact ⟨rfl, Below.refl _ _⟩
    · have h1 : (s.size : Int) < p := by omega
      go_enter Tryd.func33, Tryd.ntmps33
      go_wp2_with fail
      go_ret
      exact ⟨rfl, Below.refl _ _⟩
end Go.Proofs.YtpmgccjhflcoiaaDoor
