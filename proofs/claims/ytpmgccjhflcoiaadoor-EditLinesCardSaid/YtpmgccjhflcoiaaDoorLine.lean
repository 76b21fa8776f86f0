/-
  Contracts of Line and Lines of package edit. No condition beyond those that each theorem states.
-/
import Derived.Test.YtpmgccjhflcoiaaDoorBack
import Derived.Test.YtpmgccjhflcoiaaDoorNewl
namespace Go.Proofs.YtpmgccjhflcoiaaDoor
open Go.RowKit
set_option linter.unusedSimpArgs false
set_option linter.unusedVariables false

theorem last_ok (s : ByteArray) (p : Nat) (hp : p ≤ s.size) (hs : s.size ≤ 1000000) (w : World) :
    ∃ q : Nat, q ≤ p ∧ Begins s q ∧ nl s q = nl s p ∧ Calls Tryd.prog 46 #[.string (s.extract 0 p), .string ⟨#[10]⟩] w fun e w' => e = .returned (.int .i64 ((q : Int) - 1)) ∧ w' = w := by
  obtain ⟨q, h1, h2, h3, h4⟩ := lastIndex_begins s p hp
  refine ⟨q, h1, h2, h3, ?_⟩
  rw [← h4]
  have hz : (s.extract 0 p).size = p := by simp; omega
  exact Tryd.strings_LastIndex_one (s.extract 0 p) ⟨#[10]⟩ rfl (by omega) w
theorem count_ok (s : ByteArray) (p : Nat) (hp : p ≤ s.size) (w : World) :
    Calls Tryd.prog 45 #[.string (s.extract 0 p), .string ⟨#[10]⟩] w fun e w' => e = .returned (.int .i64 (nl s p : Nat)) ∧ w' = w := by
  rw [← count_nl s p hp]
  exact Tryd.strings_Count_one (s.extract 0 p) 10 w
theorem lines2_ok (s : ByteArray) (hs : s.size ≤ 1000000) (w : World) :
    Calls Tryd.prog 25 #[.string s] w fun e w' => e = .returned (.int .i64 (1 + (nl s s.size : Nat))) ∧ w = w' := by
  have h := Tryd.strings_Count_one s 10 w
  rw [count_all] at h
  have hn := nl_le s s.size
  have hn2 : nl s s.size ≤ 1000000 := by omega
  clear hn
  generalize nl s s.size = n at *
  go_enter Tryd.func25, Tryd.ntmps25
  go_wp2_with fail
  refine h.mono ?_
  rintro e w' ⟨rfl, rfl⟩
  clear h
  go_wp2_with fail
  go_ret
  exact ⟨rfl, rfl⟩
/-- what Line tells of a place that is a caret -/
def LineIs (s : ByteArray) (p : Nat) (k : Nat) : Prop := ∃ q, q ≤ p ∧ Begins s q ∧ nl s q = nl s p ∧ posF s q k = p
theorem line_is (s : ByteArray) (q p n : Nat) (hq : q ≤ p) (hp : p ≤ s.size) (hb : Begins s q) (hn : nl s q = nl s p) (hc : caretN s p = true) (h : pos (s.extract q p) n = (s.extract q p).size) : LineIs s p n := by
  obtain ⟨a, ha⟩ := (caret_iff s q (by omega)).1 (begins_caret s q (by omega) hb)
  obtain ⟨b, hb2⟩ := (caret_iff s p hp).1 hc
  have hab : a ≤ b := by
    rcases Nat.lt_or_ge b a with h1 | h1
    · have := pos_lt s b; have := pos_mono s (show b + 1 ≤ a from h1); omega
    · exact h1
  have hk : posF s q (b - a) = p := by rw [← ha, posF_pos, show a + (b - a) = b from by omega, hb2]
  have := count_ext s q p (b - a) n hq hp hc hk h
  subst this
  exact ⟨q, hq, hb, hn, hk⟩
theorem line_no (s : ByteArray) (p : Int) (hs : s.size ≤ 1000000) (w : World) (hT : Tabs w) (hc : caretI s p = false) :
    Calls Tryd.prog 26 #[.string s, .int .i64 p] w fun e w' => e = .returned (.tuple #[.int .i64 0, .int .i64 0, .bool false]) ∧ Below w.heap.size w w' := by
  have c1 := ucaret_ok s p hs w hT
  rw [hc] at c1
  clear hc hT
  go_enter Tryd.func26, Tryd.ntmps26
  go_wp2_with fail
  refine c1.mono ?_
  rintro e w2 ⟨rfl, hb2⟩
  clear c1
  go_wp2_with fail
  go_ret3
  exact ⟨rfl, hb2⟩
def LineSays (s : ByteArray) (p : Nat) (w : World) (e : Ending) (w' : World) : Prop := ∃ k : Nat, e = .returned (.tuple #[.int .i64 (nl s p : Nat), .int .i64 k, .bool true]) ∧ LineIs s p k ∧ Below w.heap.size w w'
set_option maxRecDepth 100000 in
theorem line_yes (s : ByteArray) (p : Nat) (hs : s.size ≤ 1000000) (w : World) (hT : Tabs w) (hc : caretI s p = true) :
    Calls Tryd.prog 26 #[.string s, .int .i64 p] w (LineSays s p w) := by
  have c1 := ucaret_ok s p hs w hT
  have hp : p ≤ s.size := by
    unfold caretI at hc
    rw [Bool.and_eq_true, decide_eq_true_iff] at hc
    omega
  have hcn : caretN s p = true := by
    unfold caretI at hc
    rw [Bool.and_eq_true, Int.toNat_natCast] at hc
    exact hc.2
  rw [hc] at c1
  have Hcn := (show Hid _ from hcn)
  have HT := (show Hid _ from hT)
  clear hc hT hcn
  go_enter Tryd.func26, Tryd.ntmps26
  go_wp2_with fail
  refine c1.mono ?_
  rintro e w2 ⟨rfl, hb2⟩
  clear c1
  have c2 := count_ok s p hp w2
  obtain ⟨q, hq, hbq, hnq, c3⟩ := last_ok s p hp hs w2
  have HQ := (show Hid _ from And.intro hbq (And.intro hnq hq))
  have c4 := ucount_ok (s.extract q p) (by rw [ext_len s q p hp]; omega) w2 (Utf8Tabs_below HT.out hb2)
  have hlen : (s.extract 0 p).size = p := by rw [ext_len s 0 p hp]; rfl
  have hsl : ∀ W : World, (Instr.slice 9 (.string (s.extract 0 p)) (some (.int .i64 (q : Int))) none none).run Tryd.prog W = .ok (.string (s.extract q p)) W := by
    intro W
    have h := run_slice_string_from_if (P := Tryd.prog) W 9 (s.extract 0 p) .i64 (q : Int) Tryd.underlying9
    rw [h, if_pos (by omega), Int.toNat_natCast, hlen, ByteArray.extract_extract]
    congr 2 <;> congr 1 <;> omega
  have hnl := nl_le s p
  have Hn := (show Hid (nl s p = nl s p) from rfl)
  clear hbq hnq
  go_wp2_with fail
  refine c2.mono ?_
  rintro e w' ⟨rfl, rfl⟩
  clear c2
  go_wp2_with fail
  refine c3.mono ?_
  rintro e w' ⟨rfl, rfl⟩
  clear c3
  have z1 : IntKind.i64.wrap ((q : Int) - 1 + 1) = (q : Int) := by rw [show (q : Int) - 1 + 1 = (q : Int) from by omega]; exact IntWalk.i64_in _ (by omega)
  go_wp2_with fail
  refine c4.mono ?_
  rintro e w3 ⟨n, rfl, hn, hb3⟩
  have Hl := (show Hid _ from line_is s q p n HQ.out.2.2 hp HQ.out.1 HQ.out.2.1 Hcn.out hn)
  have hq := hb2.trans (hb3.mono hb2.size)
  clear c4 hn hb3 hb2
  go_wp2_with fail
  go_ret3
  exact ⟨n, rfl, Hl.out, hq⟩
end Go.Proofs.YtpmgccjhflcoiaaDoor
