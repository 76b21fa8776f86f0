/-
  Contract of Key of package bits; keys are alike just for words that are alike. No condition beyond those that each theorem states.
-/
import Derived.Test.YtccccbkllplojaaDoorRList
import Derived.Laws.IdiomStrings
namespace Go.Proofs.YtccccbkllplojaaDoor
open Go.RowKit
set_option linter.unusedSimpArgs false
set_option linter.unusedVariables false

/-- the n lowest bytes of a word, the lowest one first -/
def by8 : Nat → Nat → List UInt8
  | 0, _ => []
  | n + 1, x => UInt8.ofNat x :: by8 n (x / 256)
theorem by8_len (n x : Nat) : (by8 n x).length = n := by
  induction n generalizing x with
  | zero => rfl
  | succ n ih => simp [by8, ih]
theorem by8_inj (n x y : Nat) (hx : x < 256 ^ n) (hy : y < 256 ^ n) (h : by8 n x = by8 n y) : x = y := by
  induction n generalizing x y with
  | zero => simp at hx hy; omega
  | succ n ih =>
    simp only [by8, List.cons.injEq] at h
    have h1 := congrArg UInt8.toNat h.1
    simp only [UInt8.toNat_ofNat'] at h1
    rw [Nat.pow_succ] at hx hy
    have := ih (x / 256) (y / 256) (by omega) (by omega) h.2
    omega
/-- the bytes of a row of words -/
def keyb (l : List Nat) : List UInt8 := l.flatMap (by8 8)
theorem keyb_len (l : List Nat) : (keyb l).length = 8 * l.length := by
  induction l with
  | nil => rfl
  | cons x r ih => simp only [keyb, List.flatMap_cons, List.length_append, by8_len] at *; rw [ih]; simp; omega
theorem keyb_inj {a b : List Nat} (ha : Fit a) (hb : Fit b) (h : keyb a = keyb b) : a = b := by
  induction a generalizing b with
  | nil =>
    have := congrArg List.length h
    rw [keyb_len, keyb_len] at this
    exact (List.eq_nil_of_length_eq_zero (by simp at this; omega)).symm
  | cons x r ih =>
    cases b with
    | nil =>
      have := congrArg List.length h
      rw [keyb_len, keyb_len] at this
      simp at this
    | cons y s =>
      simp only [keyb, List.flatMap_cons] at h
      have := List.append_inj h (by rw [by8_len, by8_len])
      have e1 : x = y := by8_inj 8 x y (ha x (by simp)) (hb y (by simp)) this.1
      have e2 : r = s := ih (fun z hz => ha z (by simp [hz])) (fun z hz => hb z (by simp [hz])) this.2
      rw [e1, e2]
/-- the key of a set -/
def keyOf' (l : List Nat) : ByteArray := ⟨(keyb (seenl l)).toArray⟩
theorem key_iff {a b : List Nat} (ha : Fit a) (hb : Fit b) : keyOf' a = keyOf' b ↔ seenl a = seenl b := by
  constructor
  · intro h
    refine keyb_inj (seen_fit ha) (seen_fit hb) ?_
    have := congrArg ByteArray.data h
    simpa [keyOf'] using this
  · intro h
    unfold keyOf'
    rw [h]

theorem info5 : (Tryd.prog.info? 5).map (fun i => (i.zero, i.size, i.bytes)) = some (some (.int .u8 0), 1, 1) := by kernel_rfl
def bval (b : UInt8) : Value := .int .u8 (b.toNat : Int)
def OwnB (B : Nat) (w : World) (v : Value) (l : List UInt8) : Prop := w.ownsRow B 5 1 v l.length (l.map bval)
theorem u8_wrap (x : Nat) : IntKind.u8.wrap (x : Int) = ((UInt8.ofNat x).toNat : Int) := by
  rw [UInt8.toNat_ofNat']
  simp [IntKind.wrap_u8]
theorem OwnB.string {B : Nat} {w : World} {v : Value} {l : List UInt8} (h : OwnB B w v l) : (convert 45 9 v).run Tryd.prog w = .ok (.string ⟨l.toArray⟩) w := by
  unfold OwnB at h
  rcases h.2 with ⟨rfl, h0⟩ | ⟨g, cap, cur, rfl, hg, _⟩
  · have : l = [] := List.eq_nil_of_length_eq_zero h0
    subst this
    rw [run_convert_bytes_string w 45 9 5 none 0 0 Tryd.underlying45 Tryd.underlying5 Tryd.underlying9]
    rfl
  · refine run_convert_bytes_back w 45 9 5 _ _ l Tryd.underlying45 Tryd.underlying5 Tryd.underlying9 fun j hj => ?_
    have hcell := World.ownsRow.cellAt h j (by omega)
    have ha : (⟨g, 0, none⟩ : Addr).add j = ⟨g, j, none⟩ := by
      unfold Addr.add
      split
      · rename_i h0; subst h0; rfl
      · simp
    rw [ha, hcell]
    simp [hj, bval]

set_option maxRecDepth 100000 in
theorem key_ok (w : World) (v : Value) (l : List Nat) (hv : Words w v l) (hl : l.length ≤ 1024) (hf : Fit l) :
    Calls Tryd.prog 11 #[v] w fun e w' => e = .returned (.string (keyOf' l)) ∧ Below w.heap.size w w' := by
  obtain ⟨i0, hi, hz0, hz1, hz2⟩ := info_parts info5
  have s1 := seen_w w v l hv hl
  have e1 := seen_le l
  have f1 := seen_fit hf
  have hb0 := (show Hid (∀ W, Below w.heap.size w W → Words W v l) from fun W hb => hv.below hb)
  unfold keyOf'
  obtain ⟨a, n, cap, rfl, -⟩ := Words.wn hv
  generalize seenl l = l1 at *
  go_enter Tryd.func11, Tryd.ntmps11
  go_wp2_with fail
  refine s1.mono ?_
  rintro e w' ⟨a1, k, cap1, rfl, h1, hall, rfl⟩
  clear s1
  have hk : k ≤ 1024 := by have := h1.len.out; omega
  have hkl := h1.len
  clear e1 hl
  go_wp2_with (at_make; refine wpList_make_own _ rfl _ _ 45 rfl w.heap.size 5 i0 (.int .u8 0) 1 Tryd.underlying45 hi hz0 hz1 _ _ _ (8 * k) rfl rfl (by omega) (by rw [hz2]; omega) (by unfold maxLen; omega) (Nat.le_refl _) ?_; intro w1 hown1 hgrow1)
  have hb1 : Below w.heap.size w w1 := (Below.refl _ _).grown hgrow1 (Nat.le_refl _) (fun k hk => by cases hk)
  clear hgrow1
  go_wp2_with fail
  go_loopg [4, 15] k (fun g v3 n0 W => ∃ (q : Nat), n0 = .int .i64 q ∧ g + q = k ∧ OwnB w.heap.size W v3 (keyb (l1.take q)) ∧ Below w.heap.size w W)
  case atStart => exact ⟨0, rfl, by omega, by unfold OwnB; simpa [keyb] using hown1, hb1⟩
  case round =>
    clear hown1 hb1
    obtain ⟨q, rfl, hq, ho, hb⟩ := hrel
    by_cases hqn : q < k
    · obtain ⟨b1, o1, rfl, hcell⟩ := (hall.out wr (hb0.out wr hb)).at_ q hqn
      have hx := f1.getD q
      have hnext : keyb (l1.take (q + 1)) = keyb (l1.take q) ++ by8 8 (l1.getD q 0) := by
        have hq2 : q < l1.length := by have := hkl.out; omega
        rw [List.take_add_one, List.getElem?_eq_getElem hq2, getD_lt l1 q hq2]
        simp only [keyb, List.flatMap_append, Option.toList_some, List.flatMap_cons, List.flatMap_nil, List.append_nil]
      have hle : (keyb (l1.take q)).length ≤ 8192 := by rw [keyb_len]; simp; omega
      have Hnext := (show Hid _ from hnext)
      have Hle := (show Hid _ from hle)
      clear hnext hle
      generalize htg : keyb (l1.take (q + 1)) = tgt at Hnext
      have Htg := (show Hid _ from htg)
      clear htg
      generalize keyb (l1.take q) = acc0 at ho Hnext Hle
      generalize l1.getD q 0 = x0 at hcell hx Hnext
      obtain ⟨gko, rfl⟩ : ∃ x : Nat, x = gk := ⟨_, rfl⟩
      go_wp2_with fail
      go_loopg [4, 6, 19] 8 (fun g s4 s6 s19 W => ∃ (r x : Nat) (acc : List UInt8), s19 = .int .i64 (r : Int) ∧ s6 = .int .u64 (x : Int) ∧ g + r = 8 ∧ x < 18446744073709551616 ∧ OwnB w.heap.size W s4 acc ∧ Hid (acc.length = acc0.length + r) ∧ Hid (tgt = acc ++ by8 (8 - r) x) ∧ Below w.heap.size w W)
      case atStart => exact ⟨0, x0, acc0, rfl, rfl, rfl, hx, ho, rfl, Hnext, hb⟩
      case round =>
        clear ho hb
        obtain ⟨r, x, acc, rfl, rfl, hr, hx, ho, Hal, Hn, hb⟩ := hrel
        by_cases hr8 : r < 8
        · have hwr := u8_wrap x
          have hdiv : (x : Int) / 256 = ((x / 256 : Nat) : Int) := by omega
          have hx2 : x / 256 < 18446744073709551616 := by omega
          have hal : Hid (acc.length ≤ 8200) := by have := Hal.out; have := Hle.out; exact (show _ ≤ _ from by omega)
          have Hn2 : Hid (tgt = (acc ++ [UInt8.ofNat x]) ++ by8 (8 - (r + 1)) (x / 256)) := by
            have := Hn.out
            rw [show 8 - r = (8 - (r + 1)) + 1 from by omega, by8] at this
            exact (show tgt = _ from by rw [this]; simp)
          clear Hn
          generalize x / 256 = y at hdiv hx2 Hn2
          have hsz : w.heap.size ≤ wr.heap.size := hb.size
          generalize UInt8.ofNat x = b at hwr Hn2
          unfold OwnB at ho
          go_wp2_with (at_builtin; refine wpList_append_own _ rfl _ _ 45 rfl w.heap.size 5 i0 (.int .u8 0) 1 1 Tryd.underlying45 hi hz0 hz1 hz2 rfl (by decide) _ _ _ rfl (World.ownsRow.alloc ho _) ⟨wr.heap.size, 0, none⟩ 1 1 [.int .u8 _] rfl rfl (cell_one_new _ _ _) (one_int _ _) (by have := hal.out; unfold maxLen; omega) (by have := hal.out; omega) (by simp; omega) ?_; intro v' w5 hown5 hgrow5 _)
          go_roundg (gk - 1)
          case measure => omega
          case rel =>
            refine ⟨r + 1, y, acc ++ [b], by go_num, by go_num, by omega, hx2, ?_, by have := Hal.out; exact (show _ = _ from by simp; omega), Hn2, ?_⟩
            · unfold OwnB
              simpa [bval] using hown5
            · exact (hb.alloc hsz _).grown hgrow5 (by simp; omega) (own_block ho)
        · obtain rfl : r = 8 := by omega
          have Hn : Hid (tgt = acc) := by have := Hn.out; exact (show tgt = acc from by simpa [by8] using this)
          go_wp2_with fail
          go_roundg (gko - 1)
          case measure => omega
          case rel => exact ⟨q + 1, by go_num, by omega, by rw [Htg.out, Hn.out]; exact ho, hb⟩
    · obtain rfl : q = k := by omega
      have hconv := OwnB.string ho
      rw [List.take_of_length_le (by rw [hkl.out]; exact Nat.le_refl _)] at hconv
      clear ho
      go_wp2_with fail
      go_ret
      exact ⟨rfl, hb⟩
end Go.Proofs.YtccccbkllplojaaDoor
