/-
  Contract of List of package bits: its numbers, rising. No condition beyond those that each theorem states.
-/
import Derived.Test.YtccccbkllplojaaDoorRList
namespace Go.Proofs.YtccccbkllplojaaDoor
open Go.RowKit
set_option linter.unusedSimpArgs false
set_option linter.unusedVariables false

theorem Tab.below {w w' : World} (h : Tab 0 w) (hb : Below w.heap.size w w') : Tab 0 w' := fun j hj => (hb.cell (cell_lt (h j hj))).trans (h j hj)

set_option maxRecDepth 100000 in
theorem list_ok (w : World) (v : Value) (l : List Nat) (hv : Words w v l) (hl : l.length ≤ 1024) (hf : Fit l) (hT : Tab 0 w) :
    Calls Tryd.prog 7 #[v] w fun e w' => ∃ v', e = .returned v' ∧ OwnI w.heap.size w' v' (lst l) ∧ Below w.heap.size w w' := by
  obtain ⟨i0, hi, hz0, hz1, hz2⟩ := info_parts info3
  have hc := count_ok w v l hv hl hf
  have hS := (show Hid (∀ W, Below w.heap.size w W → Calls Tryd.prog 24 #[v] W fun e w' => ∃ a n cap, e = .returned (.slice a n cap) ∧ Wn W a n cap (seenl l) ∧ Hid (∀ W, Words W v l → Wn W a n cap (seenl l)) ∧ W = w') from fun W hb => seen_w W v l (hv.below hb) hl)
  have hb0 := (show Hid (∀ W, Below w.heap.size w W → Words W v l) from fun W hb => hv.below hb)
  have f1 := seen_fit hf
  have e1 := seen_le l
  have hcl : (lst l).length ≤ 65536 := by rw [← cnt_lst]; have := cnt_le l; omega
  have hcl := (show Hid _ from hcl)
  have Hl := (show Hid (lst l = blw (seenl l) 0) from by rw [blw_lst, lst_seen]; rfl)
  obtain ⟨a, n, cap, rfl, -⟩ := Words.wn hv
  generalize seenl l = l1 at *
  generalize (lst l).length = c at hc hcl
  go_enter Tryd.func7, Tryd.ntmps7
  go_wp2_with fail
  refine hc.mono ?_
  rintro e w' ⟨rfl, rfl⟩
  clear hc
  go_wp2_with (at_make; refine wpList_make_own _ rfl _ _ 24 rfl w.heap.size 3 i0 (.int .i64 0) 1 Tryd.underlying24 hi hz0 hz1 _ _ _ c rfl rfl rfl (by have := hcl.out; rw [hz2]; omega) (by have := hcl.out; unfold maxLen; omega) (Nat.le_refl _) ?_; intro w1 hown1 hgrow1)
  have hb1 : Below w.heap.size w w1 := (Below.refl _ _).grown hgrow1 (Nat.le_refl _) (fun k hk => by cases hk)
  clear hgrow1
  have s2 := hS.out w1 hb1
  refine s2.mono ?_
  rintro e w' ⟨a1, k, cap1, rfl, h2, hall, rfl⟩
  clear s2 hS h2
  have hk : k ≤ 1024 := by have := (hall.out w hv).len.out; omega
  have hkl := (hall.out w hv).len
  clear e1 hl
  go_wp2_with fail
  go_loopg [3, 12] k (fun g v3 n0 W => ∃ (q : Nat), n0 = .int .i64 q ∧ g + q = k ∧ OwnI w.heap.size W v3 (blw (l1.take q) 0) ∧ Below w.heap.size w W)
  case atStart => exact ⟨0, rfl, by omega, by unfold OwnI; simpa [blw] using hown1, hb1⟩
  case round =>
    clear hown1 hb1
    obtain ⟨q, rfl, hq, ho, hb⟩ := hrel
    by_cases hqn : q < k
    · obtain ⟨b1, o1, rfl, hcell⟩ := (hall.out wr (hb0.out wr hb)).at_ q hqn
      have hx := f1.getD q
      have hnext : blw (l1.take (q + 1)) 0 = blw (l1.take q) 0 ++ bl 64 (l1.getD q 0) (64 * q) := by
        have hq2 : q < l1.length := by have := hkl.out; omega
        rw [List.take_add_one, List.getElem?_eq_getElem hq2, blw_app, getD_lt l1 q hq2]
        have : (l1.take q).length = q := by simp; omega
        rw [this]
        simp [blw]
      have Hnext := (show Hid _ from hnext)
      clear hnext
      have hle : Hid ((blw (l1.take (q + 1)) 0).length ≤ 65536) := by
        have h1 := cnt_le (l1.take (q + 1))
        rw [cnt_blw _ 0] at h1
        have : (l1.take (q + 1)).length ≤ 1024 := by simp; omega
        exact (show _ ≤ _ from by omega)
      generalize htg : blw (l1.take (q + 1)) 0 = tgt at Hnext hle
      have Htg := (show Hid _ from htg)
      clear htg
      generalize blw (l1.take q) 0 = acc0 at ho Hnext
      generalize l1.getD q 0 = x0 at hcell hx Hnext
      obtain ⟨gko, rfl⟩ : ∃ x : Nat, x = gk := ⟨_, rfl⟩
      go_wp2_with fail
      have hle2 : Hid (∀ acc x, tgt = acc ++ bl 64 x (64 * q) → acc.length ≤ 65536) := fun acc x e => by
        have := hle.out
        rw [e] at this
        simp at this
        omega
      clear hle hcell
      go_loopg [3, 5] x0 (fun g s3 s5 W => ∃ (x : Nat) (acc : List Nat), s5 = .int .u64 (x : Int) ∧ x ≤ g ∧ x < 18446744073709551616 ∧ OwnI w.heap.size W s3 acc ∧ Hid (tgt = acc ++ bl 64 x (64 * q)) ∧ Below w.heap.size w W)
      case atStart => exact ⟨x0, acc0, rfl, Nat.le_refl _, hx, ho, Hnext, hb⟩
      case round =>
        clear ho hb
        obtain ⟨x, acc, rfl, hxg, hx, ho, Hn, hb⟩ := hrel
        by_cases hx0 : x = 0
        · subst hx0
          have Hn : Hid (tgt = acc) := by have := Hn.out; rwa [bl_zero, List.append_nil] at this
          go_wp2_with fail
          go_roundg (gko - 1)
          case measure => omega
          case rel => exact ⟨q + 1, by go_num, by omega, by rw [Htg.out, Hn.out]; exact ho, hb⟩
        · have hne : ((x : Int) != 0) = true := by simp; omega
          have hne2 : ((x : Int) == 0) = false := by simp; omega
          have htz := tz_ok x hx wr (hT.below hb)
          have hsub : IntKind.u64.wrap ((x : Int) - 1) = ((x - 1 : Nat) : Int) := by rw [IntKind.wrap_u64]; omega
          have hand := bits_and_u64_nat x (x - 1) hx (by omega)
          have hlt : x &&& (x - 1) ≤ x - 1 := Nat.and_le_right
          have hctz : Lib.ctz 64 x = Lib.ctzFrom 64 x := by unfold Lib.ctz; rw [if_neg hx0]
          have hctl : Lib.ctz 64 x ≤ 64 := by have := (Lib.lowest_bit 64 x hx0 hx).2; omega
          have hstep := bl_step 64 x (64 * q) hx0 hx
          rw [← hctz] at hstep
          have Hn2 : Hid (tgt = (acc ++ [64 * q + Lib.ctz 64 x]) ++ bl 64 (x &&& (x - 1)) (64 * q)) := by
            have := Hn.out; rw [hstep] at this; exact (show tgt = _ from by rw [this]; simp)
          have hal : Hid (acc.length ≤ 65536) := hle2.out acc x Hn.out
          clear Hn hstep hctz
          generalize Lib.ctz 64 x = c at htz hctl Hn2
          generalize x &&& (x - 1) = y at hand hlt Hn2
          have hsz : w.heap.size ≤ wr.heap.size := hb.size
          have Hne := (show Hid (0 < x) from (show 0 < x by omega))
          clear hx0
          unfold OwnI at ho
          go_wp2_with fail
          refine htz.mono ?_
          rintro e w' ⟨rfl, rfl⟩
          clear htz
          go_wp2_with (at_builtin; refine wpList_append_own _ rfl _ _ 24 rfl w.heap.size 3 i0 (.int .i64 0) 1 8 Tryd.underlying24 hi hz0 hz1 hz2 rfl (by decide) _ _ _ rfl (World.ownsRow.alloc ho _) ⟨wr.heap.size, 0, none⟩ 1 1 [.int .i64 _] rfl rfl (cell_one_new _ _ _) (one_int _ _) (by have := hal.out; unfold maxLen; omega) (by have := hal.out; omega) (by simp; omega) ?_; intro v' w5 hown5 hgrow5 _)
          go_roundg y
          case measure => have := Hne.out; omega
          case rel =>
            refine ⟨y, acc ++ [64 * q + c], rfl, Nat.le_refl _, by omega, ?_, Hn2, ?_⟩
            · have e : ((64 * q + c : Nat) : Int) = (q : Int) * 64 + (c : Int) := by omega
              unfold OwnI
              simp only [List.map_append, List.map_cons, List.map_nil, List.length_append, List.length_cons, List.length_nil, Nat.zero_add]
              rw [e]
              exact hown5
            · exact (hb.alloc hsz _).grown hgrow5 (by simp; omega) (own_block ho)
    · obtain rfl : q = k := by omega
      have ho' : OwnI w.heap.size wr u3 (lst l) := by
        rw [Hl.out, ← List.take_of_length_le (l := l1) (i := q) (by rw [hkl.out]; exact Nat.le_refl _)]; exact ho
      clear ho
      go_wp2_with fail
      go_ret
      exact ⟨_, rfl, ho', hb⟩
end Go.Proofs.YtccccbkllplojaaDoor
