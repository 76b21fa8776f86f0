/-
  The walk of BitsMake: it tells true. No condition beyond those that the theorem states.
-/
import Derived.Test.YtccccbkllplojaaDoorRows3
namespace Go.Proofs.YtccccbkllplojaaDoor
open Go.RowKit
set_option linter.unusedSimpArgs false
set_option linter.unusedVariables false

def SameUpto (a b : List Nat) (q : Nat) (sm : Bool) : Prop := sm = true ↔ ∀ m, m < q → has a m = has b m

set_option maxRecDepth 100000 in
set_option maxHeartbeats 1000000 in
theorem bitsMake_walk (w : World) (u v : Value) (a b : List Nat) (hu0 : Words w u a) (hv0 : Words w v b) (fa : Fit a) (fb : Fit b) (hT : Tab 0 w) :
    Calls Tryd.prog 5 #[u, v] w fun e w' => e = .returned (.bool true) ∧ Below w.heap.size w w' := by
  obtain ⟨i0, hi, hz0, hz1, hz2⟩ := info_parts info3
  obtain ⟨au, n1, cap1, rfl, wu⟩ := Words.wn hu0
  obtain ⟨av, n2, cap2, rfl, wv⟩ := Words.wn hv0
  by_cases hbig : 20 < n1
  · clear wu wv hu0 hv0
    go_enter Tryd.func5, Tryd.ntmps5
    go_wp2_with fail
    go_ret
    exact ⟨rfl, Below.refl _ _⟩
  by_cases hbig2 : 20 < n2
  · clear wu wv hu0 hv0
    go_enter Tryd.func5, Tryd.ntmps5
    go_wp2_with fail
    go_ret
    exact ⟨rfl, Below.refl _ _⟩
  have hla : Hid (a.length ≤ 20) := by have := wu.len.out; exact (show a.length ≤ 20 by omega)
  have hlb : Hid (b.length ≤ 20) := by have := wv.len.out; exact (show b.length ≤ 20 by omega)
  have hu : St w (.slice au n1 cap1) a := ⟨hu0, by have := hla.out; omega, fa⟩
  have hv : St w (.slice av n2 cap2) b := ⟨hv0, by have := hlb.out; omega, fb⟩
  clear wu wv hu0 hv0 fa fb
  go_enter Tryd.func5, Tryd.ntmps5
  go_wp2_with fail
  go_loopg [5, 6, 7, 8, 9] 1280 (fun g s5 s6 s7 s8 s9 W => ∃ (q : Nat) (sm : Bool) (lo la ll : List Nat), s9 = .int .i64 (q : Int) ∧ s8 = .bool sm ∧ g + q = 1280 ∧ R3 w W s5 s6 s7 lo la ll ∧ Hid (Upto q (fun k => has a k || has b k) lo ∧ Upto q (fun k => has a k && has b k) la ∧ Upto q (fun k => has a k && !has b k) ll ∧ SameUpto a b q sm))
  case atStart => exact ⟨0, true, [], [], [], rfl, rfl, rfl, R3.start w, Upto.zero _, Upto.zero _, Upto.zero _, by simp [SameUpto]⟩
  case round =>
    obtain ⟨q, sm, lo, la, ll, rfl, rfl, hq, hR, HU⟩ := hrel
    by_cases hqn : q < 1280
    · have c1 := rhas_s (hu.below hR.bel) q (by omega)
      have c2 := rhas_s (hv.below hR.bel) q (by omega)
      have HR := (show Hid _ from hR)
      have hsz : w.heap.size ≤ wr.heap.size := hR.bel.size
      have HL := (show Hid (lo.length ≤ 1280 ∧ la.length ≤ 1280 ∧ ll.length ≤ 1280) from ⟨by have := HU.out.1.len; omega, by have := HU.out.2.1.len; omega, by have := HU.out.2.2.1.len; omega⟩)
      clear hR
      cases hx : has a q
      · cases hy : has b q
        · skip
          rw [hx] at c1
          rw [hy] at c2
          have HU' : Hid (Upto (q + 1) (fun k => has a k || has b k) lo ∧ Upto (q + 1) (fun k => has a k && has b k) la ∧ Upto (q + 1) (fun k => has a k && !has b k) ll ∧ SameUpto a b (q + 1) sm) := by
            refine ⟨HU.out.1.no (by simp [hx, hy]), HU.out.2.1.no (by simp [hx, hy]), HU.out.2.2.1.no (by simp [hx, hy]), ?_⟩
            have hsm := HU.out.2.2.2
            unfold SameUpto at hsm ⊢
            rw [hsm]
            constructor
            · intro h m hm
              rcases Nat.lt_or_ge m q with h1 | h1
              · exact h m h1
              · obtain rfl : m = q := by omega
                rw [hx, hy]
            · intro h m hm; exact h m (by omega)
          clear HU hx hy
          go_wp2_with fail
          refine c1.mono ?_
          rintro e w' ⟨rfl, rfl⟩
          clear c1
          go_wp2_with fail
          refine c2.mono ?_
          rintro e w' ⟨rfl, rfl⟩
          clear c2
          cases sm
          all_goals
            go_wp2_with fail
            go_roundg (gk - 1)
            case measure => omega
            case rel => exact ⟨q + 1, _, _, _, _, by go_num, by simp, by omega, HR.out, HU'⟩
        · skip
          rw [hx] at c1
          rw [hy] at c2
          have HU' : Hid (Upto (q + 1) (fun k => has a k || has b k) (lo ++ [q]) ∧ Upto (q + 1) (fun k => has a k && has b k) la ∧ Upto (q + 1) (fun k => has a k && !has b k) ll ∧ SameUpto a b (q + 1) false) := by
            refine ⟨HU.out.1.yes (by simp [hx, hy]), HU.out.2.1.no (by simp [hx, hy]), HU.out.2.2.1.no (by simp [hx, hy]), ?_⟩
            unfold SameUpto
            constructor
            · intro h; cases h
            · intro h; have := h q (by omega); rw [hx, hy] at this; cases this
          clear HU hx hy
          go_wp2_with fail
          refine c1.mono ?_
          rintro e w' ⟨rfl, rfl⟩
          clear c1
          go_wp2_with fail
          refine c2.mono ?_
          rintro e w' ⟨rfl, rfl⟩
          clear c2
          go_upto_region 11 with (at_builtin; refine wpList_append_own_at _ rfl _ _ 24 rfl w.heap.size 3 i0 (.int .i64 0) 1 8 Tryd.underlying24 hi hz0 hz1 hz2 rfl (by decide) _ _ _ rfl (HR.out.alloc _).o1 ⟨wr.heap.size, 0, none⟩ 1 1 [.int .i64 ((q : Nat) : Int)] rfl rfl (cell_one_new _ _ _) (one_int _ _) (by have := HL.out; unfold maxLen; omega) (by have := HL.out; omega) (by simp; omega) ?_; intro v1 w1 hown1 hgrow1 _ hat1)
          have HR1 := (show Hid _ from (HR.out.alloc _).app1 hown1 hgrow1 hat1)
          have hsz1 : w.heap.size ≤ w1.heap.size := HR1.out.bel.size
          clear hown1 hgrow1 hat1 HR
          cases sm
          all_goals
            go_wp2_with fail
            go_roundg (gk - 1)
            case measure => omega
            case rel => exact ⟨q + 1, _, _, _, _, by go_num, by simp, by omega, HR1.out, HU'⟩
      · cases hy : has b q
        · skip
          rw [hx] at c1
          rw [hy] at c2
          have HU' : Hid (Upto (q + 1) (fun k => has a k || has b k) (lo ++ [q]) ∧ Upto (q + 1) (fun k => has a k && has b k) la ∧ Upto (q + 1) (fun k => has a k && !has b k) (ll ++ [q]) ∧ SameUpto a b (q + 1) false) := by
            refine ⟨HU.out.1.yes (by simp [hx, hy]), HU.out.2.1.no (by simp [hx, hy]), HU.out.2.2.1.yes (by simp [hx, hy]), ?_⟩
            unfold SameUpto
            constructor
            · intro h; cases h
            · intro h; have := h q (by omega); rw [hx, hy] at this; cases this
          clear HU hx hy
          go_wp2_with fail
          refine c1.mono ?_
          rintro e w' ⟨rfl, rfl⟩
          clear c1
          go_wp2_with fail
          refine c2.mono ?_
          rintro e w' ⟨rfl, rfl⟩
          clear c2
          go_upto_region 11 with (at_builtin; refine wpList_append_own_at _ rfl _ _ 24 rfl w.heap.size 3 i0 (.int .i64 0) 1 8 Tryd.underlying24 hi hz0 hz1 hz2 rfl (by decide) _ _ _ rfl (HR.out.alloc _).o1 ⟨wr.heap.size, 0, none⟩ 1 1 [.int .i64 ((q : Nat) : Int)] rfl rfl (cell_one_new _ _ _) (one_int _ _) (by have := HL.out; unfold maxLen; omega) (by have := HL.out; omega) (by simp; omega) ?_; intro v1 w1 hown1 hgrow1 _ hat1)
          have HR1 := (show Hid _ from (HR.out.alloc _).app1 hown1 hgrow1 hat1)
          have hsz1 : w.heap.size ≤ w1.heap.size := HR1.out.bel.size
          clear hown1 hgrow1 hat1 HR
          go_upto_region 15 with (at_builtin; refine wpList_append_own_at _ rfl _ _ 24 rfl w.heap.size 3 i0 (.int .i64 0) 1 8 Tryd.underlying24 hi hz0 hz1 hz2 rfl (by decide) _ _ _ rfl (HR1.out.alloc _).o3 ⟨w1.heap.size, 0, none⟩ 1 1 [.int .i64 ((q : Nat) : Int)] rfl rfl (cell_one_new _ _ _) (one_int _ _) (by have := HL.out; unfold maxLen; omega) (by have := HL.out; omega) (by simp; omega) ?_; intro v2 w2 hown2 hgrow2 _ hat2)
          have HR2 := (show Hid _ from (HR1.out.alloc _).app3 hown2 hgrow2 hat2)
          have hsz2 : w.heap.size ≤ w2.heap.size := HR2.out.bel.size
          clear hown2 hgrow2 hat2 HR1
          cases sm
          all_goals
            go_wp2_with fail
            go_roundg (gk - 1)
            case measure => omega
            case rel => exact ⟨q + 1, _, _, _, _, by go_num, by simp, by omega, HR2.out, HU'⟩
        · skip
          rw [hx] at c1
          rw [hy] at c2
          have HU' : Hid (Upto (q + 1) (fun k => has a k || has b k) (lo ++ [q]) ∧ Upto (q + 1) (fun k => has a k && has b k) (la ++ [q]) ∧ Upto (q + 1) (fun k => has a k && !has b k) ll ∧ SameUpto a b (q + 1) sm) := by
            refine ⟨HU.out.1.yes (by simp [hx, hy]), HU.out.2.1.yes (by simp [hx, hy]), HU.out.2.2.1.no (by simp [hx, hy]), ?_⟩
            have hsm := HU.out.2.2.2
            unfold SameUpto at hsm ⊢
            rw [hsm]
            constructor
            · intro h m hm
              rcases Nat.lt_or_ge m q with h1 | h1
              · exact h m h1
              · obtain rfl : m = q := by omega
                rw [hx, hy]
            · intro h m hm; exact h m (by omega)
          clear HU hx hy
          go_wp2_with fail
          refine c1.mono ?_
          rintro e w' ⟨rfl, rfl⟩
          clear c1
          go_wp2_with fail
          refine c2.mono ?_
          rintro e w' ⟨rfl, rfl⟩
          clear c2
          go_upto_region 11 with (at_builtin; refine wpList_append_own_at _ rfl _ _ 24 rfl w.heap.size 3 i0 (.int .i64 0) 1 8 Tryd.underlying24 hi hz0 hz1 hz2 rfl (by decide) _ _ _ rfl (HR.out.alloc _).o1 ⟨wr.heap.size, 0, none⟩ 1 1 [.int .i64 ((q : Nat) : Int)] rfl rfl (cell_one_new _ _ _) (one_int _ _) (by have := HL.out; unfold maxLen; omega) (by have := HL.out; omega) (by simp; omega) ?_; intro v1 w1 hown1 hgrow1 _ hat1)
          have HR1 := (show Hid _ from (HR.out.alloc _).app1 hown1 hgrow1 hat1)
          have hsz1 : w.heap.size ≤ w1.heap.size := HR1.out.bel.size
          clear hown1 hgrow1 hat1 HR
          go_upto_region 13 with (at_builtin; refine wpList_append_own_at _ rfl _ _ 24 rfl w.heap.size 3 i0 (.int .i64 0) 1 8 Tryd.underlying24 hi hz0 hz1 hz2 rfl (by decide) _ _ _ rfl (HR1.out.alloc _).o2 ⟨w1.heap.size, 0, none⟩ 1 1 [.int .i64 ((q : Nat) : Int)] rfl rfl (cell_one_new _ _ _) (one_int _ _) (by have := HL.out; unfold maxLen; omega) (by have := HL.out; omega) (by simp; omega) ?_; intro v2 w2 hown2 hgrow2 _ hat2)
          have HR2 := (show Hid _ from (HR1.out.alloc _).app2 hown2 hgrow2 hat2)
          have hsz2 : w.heap.size ≤ w2.heap.size := HR2.out.bel.size
          clear hown2 hgrow2 hat2 HR1
          cases sm
          all_goals
            go_wp2_with fail
            go_roundg (gk - 1)
            case measure => omega
            case rel => exact ⟨q + 1, _, _, _, _, by go_num, by simp, by omega, HR2.out, HU'⟩
    · obtain rfl : q = 1280 := by omega
      have HR := (show Hid _ from hR)
      have hb := hR.bel
      have hsm : Hid (sm = true ↔ ∀ m, has a m = has b m) := by
        have hsm := HU.out.2.2.2
        unfold SameUpto at hsm
        have : (∀ m, m < 1280 → has a m = has b m) ↔ ∀ m, has a m = has b m := by
          constructor
          · intro h m
            rcases Nat.lt_or_ge m 1280 with h1 | h1
            · exact h m h1
            · rw [has_ge a m (by have := hla.out; omega), has_ge b m (by have := hlb.out; omega)]
          · intro h m _; exact h m
        rw [this] at hsm
        exact hsm
      have hmem : Hid ((∀ m, m ∈ lo ↔ (has a m || has b m) = true) ∧ (∀ m, m ∈ la ↔ (has a m && has b m) = true) ∧ (∀ m, m ∈ ll ↔ (has a m && !has b m) = true)) := by
        have key : ∀ (p : Nat → Bool) (l : List Nat), Upto 1280 p l → (∀ m, p m = true → m < 1280) → ∀ m, m ∈ l ↔ p m = true := fun p l h hp m => by
          rw [h.mem]
          exact ⟨fun h => h.2, fun h => ⟨hp m h, h⟩⟩
        have ha : ∀ m, has a m = true → m < 1280 := fun m h => by have := has_lt h; have := hla.out; omega
        have hb : ∀ m, has b m = true → m < 1280 := fun m h => by have := has_lt h; have := hlb.out; omega
        refine ⟨key _ _ HU.out.1 fun m h => ?_, key _ _ HU.out.2.1 fun m h => ?_, key _ _ HU.out.2.2.1 fun m h => ?_⟩
        · rcases Bool.or_eq_true _ _ ▸ h with h | h
          · exact ha m h
          · exact hb m h
        · rw [Bool.and_eq_true] at h; exact ha m h.1
        · rw [Bool.and_eq_true] at h; exact ha m h.1
      have HL := (show Hid ((lo.length ≤ 100000 ∧ ∀ m ∈ lo, m < 65536) ∧ (la.length ≤ 100000 ∧ ∀ m ∈ la, m < 65536) ∧ (ll.length ≤ 100000 ∧ ∀ m ∈ ll, m < 65536)) from
        ⟨⟨by have := HU.out.1.len; omega, fun m h => by have := ((HU.out.1.mem m).1 h).1; omega⟩, ⟨by have := HU.out.2.1.len; omega, fun m h => by have := ((HU.out.2.1.mem m).1 h).1; omega⟩, ⟨by have := HU.out.2.2.1.len; omega, fun m h => by have := ((HU.out.2.2.1.mem m).1 h).1; omega⟩⟩)
      have su := hu.below hb
      have sv := hv.below hb
      have hTr := hT.below hb
      clear hR HU hqn hq hu hv hT
      have kk : ∀ {x y : Bool}, (x = true ↔ y = true) → x = y := fun h => Bool.eq_iff_iff.2 h
      have KK := (show Hid (∀ {x y : Bool}, (x = true ↔ y = true) → x = y) from kk)
      clear kk
      have c1 := or_s su sv
      go_wp2_with fail
      refine c1.mono ?_
      rintro e x1 ⟨y1, t1, rfl, h1, T1, G1, B1⟩
      clear c1
      have BB1 : Below wr.heap.size wr x1 := B1
      have c2 := rof_s (HR.out.o1.below BB1) HL.out.1.1 HL.out.1.2
      go_wp2_with fail
      refine c2.mono ?_
      rintro e x2 ⟨y2, t2, rfl, h2, T2, G2, B2⟩
      clear c2
      have BB2 : Below wr.heap.size wr x2 := BB1.trans (B2.mono BB1.size)
      have c3 := is_s (h1.below B2) h2 T1 T2 (fun m => KK.out (by rw [G1.out, G2.out, hmem.out.1]))
      go_wp2_with fail
      refine c3.mono ?_
      rintro e x3 ⟨rfl, B3⟩
      have BB3 : Below wr.heap.size wr x3 := BB2.trans (B3.mono BB2.size)
      clear c3 G1 G2 h1 h2 T1 T2
      have c4 := and_s (su.below BB3) (sv.below BB3)
      go_wp2_with fail
      refine c4.mono ?_
      rintro e x4 ⟨y4, t4, rfl, h4, T4, G4, B4⟩
      clear c4
      have BB4 : Below wr.heap.size wr x4 := BB3.trans (B4.mono BB3.size)
      have c5 := rof_s (HR.out.o2.below BB4) HL.out.2.1.1 HL.out.2.1.2
      go_wp2_with fail
      refine c5.mono ?_
      rintro e x5 ⟨y5, t5, rfl, h5, T5, G5, B5⟩
      clear c5
      have BB5 : Below wr.heap.size wr x5 := BB4.trans (B5.mono BB4.size)
      have c6 := is_s (h4.below B5) h5 T4 T5 (fun m => KK.out (by rw [G4.out, G5.out, hmem.out.2.1]))
      go_wp2_with fail
      refine c6.mono ?_
      rintro e x6 ⟨rfl, B6⟩
      have BB6 : Below wr.heap.size wr x6 := BB5.trans (B6.mono BB5.size)
      clear c6 G4 G5 h4 h5 T4 T5
      have c7 := less_s (su.below BB6) (sv.below BB6)
      go_wp2_with fail
      refine c7.mono ?_
      rintro e x7 ⟨y7, t7, rfl, h7, T7, G7, B7⟩
      clear c7
      have BB7 : Below wr.heap.size wr x7 := BB6.trans (B7.mono BB6.size)
      have c8 := rof_s (HR.out.o3.below BB7) HL.out.2.2.1 HL.out.2.2.2
      go_wp2_with fail
      refine c8.mono ?_
      rintro e x8 ⟨y8, t8, rfl, h8, T8, G8, B8⟩
      clear c8
      have BB8 : Below wr.heap.size wr x8 := BB7.trans (B8.mono BB7.size)
      have c9 := is_s (h7.below B8) h8 T7 T8 (fun m => KK.out (by rw [G7.out, G8.out, hmem.out.2.2]))
      go_wp2_with fail
      refine c9.mono ?_
      rintro e x9 ⟨rfl, B9⟩
      have BB9 : Below wr.heap.size wr x9 := BB8.trans (B9.mono BB8.size)
      clear c9 G7 G8 h7 h8 T7 T8
      by_cases hs : ∀ m, has a m = has b m
      · have hsm2 : sm = true := hsm.out.2 hs
        subst hsm2
        have d1 := same_true (su.below BB9) (sv.below BB9) hs
        go_wp2_with fail
        refine d1.mono ?_
        rintro e w' ⟨rfl, rfl⟩
        clear d1
        have c10 := key_s (su.below BB9)
        go_wp2_with fail
        refine c10.mono ?_
        rintro e x10 ⟨rfl, B10⟩
        have BB10 : Below wr.heap.size wr x10 := BB9.trans (B10.mono BB9.size)
        clear c10
        have c11 := key_s (sv.below BB10)
        go_wp2_with fail
        refine c11.mono ?_
        rintro e x11 ⟨rfl, B11⟩
        have BB11 : Below wr.heap.size wr x11 := BB10.trans (B11.mono BB10.size)
        clear c11
        have hk : keyOf' a = keyOf' b := (key_iff su.fit sv.fit).2 ((seen_eq_iff su.fit sv.fit).2 hs)
        rw [hk]
        generalize keyOf' a = ka at *
        generalize keyOf' b = kb at *
        clear hs hsm
        have c12 := works_ok x11 (hTr.below BB11)
        go_wp2_with fail
        refine c12.mono ?_
        rintro e x12 ⟨rfl, B12⟩
        clear c12
        go_wp2_with fail
        go_ret
        exact ⟨by rfl, hb.trans ((BB11.trans (B12.mono BB11.size)).mono hb.size)⟩
      · have hsm2 : sm = false := Bool.eq_false_iff.2 fun h => hs (hsm.out.1 h)
        subst hsm2
        have d1 := same_false (su.below BB9) (sv.below BB9) hs
        go_wp2_with fail
        refine d1.mono ?_
        rintro e w' ⟨rfl, rfl⟩
        clear d1
        have c10 := key_s (su.below BB9)
        go_wp2_with fail
        refine c10.mono ?_
        rintro e x10 ⟨rfl, B10⟩
        have BB10 : Below wr.heap.size wr x10 := BB9.trans (B10.mono BB9.size)
        clear c10
        have c11 := key_s (sv.below BB10)
        go_wp2_with fail
        refine c11.mono ?_
        rintro e x11 ⟨rfl, B11⟩
        have BB11 : Below wr.heap.size wr x11 := BB10.trans (B11.mono BB10.size)
        clear c11
        have hk : ¬ keyOf' a = keyOf' b := fun h => hs ((seen_eq_iff su.fit sv.fit).1 ((key_iff su.fit sv.fit).1 h))
        generalize keyOf' a = ka at *
        generalize keyOf' b = kb at *
        have hk2 : ¬ ka.toList = kb.toList := fun h => hk (by rw [ByteArray.toList_eq, ByteArray.toList_eq] at h; exact ByteArray.ext (Array.toList_inj.1 h))
        clear hs hsm
        have c12 := works_ok x11 (hTr.below BB11)
        go_wp2_with fail
        refine c12.mono ?_
        rintro e x12 ⟨rfl, B12⟩
        clear c12
        go_wp2_with fail
        go_ret
        refine ⟨?_, hb.trans ((BB11.trans (B12.mono BB11.size)).mono hb.size)⟩
        show Ending.returned (.bool (!(ka.toList == kb.toList))) = _
        rw [beq_eq_false_iff_ne.2 hk2]
        rfl
end Go.Proofs.YtccccbkllplojaaDoor
