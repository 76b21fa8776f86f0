/-
  Contract of shrink of package cache: those that were asked for longest ago go. No condition beyond those that each theorem states.
-/
import Derived.Test.YtkapilomliicdaaRing
namespace Go.Proofs.Ytkapilomliicdaa
open Go.RowKit Go.Maps
set_option linter.unusedSimpArgs false
set_option linter.unusedVariables false

theorem keys_ok {L : List Ent} {A : List (Value × Value)} (hp : A.Perm (L.map fun x => (Value.string x.k, oaddr (some x.b)))) (hs : ∀ x ∈ L, x.k.size ≤ maxLen) :
    ∀ p ∈ A, ∃ l, keyOf Try.prog 9 p.1 = some l := by
  intro p hpA
  obtain ⟨x, hx, rfl⟩ := List.mem_map.1 (hp.mem_iff.1 hpA)
  exact ⟨_, WideMaps.keyOf_string_mk Try.underlying9 (hs x hx)⟩

/-- what is left when the last one goes -/
theorem drop_last {w : World} {m : Nat} {L : List Ent} {x : Ent} (hm : ∃ A, IsMap w m A ∧ A.Perm ((L ++ [x]).map fun x => (Value.string x.k, oaddr (some x.b))))
    (hk : ((L ++ [x]).map Ent.k).Nodup) (hs : ∀ y ∈ L ++ [x], y.k.size ≤ maxLen) (ty : TypeId) :
    ∃ o, (Builtin.delete_ #[31, 9] ty #[.map (some m), .string x.k]).run Try.prog w = .ok (.tuple #[]) (setObjW w m o) ∧
      ∃ A, IsMap (setObjW w m o) m A ∧ A.Perm (L.map fun x => (Value.string x.k, oaddr (some x.b))) := by
  obtain ⟨A, hA, hp⟩ := hm
  have hxm : (Value.string x.k, oaddr (some x.b)) ∈ A := hp.mem_iff.2 (by simp)
  obtain ⟨X, Y, rfl⟩ := List.append_of_mem hxm
  have hp2 : (X ++ Y).Perm (L.map fun x => (Value.string x.k, oaddr (some x.b))) := by
    have h1 : ((Value.string x.k, oaddr (some x.b)) :: (X ++ Y)).Perm ((Value.string x.k, oaddr (some x.b)) :: L.map fun x => (Value.string x.k, oaddr (some x.b))) := by
      refine List.perm_middle.symm.trans (hp.trans ?_)
      simp only [List.map_append, List.map_cons, List.map_nil]
      exact List.perm_append_singleton _ _
    exact h1.cons_inv
  have hne : ∀ p ∈ X ++ Y, p.1 ≠ Value.string x.k := by
    intro p hpm e
    obtain ⟨y, hy, rfl⟩ := List.mem_map.1 (hp2.mem_iff.1 hpm)
    simp only [List.map_append, List.map_cons, List.map_nil, List.nodup_append] at hk
    have : y.k = x.k := by simpa using e
    exact hk.2.2 y.k (List.mem_map_of_mem hy) x.k (by simp) this
  obtain ⟨o, h1, h2⟩ := hA.drop law9 Try.underlying31 (keys_ok hp hs) ty (WideMaps.keyOf_string_mk Try.underlying9 (hs x (by simp)))
    (fun p hp => hne p (List.mem_append_left _ hp)) (fun p hp => hne p (List.mem_append_right _ hp))
  exact ⟨o, h1, _, h2, hp2⟩

theorem IsMap.eqv {w w' : World} {m : Nat} {A : List (Value × Value)} (h : IsMap w m A) (he : w'.heap = w.heap) : IsMap w' m A := h.congr (by rw [he])

def wrapN : Nat → Int → Int
  | 0, s => s
  | n + 1, s => wrap64 (wrapN n s + 1)

theorem shrink_cs {w : World} {B c m : Nat} {room s0 s1 s2 : Int} {L : List Ent} (long : Nat) (h : CS w B c m room L s0 s1 s2) (hL : L.length ≤ 100000) (hl : long ≤ 100000) :
    Calls Try.prog 17 #[.pointer (some ⟨c, 0, none⟩), .int .i64 long] w fun e w' => e = .returned (.tuple #[]) ∧
      CS w' B c m room (L.take long) s0 s1 (wrapN (L.length - long) s2) ∧ Below B w w' := by
  go_enter Try.func17, Try.ntmps17
  go_wp2
  go_loopg [4] L.length (fun k _ wr => k ≤ L.length ∧ (k < long → k = L.length) ∧ CS wr B c m room (L.take k) s0 s1 (wrapN (L.length - k) s2) ∧ Below B w wr)
  case atStart => exact ⟨Nat.le_refl _, fun _ => rfl, by simpa [wrapN] using h, Below.refl _ _⟩
  case round =>
    obtain ⟨hk, hkl, hcs, hB⟩ := hrel
    have hlen : ∀ W : World, W.heap = wr.heap → (Builtin.len_ #[31] 3 #[.map (some m)]).run Try.prog W = .ok (.int .i64 gk) W := by
      intro W hW
      obtain ⟨A, hA, hAp⟩ := hcs.mp
      rw [(hA.eqv hW).len Try.underlying31 3, hAp.length_eq]
      simp [Nat.min_eq_left hk]
    have h1 : wr.cell? ⟨c, 1, none⟩ = some (.map (some m)) := blk_cell hcs.hd rfl
    have hl0 := hlen wr rfl
    by_cases hgt : long < gk
    · obtain ⟨ys, x, hyx⟩ : ∃ ys x, L.take gk = ys ++ [x] := by
        rcases lst_cases (L.take gk) with e | ⟨ys, x, e⟩
        · have := congrArg List.length e
          rw [List.length_take, Nat.min_eq_left hk] at this
          simp at this
          omega
        · exact ⟨ys, x, e⟩
      have hyl : ys.length = gk - 1 := by
        have := congrArg List.length hyx
        rw [List.length_take, Nat.min_eq_left hk] at this
        simp at this
        omega
      have hys : L.take (gk - 1) = ys := by
        have := congrArg (List.take (gk - 1)) hyx
        rw [List.take_take, Nat.min_eq_left (by omega)] at this
        rw [this, ← hyl]
        simp
      rw [hyx] at hcs
      have hu := unlink_cs (xs := ys) (x := x) (ys := []) hcs.hd hcs.seg hcs.blks hcs.base
      have h3 : wr.cell? ⟨c, 3, none⟩ = some (.pointer (some ⟨x.b, 0, none⟩)) := blk_cell hcs.hd (by simp [ls_snoc, oaddr])
      have Hyx := (show Hid _ from hyx)
      have Hys := (show Hid _ from hys)
      clear hyx hys hlen
      go_wp2_with fail
      refine hu.mono ?_
      rintro e w1 ⟨rfl, hR, hm, hB1⟩
      clear hu h1 h3 hl0
      obtain ⟨px, qx, hxb⟩ := hR.xb
      simp only [List.append_nil] at hR
      obtain ⟨A, hA, hAp⟩ := hcs.mp
      have hmp1 : ∃ A, IsMap w1.drew m A ∧ A.Perm ((ys ++ [x]).map fun x => (Value.string x.k, oaddr (some x.b))) := ⟨A, (hA.congr hm).eqv rfl, hAp⟩
      obtain ⟨o, hdel, hmo⟩ := drop_last hmp1 hcs.keys hcs.ksz 0
      have c1 : w1.cell? ⟨c, 1, none⟩ = some (.map (some m)) := blk_cell hR.hd rfl
      have cx : w1.cell? ⟨x.b, 0, none⟩ = some (.string x.k) := blk_cell hxb rfl
      go_wp2_with fail
      go_region
      clear hdel
      have hcm : c ≠ m := by
        have := hR.blks
        simp only [List.nodup_cons, List.mem_cons, not_or] at this
        exact this.1.1
      have hd2 : (setObjW w1.drew m o).heap[c]? = some (hdObj room m ys s0 s1 (wrapN (L.length - gk) s2)) := (setObjW_ne hcm).trans hR.hd
      have c6 : (setObjW w1.drew m o).cell? ⟨c, 6, none⟩ = some (.int .i64 (wrapN (L.length - gk) s2)) := blk_cell hd2 rfl
      have f6 : (setObjW w1.drew m o).frozen? ⟨c, 6, none⟩ = false := blk_free hd2
      clear c1 cx hcm
      have Hd2 := (show Hid _ from hd2)
      clear hd2
      go_wp2
      go_region
      go_wp2
      go_roundg (gk - 1)
      case measure => omega
      case rel =>
        have hyx := Hyx.out
        have hys := Hys.out
        have hd2 := Hd2.out
        have hblk := hR.blks
        simp only [List.nodup_cons, List.mem_cons, not_or] at hblk
        obtain ⟨⟨hcm, hcx, hcL⟩, ⟨hmx, hmL⟩, hxL, hnL⟩ := hblk
        have hBm : B ≤ m := hR.base m (by simp)
        have hBc : B ≤ c := hR.base c (by simp)
        have hset := blk_set (i := 6) (v := .int .i64 (wrap64 (wrapN (L.length - gk) s2 + 1))) hd2
        have hwn : wrapN (L.length - (gk - 1)) s2 = wrap64 (wrapN (L.length - gk) s2 + 1) := by
          rw [show L.length - (gk - 1) = (L.length - gk) + 1 from by omega]; rfl
        refine ⟨by omega, fun hlt => by omega, ?_, ?_⟩
        · rw [hys, hwn]
          obtain ⟨A', hA', hAp'⟩ := hmo
          refine ⟨?_, ?_, ⟨A', ?_, hAp'⟩, ?_, ?_, ?_, ?_⟩
          · exact hset.trans (by simp [hdObj])
          · refine seg_congr _ _ _ (fun z hz => ?_) hR.seg
            have hzm := List.mem_map_of_mem (f := Ent.b) hz
            have e1 : z.b ≠ c := fun e => hcL (e ▸ hzm)
            have e2 : z.b ≠ m := fun e => hmL (e ▸ hzm)
            exact (blk_set_ne (w := setObjW w1.drew m o) e1).trans (setObjW_ne e2)
          · exact hA'.congr (blk_set_ne (w := setObjW w1.drew m o) (Ne.symm hcm))
          · have := hcs.keys
            rw [List.map_append, List.nodup_append] at this
            exact this.1
          · simp only [List.nodup_cons, List.mem_cons, not_or]
            exact ⟨⟨hcm, hcL⟩, hmL, hnL⟩
          · intro b hb
            refine hR.base b ?_
            simp only [List.mem_cons] at hb ⊢
            rcases hb with h | h | h
            · exact Or.inl h
            · exact Or.inr (Or.inl h)
            · exact Or.inr (Or.inr (Or.inr h))
          · intro y hy
            exact hcs.ksz y (by simp [hy])
        · exact (((hB.trans hB1).drew.trans (setObjW_below hBm)).setCell (p := ⟨c, 6, none⟩) hBc _).drew
    · have hge : gk ≤ long := by omega
      clear hlen
      go_wp2
      go_end0
      refine ⟨rfl, ?_, hB⟩
      rcases Nat.lt_or_ge gk long with hlt | hge2
      · have e := hkl hlt
        subst e
        rw [List.take_of_length_le (by omega), show L.length - long = L.length - L.length from by omega]
        rw [List.take_of_length_le (Nat.le_refl _)] at hcs
        exact hcs
      · have e : gk = long := by omega
        subst e
        exact hcs
end Go.Proofs.Ytkapilomliicdaa
