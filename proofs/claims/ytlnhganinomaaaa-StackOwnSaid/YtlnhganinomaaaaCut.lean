/-
  Contract of Cut of package stack. No condition beyond those that each theorem states.
-/
import Derived.Test.YtlnhganinomaaaaCutRows
import Derived.Deep.RegionHeld3
namespace Go.Proofs.Ytlnhganinomaaaa
open Go.RowKit Go.Maps
set_option linter.unusedSimpArgs false
set_option linter.unusedVariables false

theorem Made.st' {w W : World} {m : Nat} {v : Value} {bS b1 b2 s' : Nat} {pl : List (Int × Int)} (h : Made w W (pl.flatMap pcell) m v true bS true b1 true b2 true) (e : s' = W.heap.size) (hm : pl.length = m) (hmx : m ≤ maxLen) :
    St (W.alloc (.cells #[v, .slice (some ⟨bS, 0, none⟩) m m, .map (some b1), .map (some b2)] 43)) w.heap.size s' [] [] pl (List.replicate m []) v (.slice (some ⟨bS, 0, none⟩) m m) (List.replicate m (.slice none 0 0)) b1 b2 ∧
      Below w.heap.size w (W.alloc (.cells #[v, .slice (some ⟨bS, 0, none⟩) m m, .map (some b1), .map (some b2)] 43)) := by
  subst e
  exact h.st hm hmx
theorem cell?_lt' {w : World} {b i : Nat} {v : Value} (h : w.cell? ⟨b, i, none⟩ = some v) : b < w.heap.size := by
  rcases Nat.lt_or_ge b w.heap.size with h1 | h1
  · exact h1
  · exfalso
    simp [World.cell?, h1] at h
set_option maxRecDepth 100000 in
set_option maxHeartbeats 8000000 in
theorem cut_ok {w : World} {B s mn ml N : Nat} {ql : List (Value × Value)} {pl : List (Int × Int)} {us : List (List Int)} {pv uv : Value} {vs : List Value} (h : St w B s (nodesOf pl) ql pl us pv uv vs mn ml) (hI : Inv N pl us) (hN : N ≤ 1000) 
    (n : Int) (hn : i64ok n) :
    Calls Try.prog 7 #[.pointer (some ⟨s, 0, none⟩), .int .i64 n] w fun e w' => ∃ s' bs', e = .returned (.pointer (some ⟨s', 0, none⟩)) ∧ Stk w' w.heap.size s' (pl.take (cutN n pl.length)) ((us.take (cutN n pl.length)).map (cutRow (cutN n pl.length))) bs' ∧ Below w.heap.size w w' := by
  have hps := hI.size
  have hl := long_st h
  have hpos := hI.pos
  have hpos' : ((pl.length : Int) == 0) = false := by rw [beq_eq_false_iff_ne]; omega
  have hmk40 := fun (W : World) (k : Int) => run_makeMap_hint (P := Try.prog) Try.underlying40 .i64 k W
  have hmk41 := fun (W : World) (k : Int) => run_makeMap_hint (P := Try.prog) Try.underlying41 .i64 k W
  obtain ⟨ap, capp, hpv⟩ := ownsRow_shape h.prow
  have c0 : w.cell? ⟨s, 0, none⟩ = some (.slice ap pl.length capp) := by rw [← hpv]; exact blk_cell h.hd rfl
  go_enter Try.func7, Try.ntmps7
  go_upto_region 4 with (first | (go_at_call 8; refine hl.mono ?_; rintro e w' ⟨rfl, rfl⟩))
  rw [cutN_is n hpos]
  obtain ⟨hm1, hm2⟩ := cutN_le n hpos
  generalize hmm : cutN n pl.length = m at hm1 hm2 ⊢
  have Hm := (show Hid _ from hmm)
  clear hmm
  rcases h.prow.2 with ⟨e, e0⟩ | ⟨g, cap, cur, e, hg, hh, hcap, hmax, hcur, hfl⟩
  · omega
  rw [hpv] at e
  injection e with e1 _ e2
  subst e1 e2
  obtain ⟨i0, hi46, hz0, hz1, hz2⟩ := info_parts info46
  obtain ⟨i1, hi32, hy0, hy1, hy2⟩ := info_parts info32
  have hnews : ∀ j u, ((pl.take m).flatMap pcell)[j]? = some u → w.cell? ((⟨g, 0, none⟩ : Addr).add j) = some u := by
    intro j u hu
    rw [pcells_take] at hu
    have hj : j < m * 2 := by
      have := (List.getElem?_eq_some_iff.1 hu).1
      rw [List.length_take] at this
      omega
    rw [List.getElem?_take_of_lt hj] at hu
    have hd := hpv ▸ h.prow
    have := World.ownsRow.cellAt hd j (by omega)
    unfold Addr.add
    split
    · rename_i h0; subst h0; rw [this, hu]
    · simpa [hu] using this
  have hms := fun (W : World) => run_makeSlice (P := Try.prog) W 39 32 i1 (.slice none 0 0) Try.underlying39 hi32 hy0 .i64 .i64 m m (by omega) (by omega) (by rw [hy1]; omega) (by rw [hy2]; omega) (by omega)
  simp only [Int.toNat_natCast] at hms
  have hcap' : (m : Int) ≤ capp := by omega
  have hm0 : (0 : Int) ≤ m := by omega
  have hmx : m ≤ maxLen := by unfold maxLen; omega
  have hmb : m * 16 ≤ 140737488355328 := by omega
  clear hps
  have hnewsW : ∀ W, Below w.heap.size w W → ∀ j u, ((pl.take m).flatMap pcell)[j]? = some u → W.cell? ((⟨g, 0, none⟩ : Addr).add j) = some u := fun W hW j u hu => (hW.cell (by unfold Addr.add; split <;> exact blk_lt hh)).trans (hnews j u hu)
  have hlen : (pl.take m).length = m := by rw [List.length_take]; omega
  have Hn := (show Hid _ from And.intro hnewsW (And.intro hmx (And.intro hmb hlen)))
  have hlt := h.lt
  have c0W : ∀ o, (w.alloc o).cell? ⟨s, 0, none⟩ = some (.slice (some ⟨g, 0, none⟩) pl.length capp) := fun o => (World.cell?_alloc_past _ _ _ (blk_lt h.hd)).trans c0
  have c0W2 : ∀ o o', ((w.alloc o).alloc o').cell? ⟨s, 0, none⟩ = some (.slice (some ⟨g, 0, none⟩) pl.length capp) := fun o o' => (World.cell?_alloc_past _ _ _ (by have := blk_lt h.hd; simp; omega)).trans (c0W o)
  have c0W3 : ∀ o o' o'', (((w.alloc o).alloc o').alloc o'').cell? ⟨s, 0, none⟩ = some (.slice (some ⟨g, 0, none⟩) pl.length capp) := fun o o' o'' => (World.cell?_alloc_past _ _ _ (by have := blk_lt h.hd; simp; omega)).trans (c0W2 o o')
  clear hnews hnewsW hmx hmb hlen hh hcap hmax hcur hfl hg hl hpos' hpos hlt
  generalize (if n < 1 then (1 : Int) else n) = n1
  go_cut [5] (fun s5 wx => ∃ s' pv' uv' mn' ml', s5 = .pointer (some ⟨s', 0, none⟩) ∧ St wx w.heap.size s' [] [] (pl.take m) (List.replicate m []) pv' uv' (List.replicate m (.slice none 0 0)) mn' ml' ∧ Below w.heap.size w wx)
  case first =>
    have keepAll : ∀ (W W' : World) (v : Value), Fresh w W W' ((pl.take m).flatMap pcell) m v → W.cell? ⟨s, 0, none⟩ = some (.slice (some ⟨g, 0, none⟩) pl.length capp) → W'.cell? ⟨s, 0, none⟩ = some (.slice (some ⟨g, 0, none⟩) pl.length capp) := by
      intro W W' v hf hc
      refine (World.cell?_of_block (hf.2.1.block s ?_ (by simp))).trans hc
      exact cell?_lt' hc
    have keepAl : ∀ (W : World) (o : Obj), W.cell? ⟨s, 0, none⟩ = some (.slice (some ⟨g, 0, none⟩) pl.length capp) → (W.alloc o).cell? ⟨s, 0, none⟩ = some (.slice (some ⟨g, 0, none⟩) pl.length capp) := by
      intro W o hc
      exact (World.cell?_alloc_past _ _ _ (cell?_lt' hc)).trans hc
    have HK := (show Hid _ from And.intro keepAll keepAl)
    clear keepAll keepAl
    go_region_held3 (fun w' => w'.cell? ⟨s, 0, none⟩ = some (.slice (some ⟨g, 0, none⟩) pl.length capp)) (first | assumption | (refine HK.out.2 _ _ ?_; assumption) | (refine HK.out.1 _ _ _ (by assumption) ?_; assumption) | (refine HK.out.2 _ _ ?_; refine HK.out.1 _ _ _ (by assumption) ?_; assumption)) (first | (refine step_new rfl (.tmp 25) 38 46 rfl i0 (.agg #[.int .i64 0, .int .i64 0]) 2 16 Try.underlying38 hi46 hz0 hz1 hz2 rfl (by decide) w.heap.size ⟨g, 0, none⟩ m capp ((pl.take m).flatMap pcell) (by simp [Act.eval, Act.put]) (by rw [pcells_len, Hn.out.2.2.2]) (fun j u hu => Hn.out.1 _ (by repeat (first | exact Below.refl _ _ | refine Below.drew ?_ | refine Below.alloc ?_ (by simp; try omega) _)) j u hu) (pcells_one _) Hn.out.2.1 Hn.out.2.2.1 (by simp; try omega) ?_; intro a1 c1 w1 hown1 hgr1 hob1; have Ho1 := (show Fresh w _ w1 ((pl.take m).flatMap pcell) m (.slice a1 m c1) from And.intro hown1 (And.intro hgr1 hob1)); clear hown1 hgr1 hob1))
    all_goals
      go_wp2_with fail
      go_meet
      case rel =>
        refine ⟨_, _, _, _, _, rfl, Made.st' (w := w) (pl := pl.take m) (m := m) ?_ (by simp; done) Hn.out.2.2.2 Hn.out.2.1⟩
        repeat (first | exact Made.nil _ _ _ _ _ _ _ | refine Made.app (by assumption) ?_ | refine Made.drew ?_ | (refine Made.slice ?_ ?_; rotate_left; focus (simp; done)) | (refine Made.map1 ?_ ?_; rotate_left; focus (simp; done)) | (refine Made.map2 ?_ ?_; rotate_left; focus (simp; done)))
  case rest =>
    obtain ⟨s', pv0, uv0, mn0, ml0, rfl, hst0, hB0⟩ := hcut
    clear c0 c0W c0W2 c0W3 hms hmk40 hmk41 hi46 hz0 hz1 hz2 hi32 hy0 hy1 hy2 Hn hpv
    have hcutl : (pl.take m).length = m := by rw [List.length_take]; omega
    have hul := hI.len
    have h0 : CutAt w wc s' m (nodesOf (pl.take 0)) pl (rowsTo us m 0) := ⟨[], _, _, _, _, _, by rw [rowsTo_zero]; exact hst0, by rw [rowsTo_zero, linksOf_nils], hB0⟩
    clear hst0 hB0
    go_wp2_with fail
    go_loopg [36] m (fun g i W => ∃ k : Nat, i = .int .i64 k ∧ k ≤ m ∧ m ≤ k + g ∧ CutAt w W s' m (nodesOf (pl.take k)) pl (rowsTo us m k))
    case atStart => exact ⟨0, rfl, by omega, by omega, h0⟩
    case round =>
      obtain ⟨k, rfl, hk, hg, hc⟩ := hrel
      clear h0
      by_cases hkm : k < m
      · have hku : k < us.length := by omega
        have hkp : k < pl.length := by omega
        go_upto_if 40 with fail
        go_cut [6] (fun s6 W => s6 = .int .i64 k ∧ CutAt w W s' m (nodesOf (pl.take (k + 1))) pl (rowsTo us m k))
        case first =>
          rcases Nat.eq_zero_or_pos k with rfl | hk0
          · go_wp2
            go_meet
            case rel =>
              refine ⟨rfl, ?_⟩
              have e : nodesOf (pl.take (0 + 1)) = nodesOf (pl.take 0) := by
                obtain ⟨r, rfl, _⟩ := hI.root
                rfl
              rw [e]; exact hc
          · obtain ⟨ql1, pv1, uv1, vs1, mn1, ml1, hst, hql1, hB1⟩ := hc
            have hok := hI.ok k hkp hk0
            obtain ⟨kl, hkl⟩ := key46 hok.1.2 hok.2.2
            have hst2 := hst.below (w' := wr.drew) ((Below.refl _ _).drew)
            obtain ⟨o, hupd, hmap⟩ := hst2.nodes.store_new law46 Try.underlying40 (nodes_ok_take hI k) (.int .i64 k) hkl (nodes_not_take hI k hkp)
            obtain ⟨h3, hch3⟩ := hst2.setNodes hmap
            have hB3 : Below w.heap.size w (setObjW wr.drew mn1 o) := hB1.trans (((Below.refl _ _).drew).trans (hch3.below hB1.size hst2.base))
            have hnod : nodesOf (pl.take (k + 1)) = nodesOf (pl.take k) ++ [(.agg #[.int .i64 pl[k].1, .int .i64 pl[k].2], .int .i64 k)] := by
              rw [List.take_succ_eq_append_getElem hkp, nodesOf_append (by rw [List.length_take]; omega)]
              rw [List.length_take, Nat.min_eq_left (by omega)]
              rfl
            have Hc : Hid (CutAt w (setObjW wr.drew mn1 o) s' m (nodesOf (pl.take (k + 1))) pl (rowsTo us m k)) := ⟨ql1, pv1, uv1, vs1, mn1, ml1, by rw [hnod]; exact h3, hql1, hB3⟩
            obtain ⟨g1, cap1, rfl, hcp, _⟩ := ownsRow_cell hst.prow (by omega)
            have ht := flat_at (pl.take m) k (by omega)
            rw [List.getElem_take] at ht
            have d0 : wr.cell? ⟨g1, k * 2, none⟩ = some (.int .i64 pl[k].1) := (hcp _ (by omega)).trans ht.1
            have d1 : wr.cell? ⟨g1, k * 2 + 1, none⟩ = some (.int .i64 pl[k].2) := (hcp _ (by omega)).trans ht.2
            rw [hcutl] at hst
            have c0 : wr.cell? ⟨s', 0, none⟩ = some (.slice (some ⟨g1, 0, none⟩) m cap1) := blk_cell hst.hd rfl
            have c2 : wr.cell? ⟨s', 2, none⟩ = some (.map (some mn1)) := blk_cell hst.hd rfl
            clear hmap h3 hch3 hB3 hst2 hst hcp hql1 hB1 ht hok hnod
            generalize pl[k].1 = q1 at hupd d0
            generalize pl[k].2 = q2 at hupd d1
            go_wp2_with fail
            go_region
            all_goals
              go_wp2_with fail
              go_meet
              case rel => exact ⟨rfl, Hc⟩
        case rest =>
          obtain ⟨rfl, hc⟩ := hcut
          clear hn hm0 hcap'
          rw [rowsTo_at us hkm] at hc
          obtain ⟨wd, rfl⟩ : ∃ W : World, W = wc := ⟨_, rfl⟩
          obtain ⟨gko, rfl⟩ : ∃ x : Nat, x = gk := ⟨_, rfl⟩
          obtain ⟨v, hv, hvo⟩ := h.rows k hku
          obtain ⟨gu, capu, rfl, hgc, _⟩ := ownsRow_cell h.urow (by omega)
          have hltu := (ownsRow_lt h.urow rfl).2
          obtain ⟨av, capv, rfl⟩ := ownsRow_shape hvo
          have hrl := hI.rsize us[k] (List.getElem_mem hku)
          have hrok := (hI.ups us[k] (List.getElem_mem hku))
          have hsub0 := fun l (hl : l.Sublist (cutRow m us[k])) => cutInv hI hm1 hm2 (rowsAt_len us l hkm hku) (rowsAt_sub hku hl)
          have hdone := rowsAt_done us hkm hku
          have hcell : ∀ j, (hj : j < us[k].length) → ∃ gr, av = some ⟨gr, 0, none⟩ ∧ gr < w.heap.size ∧ w.cell? ⟨gr, j, none⟩ = some (.int .i64 us[k][j]) := by
            intro j hj
            obtain ⟨gr, cap2, e, hh2, _⟩ := ownsRow_cell hvo (by omega)
            injection e with e1 e2 e3
            refine ⟨gr, e1, (ownsRow_lt hvo (by rw [e1]; rfl)).2, (hh2 j (by omega)).trans ?_⟩
            simp [hj]
          obtain ⟨ql1, pv1, uv1, vs1, mn1, ml1, hst, hql1, hB1⟩ := hc
          have c1 : wd.cell? ⟨s, 1, none⟩ = some (.slice (some ⟨gu, 0, none⟩) us.length capu) := (hB1.cell (blk_lt h.hd)).trans (blk_cell h.hd rfl)
          have cg : wd.cell? ⟨gu, k, none⟩ = some (.slice av us[k].length capv) := (hB1.cell (p := ⟨gu, k, none⟩) hltu).trans ((hgc k (by omega)).trans hv)
          have hc : CutAt w wd s' m (nodesOf (pl.take (k + 1))) pl (rowsAt us m k (cutRow m (us[k].take 0))) := ⟨ql1, pv1, uv1, vs1, mn1, ml1, by simpa [cutRow] using hst, by simpa [cutRow] using hql1, hB1⟩
          have hlt7 : (k : Int) < us.length := by omega
          generalize hrow : us[k] = row at hrl hrok hsub0 hcell cg hc hdone
          clear hrow hst hql1 hB1 hgc hvo hv
          go_wp2_with fail
          clear c1 cg
          go_loopg [61] row.length (fun g i W => ∃ j : Nat, i = .int .i64 j ∧ j ≤ row.length ∧ row.length ≤ j + g ∧ CutAt w W s' m (nodesOf (pl.take (k + 1))) pl (rowsAt us m k (cutRow m (row.take j))))
          case atStart => exact ⟨0, rfl, by omega, by omega, hc⟩
          case round =>
            obtain ⟨j, rfl, hj, hg2, hc2⟩ := hrel
            clear hc
            by_cases hjl : j < row.length
            · obtain ⟨gr, rfl, hgr, hcr⟩ := hcell j hjl
              obtain ⟨ql1, pv1, uv1, vs1, mn1, ml1, hst, hql1, hB1⟩ := hc2
              have hu := hrok.2 row[j] (List.getElem_mem hjl)
              have hps := hI.size
              have cr : wr.cell? ⟨gr, j, none⟩ = some (.int .i64 row[j]) := (hB1.cell hgr).trans hcr
              have htk1 := cutRow_take_yes m row hjl
              have htk2 := cutRow_take_no m row hjl
              have hnin : row[j] < (m : Int) → row[j] ∉ cutRow m (row.take j) := by
                intro _ hm
                have h1 := (List.mem_filter.1 hm).1
                obtain ⟨i, hi, e⟩ := List.getElem_of_mem h1
                rw [List.length_take] at hi
                rw [List.getElem_take] at e
                have := (List.getElem_inj hrok.1).1 e
                omega
              generalize hup : row[j] = up at hu cr htk1 htk2 hnin
              clear hcell hcr hup
              by_cases hlt : up < (m : Int)
              · have hlenAt := rowsAt_len us (cutRow m (row.take j)) hkm hku
                have hgetAt := rowsAt_get (m := m) us (cutRow m (row.take j)) hku
                have hI1 := hsub0 _ (cutRow_take_sub m row j)
                have hI2 := hsub0 _ (htk1 hlt ▸ cutRow_take_sub m row (j + 1))
                have hnin' := hnin hlt
                have Ht := (show Hid _ from htk1 hlt)
                have hrs := hI1.rsize _ (List.mem_of_getElem? hgetAt)
                clear htk1 htk2 hnin hsub0
                generalize cutRow m (row.take j) = l at hlenAt hgetAt hI1 hI2 hnin' Ht hrs hst hql1
                have hkr : k < (rowsAt us m k l).length := by omega
                have hget : (rowsAt us m k l)[k] = l := by rw [List.getElem?_eq_getElem hkr] at hgetAt; exact Option.some.inj hgetAt
                have hset : (rowsAt us m k l).set k (l ++ [up]) = rowsAt us m k (l ++ [up]) := rowsAt_set us l _ hku
                have hlf := links_set' hkr up
                rw [hget, hset] at hlf
                have hup_ok : i64ok up := by unfold i64ok; omega
                have hk_ok : i64ok k := by unfold i64ok; omega
                obtain ⟨kl2, hkl2⟩ := key50 hk_ok hup_ok
                have hlo := links_ok hI1 (by omega) hql1
                have hln := links_not hkr (by rw [hget]; exact hnin') hql1
                obtain ⟨W7, rfl⟩ : ∃ W : World, W = wr := ⟨_, rfl⟩
                obtain ⟨v8, hv8, hvo8⟩ := hst.rows k hkr
                rw [hget] at hvo8
                obtain ⟨gu2, capu2, rfl, hgc2, hgf2⟩ := ownsRow_cell hst.urow (by omega)
                have hlt9 : (k : Int) < (rowsAt us m k l).length := by omega
                have hB8' : Below W7.heap.size W7 (W7.drew.alloc (.cells #[.int .i64 up] 3)) := (Below.refl _ _).drew.alloc (Nat.le_refl _) _
                have hst8 := hst.below hB8'
                obtain ⟨v9, hv9, hvo9⟩ := hst8.rows k hkr
                rw [hget] at hvo9
                obtain rfl : v9 = v8 := by rw [hv8] at hv9; exact (Option.some.inj hv9).symm
                obtain ⟨i0, hi3, hz0, hz1, hz2⟩ := info_parts info3
                have hB8 : w.heap.size ≤ (W7.drew.alloc (.cells #[.int .i64 up] 3)).heap.size := Nat.le_trans hB1.size hB8'.size
                obtain ⟨v2, W9, hrun9, hown9, hgrow9, _, hloc9⟩ := run_append_own_at (P := Try.prog) (W7.drew.alloc (.cells #[.int .i64 up] 3)) w.heap.size 32 32 3 i0 (.int .i64 0) 1 8 Try.underlying32 hi3 hz0 hz1 hz2 rfl (by decide) v9 l.length (l.map (Value.int .i64)) hvo9 ⟨W7.heap.size, 0, none⟩ 1 1 [.int .i64 up] rfl
                  (by intro j u hj; match j, hj with | 0, hj => simp at hj; subst hj; exact blk_cell (blk_new _ _) rfl) (by intro u hu; simp at hu; subst hu; rfl) (by unfold maxLen; omega) (by omega) hB8
                obtain ⟨h10, hch10, hbl10⟩ := hst8.row hkr rfl hv9 (l' := l ++ [up]) hgrow9 (by simpa using hown9) hloc9 hB8
                rw [hset] at h10
                have hB10 := (hB1.trans (hB8'.mono hB1.size)).trans (hch10.below hB8 hst8.base)
                have hvm : v9 ∈ vs1 := List.mem_of_getElem? hv9
                have hne : v9.ownBlock ≠ some gu2 := by
                  have := (nd_iff.1 hst8.nd).2.2
                  exact fun e => (List.pairwise_cons.1 (List.pairwise_cons.1 this).2).1 v9 hvm gu2 rfl e
                have hgult : gu2 < (W7.drew.alloc (.cells #[.int .i64 up] 3)).heap.size := (ownsRow_lt hst8.urow rfl).2
                have hg9 := hgrow9.block gu2 hgult (Ne.symm hne)
                have hsne : v9.ownBlock ≠ some s' := hst8.s_ne v9 (by simp [hvm])
                have hs9 := hgrow9.block s' (hst8.lt s' (mem_blks.2 (Or.inl rfl))) (Ne.symm hsne)
                obtain ⟨_, _, eqv, hgc8, hgf8⟩ := ownsRow_cell hst8.urow (by omega)
                simp only [Value.slice.injEq, Option.some.injEq, Addr.mk.injEq, and_true, true_and] at eqv
                obtain ⟨rfl, rfl⟩ := eqv
                have d9 : W9.cell? ⟨gu2, k, none⟩ = some v9 := (World.cell?_of_block hg9).trans ((hgc8 k (by omega)).trans hv9)
                have e9 : W9.frozen? ⟨gu2, k, none⟩ = false := (World.frozen?_of_block hg9).trans (hgf8 k)
                obtain ⟨av, capv, hav⟩ := ownsRow_shape hvo8
                obtain ⟨av2, capv2, hav2⟩ := ownsRow_shape hown9
                subst hav2
                have c1 : W7.cell? ⟨s', 1, none⟩ = some (.slice (some ⟨gu2, 0, none⟩) (rowsAt us m k l).length capu2) := blk_cell hst.hd rfl
                have c1' : ∀ o, (W7.alloc o).cell? ⟨s', 1, none⟩ = some (.slice (some ⟨gu2, 0, none⟩) (rowsAt us m k l).length capu2) := fun o => (World.cell?_alloc_past _ _ _ (blk_lt hst.hd)).trans c1
                have cg : W7.cell? ⟨gu2, k, none⟩ = some v9 := (hgc2 k (by omega)).trans hv8
                have hgult7 : gu2 < W7.heap.size := (ownsRow_lt hst.urow rfl).2
                have cg' : ∀ o, (W7.alloc o).cell? ⟨gu2, k, none⟩ = some v9 := fun o => (World.cell?_alloc_past _ _ _ hgult7).trans cg
                have c19 : W9.cell? ⟨s', 1, none⟩ = some (.slice (some ⟨gu2, 0, none⟩) (rowsAt us m k l).length capu2) := (World.cell?_of_block hs9).trans (blk_cell hst8.hd rfl)
                rw [hav] at hrun9 d9 cg cg'
                rw [hlenAt] at c1 c1' c19
                have Hres := (show Hid _ from And.intro h10 (And.intro hB10 (And.intro hlf (And.intro hlo (And.intro hln (And.intro hI1 hI2))))))
                clear hs9 h10 hch10 hbl10 hown9 hgrow9 hloc9 hst8 hgc2 hgf2 hgc8 hgf8 hg9 hvo9 hvo8 hv8 hv9 hlf hlo hln hI1 hI2 hget hset hgetAt hnin' hB10 hB8 hB8' hvm hne hsne hgult hgult7 hB1 hst hrok hps hlt9
                go_wp2_with fail
                go_cut [8] (fun s8 W => s8 = .int .i64 up ∧ ∃ uv2 vs2, St W w.heap.size s' (nodesOf (pl.take (k + 1))) ql1 (pl.take m) (rowsAt us m k (l ++ [up])) pv1 uv2 vs2 mn1 ml1 ∧ Below w.heap.size w W)
                case first =>
                  go_region_law (refine step_app rfl (.tmp 79) (.tmp 81) 32 rfl (by simp [Act.eval, Act.put]) (by simp [Act.eval, Act.put]) hrun9 ?_)
                  all_goals
                    go_wp2_with fail
                    go_meet
                    case rel => exact ⟨rfl, _, _, Hres.out.1, Hres.out.2.1⟩
                case rest =>
                  obtain ⟨rfl, uv2, vs2, hst3, hB3⟩ := hcut
                  clear hrun9 d9 e9 c1 c1' cg cg' c19 cr
                  obtain ⟨o, hupd, hmap⟩ := hst3.links.store_new law50 Try.underlying41 Hres.out.2.2.2.1 (.agg #[]) hkl2 Hres.out.2.2.2.2.1
                  obtain ⟨h6, hch6⟩ := hst3.setLinks hmap
                  have hB6 := hB3.trans (hch6.below hB3.size hst3.base)
                  have c3 : wc.cell? ⟨s', 3, none⟩ = some (.map (some ml1)) := blk_cell hst3.hd rfl
                  have HF : Hid (CutAt w (setObjW wc ml1 o) s' m (nodesOf (pl.take (k + 1))) pl (rowsAt us m k (l ++ [up]))) := ⟨_, _, _, _, _, _, h6, (hql1.append_right _).trans Hres.out.2.2.1, hB6⟩
                  clear hmap h6 hch6 hB6 hst3 hB3 hql1 Hres
                  go_wp2_with fail
                  go_roundg (gk - 1)
                  case measure => omega
                  case rel => exact ⟨j + 1, by go_num, by omega, by omega, by rw [Ht.out]; exact HF⟩
              · have Ht := (show Hid _ from htk2 hlt)
                clear htk1 htk2 hnin
                go_wp2_with fail
                go_roundg (gk - 1)
                case measure => omega
                case rel => exact ⟨j + 1, by go_num, by omega, by omega, by rw [Ht.out]; exact ⟨ql1, pv1, uv1, vs1, mn1, ml1, hst, hql1, hB1⟩⟩
            · obtain rfl : j = row.length := by omega
              have hps := hI.size
              clear hcell hrok hsub0
              go_wp2_with fail
              go_roundg (gko - 1)
              case measure => omega
              case rel => exact ⟨k + 1, by go_num, by omega, by omega, by rw [← hdone]; rw [List.take_of_length_le (Nat.le_refl _)] at hc2; exact hc2⟩
      · obtain rfl : k = m := by omega
        obtain ⟨ql1, pv1, uv1, vs1, mn1, ml1, hst, hql1, hB1⟩ := hc
        rw [rowsTo_all] at hst hql1
        go_wp2_with fail
        go_ret
        rw [Hm.out]
        exact ⟨s', _, rfl, ⟨ql1, pv1, uv1, vs1, mn1, ml1, hst, hql1, rfl⟩, hB1⟩
end Go.Proofs.Ytlnhganinomaaaa
