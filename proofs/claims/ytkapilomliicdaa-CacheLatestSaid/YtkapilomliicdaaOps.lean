/-
  Contracts of Long, Room, Get, Stats, Resize and Clear of package cache. No condition beyond those that each theorem states.
-/
import Derived.Test.YtkapilomliicdaaKeys
namespace Go.Proofs.Ytkapilomliicdaa
open Go.RowKit Go.Maps
set_option linter.unusedSimpArgs false
set_option linter.unusedVariables false

theorem CS.setStat {w : World} {B c m : Nat} {room s0 s1 s2 : Int} {L : List Ent} (h : CS w B c m room L s0 s1 s2) (i : Nat) (v : Int) (hi : i = 0 ∨ i = 1) :
    CS (w.setCell ⟨c, 4 + i, none⟩ (.int .i64 v)) B c m room L (if i = 0 then v else s0) (if i = 1 then v else s1) s2 := by
  have hb := h.blks
  simp only [List.nodup_cons, List.mem_cons, not_or] at hb
  have hset := blk_set (i := 4 + i) (v := .int .i64 v) h.hd
  have hne : ∀ b ∈ m :: L.map Ent.b, (w.setCell ⟨c, 4 + i, none⟩ (.int .i64 v)).heap[b]? = w.heap[b]? := by
    intro b hm
    refine blk_set_ne ?_
    rintro rfl
    simp only [List.mem_cons] at hm
    rcases hm with h | h
    · exact hb.1.1 h
    · exact hb.1.2 h
  obtain ⟨A, hA, hp⟩ := h.mp
  refine ⟨?_, seg_congr _ _ _ (fun x hx => hne x.b (by simp only [List.mem_cons]; exact Or.inr (List.mem_map_of_mem hx))) h.seg, ⟨A, hA.congr (hne m (by simp)), hp⟩, h.keys, h.blks, h.base, h.ksz⟩
  rcases hi with rfl | rfl
  · exact hset.trans (by simp [hdObj])
  · exact hset.trans (by simp [hdObj])

theorem long_cs {w : World} {B c m : Nat} {room s0 s1 s2 : Int} {L : List Ent} (h : CS w B c m room L s0 s1 s2) :
    Calls Try.prog 11 #[.pointer (some ⟨c, 0, none⟩)] w fun e w' => e = .returned (.int .i64 L.length) ∧ w = w' := by
  have hmade := h.made
  have c1 : w.cell? ⟨c, 1, none⟩ = some (.map (some m)) := blk_cell h.hd rfl
  obtain ⟨A, hA, hp⟩ := h.mp
  have hlen := hA.len Try.underlying31 3
  rw [hp.length_eq, List.length_map] at hlen
  go_enter Try.func11, Try.ntmps11
  go_wp2_with fail
  refine hmade.mono ?_
  rintro e w' ⟨rfl, rfl⟩
  clear hmade
  go_wp2_with fail
  go_ret
  exact ⟨rfl, rfl⟩

theorem room_cs {w : World} {B c m : Nat} {room s0 s1 s2 : Int} {L : List Ent} (h : CS w B c m room L s0 s1 s2) :
    Calls Try.prog 12 #[.pointer (some ⟨c, 0, none⟩)] w fun e w' => e = .returned (.int .i64 room) ∧ w = w' := by
  have hmade := h.made
  have c0 : w.cell? ⟨c, 0, none⟩ = some (.int .i64 room) := blk_cell h.hd rfl
  go_enter Try.func12, Try.ntmps12
  go_wp2_with fail
  refine hmade.mono ?_
  rintro e w' ⟨rfl, rfl⟩
  clear hmade
  go_wp2_with fail
  go_ret
  exact ⟨rfl, rfl⟩

theorem get_miss {w : World} {B c m : Nat} {room s0 s1 s2 : Int} {L : List Ent} (h : CS w B c m room L s0 s1 s2) (k : ByteArray)
    (hl : (Instr.lookup 31 (.map (some m)) (.string k) true).run Try.prog w = .ok (.tuple #[.pointer none, .bool false]) w) :
    Calls Try.prog 8 #[.pointer (some ⟨c, 0, none⟩), .string k] w fun e w' => e = .returned (.tuple #[.int .i64 0, .bool false]) ∧ CS w' B c m room L s0 (wrap64 (s1 + 1)) s2 ∧ Below B w w' := by
  have hmade := h.made
  have c1 : w.cell? ⟨c, 1, none⟩ = some (.map (some m)) := blk_cell h.hd rfl
  have c5 : w.cell? ⟨c, 5, none⟩ = some (.int .i64 s1) := blk_cell h.hd rfl
  have f5 : w.frozen? ⟨c, 5, none⟩ = false := blk_free h.hd
  go_enter Try.func8, Try.ntmps8
  go_wp2_with fail
  refine hmade.mono ?_
  rintro e w' ⟨rfl, rfl⟩
  clear hmade
  go_wp2_with fail
  go_region
  go_wp2
  go_ret2
  refine ⟨rfl, ?_, ?_⟩
  · have := h.setStat 1 (wrap64 (s1 + 1)) (Or.inr rfl)
    exact this.below ⟨rfl, rfl, rfl, by simp, fun _ _ => rfl⟩
  · exact ((Below.refl _ _).setCell (p := ⟨c, 5, none⟩) (h.base c (by simp)) _).drew

theorem get_fr {w : World} {B c m : Nat} {room s0 s1 s2 : Int} {xs ys : List Ent} {x : Ent} (h : CS w B c m room (xs ++ x :: ys) s0 s1 s2)
    (hl : (Instr.lookup 31 (.map (some m)) (.string x.k) true).run Try.prog w = .ok (.tuple #[.pointer (some ⟨x.b, 0, none⟩), .bool true]) w) :
    Calls Try.prog 8 #[.pointer (some ⟨c, 0, none⟩), .string x.k] w fun e w' => e = .returned (.tuple #[.int .i64 x.n, .bool true]) ∧ CS w' B c m room (x :: (xs ++ ys)) (wrap64 (s0 + 1)) s1 s2 ∧ Below B w w' ∧ ∀ b, b ≠ c → b ∉ (xs ++ x :: ys).map Ent.b → w'.heap[b]? = w.heap[b]? := by
  have hmade := h.made
  have c1 : w.cell? ⟨c, 1, none⟩ = some (.map (some m)) := blk_cell h.hd rfl
  have c4 : w.cell? ⟨c, 4, none⟩ = some (.int .i64 s0) := blk_cell h.hd rfl
  have f4 : w.frozen? ⟨c, 4, none⟩ = false := blk_free h.hd
  have h1 : CS ((w.setCell ⟨c, 4, none⟩ (.int .i64 (wrap64 (s0 + 1)))).drew) B c m room (xs ++ x :: ys) (wrap64 (s0 + 1)) s1 s2 :=
    (h.setStat 0 (wrap64 (s0 + 1)) (Or.inl rfl)).below ⟨rfl, rfl, rfl, by simp, fun _ _ => rfl⟩
  have ht := touch_fr h1
  go_enter Try.func8, Try.ntmps8
  go_wp2_with fail
  refine hmade.mono ?_
  rintro e w' ⟨rfl, rfl⟩
  clear hmade
  go_wp2_with fail
  go_region
  go_wp2_with fail
  refine ht.mono ?_
  rintro e w1 ⟨rfl, hcs, hB, hfr⟩
  have Hfr := (show Hid _ from hfr)
  clear hfr
  clear ht
  obtain ⟨px, qx, hxb⟩ := seg_mem hcs.seg (x := x) (by simp)
  have x1 : w1.cell? ⟨x.b, 1, none⟩ = some (.int .i64 x.n) := blk_cell hxb rfl
  go_wp2_with fail
  go_ret2
  refine ⟨rfl, hcs, ?_, fun b h1 h2 => (Hfr.out b h1 h2).trans (blk_set_ne h1)⟩
  exact ((Below.refl _ _).setCell (p := ⟨c, 4, none⟩) (h.base c (by simp)) _).drew.trans hB

theorem get_hit {w : World} {B c m : Nat} {room s0 s1 s2 : Int} {xs ys : List Ent} {x : Ent} (h : CS w B c m room (xs ++ x :: ys) s0 s1 s2)
    (hl : (Instr.lookup 31 (.map (some m)) (.string x.k) true).run Try.prog w = .ok (.tuple #[.pointer (some ⟨x.b, 0, none⟩), .bool true]) w) :
    Calls Try.prog 8 #[.pointer (some ⟨c, 0, none⟩), .string x.k] w fun e w' => e = .returned (.tuple #[.int .i64 x.n, .bool true]) ∧ CS w' B c m room (x :: (xs ++ ys)) (wrap64 (s0 + 1)) s1 s2 ∧ Below B w w' :=
  (get_fr h hl).mono fun _ _ ⟨a1, a2, a3, _⟩ => ⟨a1, a2, a3⟩

theorem stats_cs {w : World} {B c m : Nat} {room s0 s1 s2 : Int} {L : List Ent} (h : CS w B c m room L s0 s1 s2) :
    Calls Try.prog 19 #[.pointer (some ⟨c, 0, none⟩)] w fun e w' => e = .returned (.agg #[.int .i64 s0, .int .i64 s1, .int .i64 s2]) ∧ Below w.heap.size w w' := by
  have hcs1 : CS (w.alloc (.cells #[.int .i64 0, .int .i64 0, .int .i64 0] 33)) B c m room L s0 s1 s2 := h.below ((Below.refl _ _).alloc (Nat.le_refl _) _)
  have hmade := hcs1.made
  have c4 : (w.alloc (.cells #[.int .i64 0, .int .i64 0, .int .i64 0] 33)).cell? ⟨c, 4, none⟩ = some (.int .i64 s0) := blk_cell hcs1.hd rfl
  have c5 : (w.alloc (.cells #[.int .i64 0, .int .i64 0, .int .i64 0] 33)).cell? ⟨c, 5, none⟩ = some (.int .i64 s1) := blk_cell hcs1.hd rfl
  have c6 : (w.alloc (.cells #[.int .i64 0, .int .i64 0, .int .i64 0] 33)).cell? ⟨c, 6, none⟩ = some (.int .i64 s2) := blk_cell hcs1.hd rfl
  go_enter Try.func19, Try.ntmps19
  go_wp2_with fail
  refine hmade.mono ?_
  rintro e w' ⟨rfl, rfl⟩
  clear hmade
  go_wp2_with fail
  exact bodyPost_ret (v := .agg #[.int .i64 s0, .int .i64 s1, .int .i64 s2]) (by simp [results, Try.results19, go_sem]) rfl ⟨rfl, (Below.refl _ _).alloc (Nat.le_refl _) _⟩

theorem resize_cs {w : World} {B c m : Nat} {room s0 s1 s2 : Int} {L : List Ent} (h : CS w B c m room L s0 s1 s2) (hL : L.length ≤ 100000) (r : Int) :
    Calls Try.prog 13 #[.pointer (some ⟨c, 0, none⟩), .int .i64 r] w fun e w' => e = .returned (.tuple #[]) ∧
      CS w' B c m (max 0 (min r 4096)) (L.take (max 0 (min r 4096)).toNat) s0 s1 (wrapN (L.length - (max 0 (min r 4096)).toNat) s2) ∧ Below B w w' := by
  have hmade := h.made
  have c0 : w.cell? ⟨c, 0, none⟩ = some (.int .i64 room) := blk_cell h.hd rfl
  have f0 : w.frozen? ⟨c, 0, none⟩ = false := blk_free h.hd
  obtain ⟨q, hq⟩ : ∃ q : Nat, max 0 (min r 4096) = (q : Int) := ⟨(max 0 (min r 4096)).toNat, by omega⟩
  have hq2 : q ≤ 4096 := by omega
  have hfit := fit_any r w
  rw [hq] at hfit ⊢
  have Hq := (show Hid _ from hq)
  clear hq
  rw [Int.toNat_natCast]
  have h1 : CS (w.setCell ⟨c, 0, none⟩ (.int .i64 q)) B c m q L s0 s1 s2 := by
    have hb := h.blks
    simp only [List.nodup_cons, List.mem_cons, not_or] at hb
    have hset := blk_set (i := 0) (v := .int .i64 q) h.hd
    have hne : ∀ b ∈ m :: L.map Ent.b, (w.setCell ⟨c, 0, none⟩ (.int .i64 q)).heap[b]? = w.heap[b]? := by
      intro b hm
      refine blk_set_ne ?_
      rintro rfl
      simp only [List.mem_cons] at hm
      rcases hm with h | h
      · exact hb.1.1 h
      · exact hb.1.2 h
    obtain ⟨A, hA, hp⟩ := h.mp
    exact ⟨hset.trans (by simp [hdObj]), seg_congr _ _ _ (fun x hx => hne x.b (by simp only [List.mem_cons]; exact Or.inr (List.mem_map_of_mem hx))) h.seg, ⟨A, hA.congr (hne m (by simp)), hp⟩, h.keys, h.blks, h.base, h.ksz⟩
  have hs := shrink_cs q h1 hL (by omega)
  go_enter Try.func13, Try.ntmps13
  go_wp2_with fail
  refine hmade.mono ?_
  rintro e w' ⟨rfl, rfl⟩
  clear hmade
  go_wp2_with fail
  refine hfit.mono ?_
  rintro e w' ⟨rfl, rfl⟩
  clear hfit
  go_wp2_with fail
  refine hs.mono ?_
  rintro e w1 ⟨rfl, hcs, hB⟩
  clear hs
  go_wp2_with fail
  go_end0
  exact ⟨rfl, hcs, ((Below.refl _ _).setCell (p := ⟨c, 0, none⟩) (h.base c (by simp)) _).trans hB⟩

theorem clear_cs {w : World} {B c m : Nat} {room s0 s1 s2 : Int} {L : List Ent} (h : CS w B c m room L s0 s1 s2) :
    Calls Try.prog 10 #[.pointer (some ⟨c, 0, none⟩)] w fun e w' => e = .returned (.tuple #[]) ∧ CS w' B c m room [] s0 s1 s2 ∧ Below B w w' := by
  have hmade := h.made
  have c1 : w.cell? ⟨c, 1, none⟩ = some (.map (some m)) := blk_cell h.hd rfl
  obtain ⟨A, hA, hp⟩ := h.mp
  obtain ⟨o, hclr, hA2⟩ := hA.clear Try.underlying31 0
  have hcm : c ≠ m := by
    have := h.blks
    simp only [List.nodup_cons, List.mem_cons, not_or] at this
    exact this.1.1
  have hd2 : (setObjW w m o).heap[c]? = some (hdObj room m L s0 s1 s2) := (setObjW_ne hcm).trans h.hd
  have c2 : (setObjW w m o).cell? ⟨c, 2, none⟩ = some (oaddr (nx L none)) := blk_cell hd2 rfl
  have c3 : (setObjW w m o).cell? ⟨c, 3, none⟩ = some (oaddr (ls none L)) := blk_cell hd2 rfl
  have f2 : (setObjW w m o).frozen? ⟨c, 2, none⟩ = false := blk_free hd2
  have f3 : (setObjW w m o).frozen? ⟨c, 3, none⟩ = false := blk_free hd2
  have Hd2 := (show Hid _ from hd2)
  clear hd2
  go_enter Try.func10, Try.ntmps10
  go_wp2_with fail
  refine hmade.mono ?_
  rintro e w' ⟨rfl, rfl⟩
  clear hmade
  go_wp2_with fail
  go_end0
  have hs := blk_set (i := 3) (v := .pointer none) (blk_set (i := 2) (v := .pointer none) Hd2.out)
  refine ⟨rfl, ⟨hs.trans (by simp [hdObj, nx, ls, oaddr]), trivial, ⟨[], hA2.congr ?_, List.Perm.refl _⟩, List.nodup_nil, ?_, ?_, by simp⟩, ?_⟩
  · rw [blk_set_ne (Ne.symm hcm), blk_set_ne (Ne.symm hcm)]
  · simpa using hcm
  · intro b hb
    simp only [List.map_nil, List.mem_cons, List.not_mem_nil, or_false] at hb
    exact h.base b (by simp only [List.mem_cons]; rcases hb with h | h <;> simp [h])
  · exact ((setObjW_below (h.base m (by simp))).setCell (p := ⟨c, 2, none⟩) (h.base c (by simp)) _).setCell (p := ⟨c, 3, none⟩) (h.base c (by simp)) _
end Go.Proofs.Ytkapilomliicdaa
