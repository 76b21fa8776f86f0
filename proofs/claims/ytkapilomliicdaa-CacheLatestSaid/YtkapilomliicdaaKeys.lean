/-
  Contract of Keys of package cache. No condition beyond those that each theorem states.
-/
import Derived.Test.YtkapilomliicdaaPut
namespace Go.Proofs.Ytkapilomliicdaa
open Go.RowKit Go.Maps
set_option linter.unusedSimpArgs false
set_option linter.unusedVariables false

theorem info9 : (Try.prog.info? 9).map (fun i => (i.zero, i.size, i.bytes)) = some (some (.string ⟨#[]⟩), 1, 16) := by kernel_rfl

theorem CS.lt {w : World} {B c m : Nat} {room s0 s1 s2 : Int} {L : List Ent} (h : CS w B c m room L s0 s1 s2) : ∀ b ∈ c :: m :: L.map Ent.b, b < w.heap.size := by
  intro b hb
  obtain ⟨A, hA, _⟩ := h.mp
  simp only [List.mem_cons, List.mem_map] at hb
  rcases hb with rfl | rfl | ⟨x, hx, rfl⟩
  · exact blk_lt h.hd
  · exact hA.lt
  · obtain ⟨_, _, hx2⟩ := seg_mem h.seg hx
    exact blk_lt hx2

theorem CS.congr {w w' : World} {B c m : Nat} {room s0 s1 s2 : Int} {L : List Ent} (h : CS w B c m room L s0 s1 s2) (hb : ∀ b ∈ c :: m :: L.map Ent.b, w'.heap[b]? = w.heap[b]?) : CS w' B c m room L s0 s1 s2 := by
  obtain ⟨A, hA, hp⟩ := h.mp
  refine ⟨(hb c (by simp)).trans h.hd, seg_congr _ _ _ (fun x hx => hb x.b ?_) h.seg, ⟨A, hA.congr (hb m (by simp)), hp⟩, h.keys, h.blks, h.base, h.ksz⟩
  simp only [List.mem_cons]
  exact Or.inr (Or.inr (List.mem_map_of_mem hx))

theorem CS.below {w w' : World} {B c m : Nat} {room s0 s1 s2 : Int} {L : List Ent} (h : CS w B c m room L s0 s1 s2) (hb : Below w.heap.size w w') : CS w' B c m room L s0 s1 s2 :=
  h.congr fun b hm => hb.block b (h.lt b hm)

theorem one_string (s : ByteArray) : ∀ u ∈ [Value.string s], u.oneCell' = true := by
  intro u hu
  simp at hu
  subst hu
  rfl

theorem keys_cs {w : World} {B c m : Nat} {room s0 s1 s2 : Int} {L : List Ent} (h : CS w B c m room L s0 s1 s2) (hL : L.length ≤ 100000) :
    Calls Try.prog 7 #[.pointer (some ⟨c, 0, none⟩)] w fun e w' => ∃ v, e = .returned v ∧ w'.ownsRow w.heap.size 9 1 v L.length (L.map fun x => .string x.k) ∧ Below w.heap.size w w' := by
  have hmade := h.made
  have c1 : w.cell? ⟨c, 1, none⟩ = some (.map (some m)) := blk_cell h.hd rfl
  have c2 : w.cell? ⟨c, 2, none⟩ = some (oaddr (nx L none)) := blk_cell h.hd rfl
  obtain ⟨A, hA, hp⟩ := h.mp
  have hlen := hA.len Try.underlying31 3
  rw [hp.length_eq, List.length_map] at hlen
  obtain ⟨i0, hi, hz0, hz1, hz2⟩ := info_parts info9
  go_enter Try.func7, Try.ntmps7
  go_wp2_with fail
  refine hmade.mono ?_
  rintro e w' ⟨rfl, rfl⟩
  clear hmade
  go_wp2_with (at_make; refine wpList_make_own _ rfl _ _ 22 rfl w.heap.size 9 i0 (.string ⟨#[]⟩) 1 Try.underlying22 hi hz0 hz1 .i64 .i64 _ L.length rfl rfl rfl (by rw [hz2]; omega) (by unfold maxLen; omega) (Nat.le_refl _) ?_; intro w1 hown hgrow; have k2 := (World.cell?_of_block (a := ⟨c, 2, none⟩) (hgrow.block c (blk_lt h.hd) (by simp))).trans c2; clear hlen c1)
  have hB1 : Below w.heap.size w w1 := (Below.refl _ _).grown hgrow (Nat.le_refl _) (by simp)
  clear c2 k2
  go_loopg [3, 4] L.length (fun k v p wr => ∃ done rest, L = done ++ rest ∧ k = rest.length ∧ p = oaddr (nx rest none) ∧ v = .slice (some ⟨w.heap.size, 0, none⟩) done.length L.length ∧
    wr.ownsRow w.heap.size 9 1 (.slice (some ⟨w.heap.size, 0, none⟩) done.length L.length) done.length (done.map fun x => .string x.k) ∧ Below w.heap.size w wr)
  case atStart => exact ⟨[], L, rfl, rfl, rfl, rfl, hown, hB1⟩
  case round =>
    obtain ⟨done, rest, hL', rfl, rfl, rfl, hown, hB⟩ := hrel
    have HL := (show Hid _ from hL')
    rcases rest with _ | ⟨x, rest⟩
    · rw [show oaddr (nx [] none) = .pointer none from rfl]
      clear hL'
      go_wp2
      go_ret
      have e := HL.out
      simp only [List.append_nil] at e
      subst e
      exact ⟨_, rfl, hown, hB⟩
    · have hsg := (h.below hB).seg
      rw [hL', seg_app] at hsg
      have hx := hsg.2.1
      clear hsg
      have x0 : wr.cell? ⟨x.b, 0, none⟩ = some (.string x.k) := blk_cell hx rfl
      have x3 : wr.cell? ⟨x.b, 3, none⟩ = some (oaddr (nx rest none)) := blk_cell hx rfl
      have hlt : done.length + 1 ≤ L.length := by rw [hL']; simp
      have hxb : x.b < wr.heap.size := blk_lt hx
      clear hL'
      rw [show oaddr (nx (x :: rest) none) = .pointer (some ⟨x.b, 0, none⟩) from rfl]
      have hxw : x.b < w.heap.size := h.lt x.b (by simp only [List.mem_cons]; right; right; rw [HL.out]; simp)
      go_wp2_with (at_builtin; refine wpList_append_fits _ rfl _ _ 22 rfl w.heap.size 9 i0 1 Try.underlying22 hi hz1 w.heap.size done.length L.length _ rfl (hown.alloc _) ⟨wr.heap.size, 0, none⟩ 1 1 [.string x.k] rfl rfl (cell_one_new _ _ _) (one_string _) hlt ?_; intro w2 hown2 hgrow2; have y3 := (World.cell?_of_block (a := ⟨x.b, 3, none⟩) (hgrow2.block x.b (by simp; omega) (by simp; omega))).trans ((World.cell?_alloc_past _ _ _ hxb).trans x3))
      go_roundg rest.length
      case measure => simp
      case rel =>
        refine ⟨done ++ [x], rest, by rw [HL.out]; simp, rfl, rfl, by simp, by simpa using hown2, ?_⟩
        refine (hB.alloc (by have := hB.size; omega) _).grown hgrow2 (by have := hB.size; simp; omega) (fun k hk => by cases hk; exact Nat.le_refl _)
end Go.Proofs.Ytkapilomliicdaa
