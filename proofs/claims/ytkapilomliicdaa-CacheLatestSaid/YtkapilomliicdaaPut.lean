/-
  Contracts of Put of package cache, of a text that is kept and of one that is not. No condition beyond those that each theorem states.
-/
import Derived.Test.YtkapilomliicdaaShrink
namespace Go.Proofs.Ytkapilomliicdaa
open Go.RowKit Go.Maps
set_option linter.unusedSimpArgs false
set_option linter.unusedVariables false

def kv (L : List Ent) : List (ByteArray × Int) := L.map fun x => (x.k, x.n)
open Classical in
noncomputable def putKV (room : Nat) (k : ByteArray) (n : Int) (l : List (ByteArray × Int)) : List (ByteArray × Int) :=
  if k ∈ l.map (·.1) then (k, n) :: l.filter (fun p => p.1 ≠ k) else (k, n) :: l.take (room - 1)

open Classical in
theorem filter_split {xs ys : List Ent} {x : Ent} (h : ((xs ++ x :: ys).map Ent.k).Nodup) : (kv (xs ++ x :: ys)).filter (fun p => p.1 ≠ x.k) = kv (xs ++ ys) := by
  simp only [List.map_append, List.map_cons, List.nodup_append, List.nodup_cons, List.mem_cons, List.mem_map] at h
  obtain ⟨h1, ⟨h2, h3⟩, h4⟩ := h
  unfold kv
  rw [List.map_append, List.filter_append, List.map_cons, List.filter_cons, if_neg (by simp), List.map_append]
  congr 1
  · rw [List.filter_eq_self]
    intro p hp
    obtain ⟨z, hz, rfl⟩ := List.mem_map.1 hp
    have := h4 z.k ⟨z, hz, rfl⟩ x.k (Or.inl rfl)
    simpa using this
  · rw [List.filter_eq_self]
    intro p hp
    obtain ⟨z, hz, rfl⟩ := List.mem_map.1 hp
    have : z.k ≠ x.k := fun e => h2 ⟨z, hz, e⟩
    simpa using this

/-- is a text kept? -/
theorem CS.look {w : World} {B c m : Nat} {room s0 s1 s2 : Int} {L : List Ent} (h : CS w B c m room L s0 s1 s2) (k : ByteArray) (hk : k.size ≤ maxLen) :
    (k ∉ L.map Ent.k ∧ (Instr.lookup 31 (.map (some m)) (.string k) true).run Try.prog w = .ok (.tuple #[.pointer none, .bool false]) w) ∨
    ∃ xs x ys, L = xs ++ x :: ys ∧ x.k = k ∧ (Instr.lookup 31 (.map (some m)) (.string k) true).run Try.prog w = .ok (.tuple #[.pointer (some ⟨x.b, 0, none⟩), .bool true]) w := by
  obtain ⟨A, hA, hp⟩ := h.mp
  rcases hA.look law9 Try.underlying31 (zero32 w) (keys_ok hp h.ksz) (WideMaps.keyOf_string_mk Try.underlying9 hk) with ⟨h1, h2⟩ | ⟨v, h1, h2⟩
  · left
    refine ⟨fun hm => ?_, h1⟩
    obtain ⟨x, hx, rfl⟩ := List.mem_map.1 hm
    exact h2 _ (hp.mem_iff.2 (List.mem_map.2 ⟨x, hx, rfl⟩)) rfl
  · right
    obtain ⟨x, hx, e⟩ := List.mem_map.1 (hp.mem_iff.1 h2)
    obtain ⟨xs, ys, rfl⟩ := List.append_of_mem hx
    simp only [Prod.mk.injEq, Value.string.injEq] at e
    obtain ⟨e1, rfl⟩ := e
    exact ⟨xs, x, ys, rfl, e1, h1⟩

/-- another number for an entry -/
theorem CS.setN {w : World} {B c m : Nat} {room s0 s1 s2 : Int} {xs ys : List Ent} {x : Ent} (h : CS w B c m room (xs ++ x :: ys) s0 s1 s2) (n : Int) :
    CS (w.setCell ⟨x.b, 1, none⟩ (.int .i64 n)) B c m room (xs ++ { x with n := n } :: ys) s0 s1 s2 := by
  have hb := h.blks
  simp only [List.map_append, List.map_cons, List.nodup_cons, List.mem_append, List.mem_cons, not_or, List.nodup_append] at hb
  obtain ⟨⟨hcm, hcx, hcxb, hcy⟩, ⟨hmx, hmxb, hmy⟩, hnx, ⟨hxy, hny⟩, hd2⟩ := hb
  obtain ⟨sa, sb, sc⟩ := (seg_app _ _ _ _).1 h.seg
  refine ⟨?_, ?_, ?_, ?_, ?_, ?_, ?_⟩
  · rw [blk_set_ne hcxb, h.hd]
    cases xs <;> simp [hdObj, ls_append, nx, ls]
  · rw [seg_app]
    refine ⟨seg_congr _ _ _ (fun z hz => blk_set_ne (hd2 z.b (List.mem_map_of_mem hz) x.b (by simp))) sa, ?_, ?_⟩
    · exact (blk_set sb).trans (by simp [entObj])
    · refine seg_congr _ _ _ (fun z hz => blk_set_ne fun e => hxy (e ▸ List.mem_map_of_mem hz)) sc
  · obtain ⟨A, hA, hp⟩ := h.mp
    exact ⟨A, hA.congr (blk_set_ne hmxb), by simpa using hp⟩
  · simpa using h.keys
  · simpa using h.blks
  · simpa using h.base
  · intro y hy
    simp only [List.mem_append, List.mem_cons] at hy
    rcases hy with hy | rfl | hy
    · exact h.ksz y (by simp [hy])
    · exact h.ksz x (by simp)
    · exact h.ksz y (by simp [hy])

theorem putKV_hit {xs ys : List Ent} {x : Ent} (h : ((xs ++ x :: ys).map Ent.k).Nodup) (room : Nat) (n : Int) :
    putKV room x.k n (kv (xs ++ x :: ys)) = kv ({ x with n := n } :: (xs ++ ys)) := by
  unfold putKV
  rw [if_pos (by simp [kv]), filter_split h]
  rfl

theorem put_hit {w : World} {B c m room : Nat} {s0 s1 s2 : Int} {xs ys : List Ent} {x : Ent} (h : CS w B c m room (xs ++ x :: ys) s0 s1 s2) (hr : 0 < room) (n : Int)
    (hl : (Instr.lookup 31 (.map (some m)) (.string x.k) true).run Try.prog w = .ok (.tuple #[.pointer (some ⟨x.b, 0, none⟩), .bool true]) w) :
    Calls Try.prog 6 #[.pointer (some ⟨c, 0, none⟩), .string x.k, .int .i64 n] w fun e w' => e = .returned (.tuple #[]) ∧
      CS w' B c m room ({ x with n := n } :: (xs ++ ys)) s0 s1 s2 ∧ Below B w w' := by
  have hmade := h.made
  have c0 : w.cell? ⟨c, 0, none⟩ = some (.int .i64 room) := blk_cell h.hd rfl
  have c1 : w.cell? ⟨c, 1, none⟩ = some (.map (some m)) := blk_cell h.hd rfl
  have r0 : ((room : Int) == 0) = false := by simp; omega
  obtain ⟨px, qx, hxb⟩ := seg_mem h.seg (x := x) (by simp)
  have x1 : w.cell? ⟨x.b, 1, none⟩ = some (.int .i64 x.n) := blk_cell hxb rfl
  have fx1 : w.frozen? ⟨x.b, 1, none⟩ = false := blk_free hxb
  go_enter Try.func6, Try.ntmps6
  go_wp2_with fail
  refine hmade.mono ?_
  rintro e w' ⟨rfl, rfl⟩
  clear hmade
  go_wp2_with fail
  refine (touch_cs (h.setN n)).mono ?_
  rintro e w1 ⟨rfl, hcs, hB⟩
  go_wp2_with fail
  refine bodyPost_ret (results_none rfl _ _ _) rfl ?_
  refine ⟨rfl, hcs, ?_⟩
  refine Below.trans (Below.setCell (Below.refl _ _) (p := ⟨x.b, 1, none⟩) (h.base x.b (by simp)) _) hB

theorem put_miss {w : World} {B c m room : Nat} {s0 s1 s2 : Int} {L : List Ent} (h : CS w B c m room L s0 s1 s2) (hr : 0 < room) (hr2 : room ≤ 4096) (hL : L.length ≤ room) (k : ByteArray) (hk : k.size ≤ maxLen) (n : Int) (hkL : k ∉ L.map Ent.k) (hBw : B ≤ w.heap.size)
    (hl : (Instr.lookup 31 (.map (some m)) (.string k) true).run Try.prog w = .ok (.tuple #[.pointer none, .bool false]) w) :
    Calls Try.prog 6 #[.pointer (some ⟨c, 0, none⟩), .string k, .int .i64 n] w fun e w' => e = .returned (.tuple #[]) ∧
      ∃ b, CS w' B c m room (⟨b, k, n⟩ :: L.take (room - 1)) s0 s1 (wrapN (L.length - (room - 1)) s2) ∧ Below B w w' := by
  have hmade := h.made
  have c0 : w.cell? ⟨c, 0, none⟩ = some (.int .i64 room) := blk_cell h.hd rfl
  have c1 : w.cell? ⟨c, 1, none⟩ = some (.map (some m)) := blk_cell h.hd rfl
  have r0 : ((room : Int) == 0) = false := by simp; omega
  have hsh := shrink_cs (room - 1) h (by omega) (by omega)
  rw [show ((room - 1 : Nat) : Int) = (room : Int) - 1 from by omega] at hsh
  have hr' : (1 : Int) ≤ room := by omega
  go_enter Try.func6, Try.ntmps6
  go_wp2_with fail
  refine hmade.mono ?_
  rintro e w' ⟨rfl, rfl⟩
  clear hmade
  go_wp2_with fail
  refine hsh.mono ?_
  rintro e w1 ⟨rfl, hcs, hB⟩
  clear hsh c0 c1 hl
  have c1 : w1.cell? ⟨c, 1, none⟩ = some (.map (some m)) := blk_cell hcs.hd rfl
  have hkL' : k ∉ (L.take (room - 1)).map Ent.k := fun hm => by
    obtain ⟨x, hx, rfl⟩ := List.mem_map.1 hm
    exact hkL (List.mem_map_of_mem (List.mem_of_mem_take hx))
  generalize hL1 : L.take (room - 1) = L1 at hcs hkL'
  have HL1 := (show Hid _ from hL1)
  clear hL1
  generalize hs2 : wrapN (L.length - (room - 1)) s2 = s2' at hcs
  have Hs2 := (show Hid _ from hs2)
  clear hs2
  have hlt1 : c < w1.heap.size := blk_lt hcs.hd
  obtain ⟨A, hA, hp⟩ := hcs.mp
  have hA1 : IsMap (w1.alloc (.cells #[.string k, .int .i64 n, .pointer none, .pointer none] 42)) m A := hA.congr (blk_old hA.lt)
  obtain ⟨o, hupd, hA2⟩ := hA1.store_new law9 Try.underlying31 (keys_ok hp hcs.ksz) (.pointer (some ⟨w1.heap.size, 0, none⟩)) (WideMaps.keyOf_string_mk Try.underlying9 hk) (by
    intro p hpA e
    obtain ⟨x, hx, rfl⟩ := List.mem_map.1 (hp.mem_iff.1 hpA)
    exact hkL' (by rw [← (Value.string.inj e)]; exact List.mem_map_of_mem hx))
  have hblk := hcs.blks
  have hnb : ∀ b ∈ c :: m :: L1.map Ent.b, b < w1.heap.size := by
    intro b hb
    simp only [List.mem_cons, List.mem_map] at hb
    rcases hb with rfl | rfl | ⟨x, hx, rfl⟩
    · exact hlt1
    · exact hA.lt
    · obtain ⟨_, _, hx2⟩ := seg_mem hcs.seg hx
      exact blk_lt hx2
  have hmlt : m ≠ w1.heap.size := fun e => by have := hnb m (by simp); omega
  have hold : ∀ b, b < w1.heap.size → b ≠ m → (setObjW (w1.alloc (.cells #[.string k, .int .i64 n, .pointer none, .pointer none] 42)) m o).heap[b]? = w1.heap[b]? :=
    fun b hb hbm => (setObjW_ne hbm).trans (blk_old hb)
  have hcm : c ≠ m := by
    simp only [List.nodup_cons, List.mem_cons, not_or] at hblk
    exact hblk.1.1
  have hmL : ∀ x ∈ L1, x.b ≠ m := by
    intro x hx e
    simp only [List.nodup_cons, List.mem_cons, not_or] at hblk
    exact hblk.2.1 (e ▸ List.mem_map_of_mem hx)
  have hBw1 : B ≤ w1.heap.size := Nat.le_trans hBw hB.size
  have hRS : RS (setObjW (w1.alloc (.cells #[.string k, .int .i64 n, .pointer none, .pointer none] 42)) m o) B c m room ⟨w1.heap.size, k, n⟩ L1 s0 s1 s2' := by
    refine ⟨(hold c hlt1 hcm).trans hcs.hd, ?_, ⟨none, none, ?_⟩, ?_, ?_⟩
    · exact seg_congr _ _ _ (fun x hx => hold x.b (hnb x.b (by simp; right; right; exact ⟨x, hx, rfl⟩)) (hmL x hx)) hcs.seg
    · exact (setObjW_ne (Ne.symm hmlt)).trans (blk_new _ _)
    · simp only [List.nodup_cons, List.mem_cons, not_or] at hblk ⊢
      refine ⟨⟨hcm, by omega, hblk.1.2⟩, ⟨hmlt, hblk.2.1⟩, ?_, hblk.2.2⟩
      intro hm
      have := hnb w1.heap.size (by simp only [List.mem_cons]; exact Or.inr (Or.inr hm))
      omega
    · intro b hb
      simp only [List.mem_cons] at hb
      rcases hb with h | h | h | h
      · exact hcs.base b (by simp [h])
      · exact hcs.base b (by simp [h])
      · rw [h]; exact hBw1
      · exact hcs.base b (by simp only [List.mem_cons]; exact Or.inr (Or.inr h))
  have hpush := push_cs hRS
  go_wp2_with fail
  refine hpush.mono ?_
  rintro e w2 ⟨rfl, k1, k2, k3, k4⟩
  go_wp2_with fail
  go_end0
  refine ⟨rfl, w1.heap.size, ?_, ?_⟩
  · rw [HL1.out, Hs2.out]
    refine ⟨k1, k2, ⟨_, hA2.congr k3, ?_⟩, ?_, ?_, ?_, ?_⟩
    · refine (List.perm_append_singleton _ _).trans ?_
      exact hp.cons _
    · simp only [List.map_cons, List.nodup_cons]
      exact ⟨hkL', hcs.keys⟩
    · have := hRS.blks
      simpa using this
    · have := hRS.base
      simpa using this
    · intro y hy
      rcases List.mem_cons.1 hy with rfl | hy
      · exact hk
      · exact hcs.ksz y hy
  · exact ((hB.alloc hBw1 _).trans (setObjW_below (hcs.base m (by simp)))).trans k4
end Go.Proofs.Ytkapilomliicdaa
