/-
  Plain facts on blocks of memory, and on a chain of entries that is doubly linked: what unlinking and pushing an entry make of it. No condition beyond those that each theorem states.
-/
import Derived.Test.YtkapilomliicdaaRows
import Derived.WalkKit
namespace Go.Proofs.Ytkapilomliicdaa
open Go.RowKit
set_option linter.unusedSimpArgs false
set_option linter.unusedVariables false

/-- the same memory, whatever has been drawn -/
structure Eqv (w w' : World) : Prop where
  heap : w'.heap = w.heap
  os : w'.os = w.os
  tape : w'.tape = w.tape
  output : w'.output = w.output

theorem Eqv.refl (w : World) : Eqv w w := ⟨rfl, rfl, rfl, rfl⟩
theorem Eqv.below {w w' : World} (h : Eqv w w') (B : Nat) : Below B w w' := ⟨h.os, h.tape, h.output, by rw [h.heap]; exact Nat.le_refl _, fun k _ => by rw [h.heap]⟩

theorem blk_lt {w : World} {b : Nat} {o : Obj} (h : w.heap[b]? = some o) : b < w.heap.size := by
  rcases Nat.lt_or_ge b w.heap.size with h' | h'
  · exact h'
  · simp [Array.getElem?_eq_none h'] at h
theorem blk_set {w : World} {b i : Nat} {cs : Array Value} {t : TypeId} {fz : Nat × Nat} {v : Value} (h : w.heap[b]? = some (.cells cs t fz)) :
    (w.setCell ⟨b, i, none⟩ v).heap[b]? = some (.cells (cs.setIfInBounds i v) t fz) := by
  have hlt := blk_lt h
  have h' : w.heap[b] = .cells cs t fz := by simpa [Array.getElem?_eq_getElem hlt] using h
  show (w.heap.modify b _)[b]? = _
  rw [Array.getElem?_eq_getElem (by simpa using hlt), Array.getElem_modify_self, h']
  simp
theorem blk_set_ne {w : World} {b b' i : Nat} {v : Value} (h : b' ≠ b) : (w.setCell ⟨b, i, none⟩ v).heap[b']? = w.heap[b']? :=
  Below.heap_setCell w _ v b' h
theorem blk_cell {w : World} {b i : Nat} {cs : Array Value} {t : TypeId} {fz : Nat × Nat} {v : Value} (h : w.heap[b]? = some (.cells cs t fz)) (hv : cs[i]? = some v) :
    w.cell? ⟨b, i, none⟩ = some v := by simp [World.cell?, h, hv]
theorem blk_free {w : World} {b i : Nat} {cs : Array Value} {t : TypeId} (h : w.heap[b]? = some (.cells cs t (0, 0))) : w.frozen? ⟨b, i, none⟩ = false := by
  simp [World.frozen?, h]
theorem blk_new (w : World) (o : Obj) : (w.alloc o).heap[w.heap.size]? = some o := by
  show (w.heap.push o)[w.heap.size]? = _
  simp
theorem blk_old {w : World} {o : Obj} {b : Nat} (h : b < w.heap.size) : (w.alloc o).heap[b]? = w.heap[b]? := Below.heap_alloc w o b h

def oaddr : Option Nat → Value
  | none => .pointer none
  | some b => .pointer (some ⟨b, 0, none⟩)

/-- an entry of the cache: its block, its key, its number -/
structure Ent where
  b : Nat
  k : ByteArray
  n : Int

def nx (l : List Ent) (d : Option Nat) : Option Nat := match l with | [] => d | y :: _ => some y.b
def ls (d : Option Nat) : List Ent → Option Nat
  | [] => d
  | x :: xs => ls (some x.b) xs

theorem nx_append (xs ys : List Ent) (d : Option Nat) : nx (xs ++ ys) d = nx xs (nx ys d) := by cases xs <;> rfl
theorem ls_append (xs ys : List Ent) (d : Option Nat) : ls d (xs ++ ys) = ls (ls d xs) ys := by
  induction xs generalizing d with
  | nil => rfl
  | cons x xs ih => exact ih _
theorem ls_snoc (xs : List Ent) (y : Ent) (d : Option Nat) : ls d (xs ++ [y]) = some y.b := by rw [ls_append]; rfl

def entObj (x : Ent) (p n : Option Nat) : Obj := .cells #[.string x.k, .int .i64 x.n, oaddr p, oaddr n] 42 (0, 0)

/-- a chain of entries in memory -/
def Seg (w : World) : Option Nat → List Ent → Option Nat → Prop
  | _, [], _ => True
  | p, x :: xs, n => w.heap[x.b]? = some (entObj x p (nx xs n)) ∧ Seg w (some x.b) xs n

theorem seg_app {w : World} (xs ys : List Ent) (p n : Option Nat) : Seg w p (xs ++ ys) n ↔ Seg w p xs (nx ys n) ∧ Seg w (ls p xs) ys n := by
  induction xs generalizing p with
  | nil => simp [Seg, ls]
  | cons x xs ih => simp only [List.cons_append, Seg, ih, nx_append, ls, and_assoc]

theorem seg_congr {w w' : World} (L : List Ent) (p n : Option Nat) (h : ∀ x ∈ L, w'.heap[x.b]? = w.heap[x.b]?) (hs : Seg w p L n) : Seg w' p L n := by
  induction L generalizing p with
  | nil => trivial
  | cons x xs ih => exact ⟨(h x (by simp)).trans hs.1, ih _ (fun y hy => h y (by simp [hy])) hs.2⟩

theorem seg_mem {w : World} {L : List Ent} {p n : Option Nat} (hs : Seg w p L n) {x : Ent} (hx : x ∈ L) : ∃ q r, w.heap[x.b]? = some (entObj x q r) := by
  induction L generalizing p with
  | nil => cases hx
  | cons y ys ih =>
    rcases List.mem_cons.1 hx with rfl | hx
    · exact ⟨_, _, hs.1⟩
    · exact ih hs.2 hx

theorem seg_setNext {w : World} {xs : List Ent} {z : Ent} {p n : Option Nat} (n' : Option Nat) (hs : Seg w p (xs ++ [z]) n) (hz : ∀ x ∈ xs, x.b ≠ z.b) :
    Seg (w.setCell ⟨z.b, 3, none⟩ (oaddr n')) p (xs ++ [z]) n' := by
  rw [seg_app] at hs ⊢
  refine ⟨seg_congr _ _ _ (fun x hx => blk_set_ne (hz x hx)) hs.1, ?_, trivial⟩
  exact blk_set hs.2.1

theorem seg_setPrev {w : World} {ys : List Ent} {y : Ent} {p n : Option Nat} (p' : Option Nat) (hs : Seg w p (y :: ys) n) (hz : ∀ x ∈ ys, x.b ≠ y.b) :
    Seg (w.setCell ⟨y.b, 2, none⟩ (oaddr p')) p' (y :: ys) n :=
  ⟨blk_set hs.1, seg_congr _ _ _ (fun x hx => blk_set_ne (hz x hx)) hs.2⟩

def hdObj (room : Int) (m : Nat) (L : List Ent) (s0 s1 s2 : Int) : Obj :=
  .cells #[.int .i64 room, .map (some m), oaddr (nx L none), oaddr (ls none L), .int .i64 s0, .int .i64 s1, .int .i64 s2] 35 (0, 0)

theorem lst_cases (xs : List Ent) : xs = [] ∨ ∃ ys z, xs = ys ++ [z] := by
  rcases List.eq_nil_or_concat xs with h | ⟨ys, z, h⟩
  · exact Or.inl h
  · exact Or.inr ⟨ys, z, by simpa using h⟩

def unlW (w : World) (c : Nat) (p o : Option Nat) : World :=
  let w1 := match p with | some p => w.setCell ⟨p, 3, none⟩ (oaddr o) | none => w.setCell ⟨c, 2, none⟩ (oaddr o)
  match o with | some o => w1.setCell ⟨o, 2, none⟩ (oaddr p) | none => w1.setCell ⟨c, 3, none⟩ (oaddr p)

/-- what unlinking does -/
theorem unlW_spec {w : World} {c m : Nat} {room s0 s1 s2 : Int} {xs ys : List Ent} {x : Ent}
    (hh : w.heap[c]? = some (hdObj room m (xs ++ x :: ys) s0 s1 s2)) (hs : Seg w none (xs ++ x :: ys) none) (hn : (c :: (xs ++ x :: ys).map Ent.b).Nodup) :
    (unlW w c (ls none xs) (nx ys none)).heap[c]? = some (hdObj room m (xs ++ ys) s0 s1 s2) ∧ Seg (unlW w c (ls none xs) (nx ys none)) none (xs ++ ys) none ∧
    (∀ b, b ≠ c → b ∉ (xs ++ ys).map Ent.b → (unlW w c (ls none xs) (nx ys none)).heap[b]? = w.heap[b]?) := by
  rw [seg_app] at hs
  obtain ⟨s1', sx, s2'⟩ := hs
  simp only [List.map_append, List.map_cons, List.nodup_cons, List.mem_append, List.mem_cons, not_or, List.nodup_append] at hn
  obtain ⟨⟨hc1, hcx, hc2⟩, hnx, ⟨hxy, hny⟩, hd⟩ := hn
  rcases lst_cases xs with rfl | ⟨xs, z, rfl⟩
  · rcases ys with _ | ⟨y, ys⟩
    · refine ⟨?_, trivial, ?_⟩
      · simp only [unlW, ls, nx]
        have := blk_set (i := 2) (v := oaddr none) hh
        have := blk_set (i := 3) (v := oaddr none) this
        simpa [hdObj, nx, ls] using this
      · intro b hb _
        simp only [unlW, ls, nx]
        rw [blk_set_ne hb, blk_set_ne hb]
    · have hyc : y.b ≠ c := by intro e; apply hc2; simp [e]
      refine ⟨?_, ?_, ?_⟩
      · simp only [unlW, ls, nx]
        rw [blk_set_ne hyc.symm]
        have := blk_set (i := 2) (v := oaddr (some y.b)) hh
        simpa [hdObj, nx, ls] using this
      · simp only [unlW, ls, nx, List.nil_append]
        refine seg_setPrev none (p := some x.b) ?_ ?_
        · exact seg_congr _ _ _ (fun z hz => blk_set_ne (by intro e; apply hc2; rw [← e]; exact List.mem_map_of_mem hz)) s2'
        · intro z hz e
          simp only [List.map_cons, List.nodup_cons] at hny
          apply hny.1
          rw [← e]; exact List.mem_map_of_mem hz
      · intro b hb hb2
        simp only [unlW, ls, nx]
        rw [blk_set_ne (by intro e; apply hb2; simp [e]), blk_set_ne hb]
  · have hzc : z.b ≠ c := by intro e; apply hc1; simp [e]
    have hzx : ∀ u ∈ xs, u.b ≠ z.b := by
      intro u hu e
      simp only [List.map_append, List.nodup_append] at hnx
      exact hnx.2.2 u.b (List.mem_map_of_mem hu) z.b (by simp) e
    have hzy : ∀ u ∈ ys, u.b ≠ z.b := by
      intro u hu e
      exact hd z.b (by simp) u.b (Or.inr (List.mem_map_of_mem hu)) e.symm
    rw [ls_snoc]
    rcases ys with _ | ⟨y, ys⟩
    · refine ⟨?_, ?_, ?_⟩
      · simp only [unlW, nx]
        have := blk_set_ne (w := w) (b := z.b) (b' := c) (i := 3) (v := oaddr none) hzc.symm
        have := blk_set (i := 3) (v := oaddr (some z.b)) (this.trans hh)
        rw [this]
        simp [hdObj, nx_append, ls_append, nx, ls]
        cases xs <;> rfl
      · simp only [unlW, nx, List.append_nil]
        refine seg_congr _ _ _ (fun u hu => blk_set_ne (by intro e; apply hc1; rw [← e]; exact List.mem_map_of_mem hu)) ?_
        exact seg_setNext none s1' hzx
      · intro b hb hb2
        simp only [unlW, nx]
        rw [blk_set_ne hb, blk_set_ne (by intro e; apply hb2; simp [e])]
    · have hyc : y.b ≠ c := by intro e; apply hc2; simp [e]
      refine ⟨?_, ?_, ?_⟩
      · simp only [unlW, nx]
        rw [blk_set_ne hyc.symm, blk_set_ne hzc.symm, hh]
        simp [hdObj, nx_append, ls_append, nx, ls]
        cases xs <;> rfl
      · simp only [unlW, nx]
        rw [seg_app]
        refine ⟨?_, ?_⟩
        · refine seg_congr _ _ _ (fun u hu => blk_set_ne ?_) (seg_setNext (some y.b) s1' hzx)
          intro e
          exact hd u.b (List.mem_map_of_mem hu) y.b (by simp) e
        · rw [ls_snoc]
          refine seg_setPrev _ (p := some x.b) (seg_congr _ _ _ (fun u hu => blk_set_ne (hzy u hu)) s2') ?_
          intro u hu e
          simp only [List.map_cons, List.nodup_cons] at hny
          apply hny.1
          rw [← e]; exact List.mem_map_of_mem hu
      · intro b hb hb2
        simp only [unlW, nx]
        rw [blk_set_ne (by intro e; apply hb2; simp [e]), blk_set_ne (by intro e; apply hb2; simp [e])]

def pushW (w : World) (c e : Nat) (f : Option Nat) : World :=
  let w1 := (w.setCell ⟨e, 2, none⟩ (oaddr none)).setCell ⟨e, 3, none⟩ (oaddr f)
  let w2 := match f with | some q => w1.setCell ⟨q, 2, none⟩ (oaddr (some e)) | none => w1.setCell ⟨c, 3, none⟩ (oaddr (some e))
  w2.setCell ⟨c, 2, none⟩ (oaddr (some e))

theorem pushW_spec {w : World} {c m : Nat} {room s0 s1 s2 : Int} {L : List Ent} {x : Ent} {p q : Option Nat}
    (hh : w.heap[c]? = some (hdObj room m L s0 s1 s2)) (hs : Seg w none L none) (hx : w.heap[x.b]? = some (entObj x p q)) (hn : (c :: x.b :: L.map Ent.b).Nodup) :
    (pushW w c x.b (nx L none)).heap[c]? = some (hdObj room m (x :: L) s0 s1 s2) ∧ Seg (pushW w c x.b (nx L none)) none (x :: L) none ∧
    (∀ b, b ≠ c → b ∉ (x :: L).map Ent.b → (pushW w c x.b (nx L none)).heap[b]? = w.heap[b]?) := by
  simp only [List.nodup_cons, List.mem_cons, not_or] at hn
  obtain ⟨⟨hcx, hcL⟩, hxL, hnL⟩ := hn
  have hxs := blk_set (i := 3) (v := oaddr (nx L none)) (blk_set (i := 2) (v := oaddr none) hx)
  have hx' : ((w.setCell ⟨x.b, 2, none⟩ (oaddr none)).setCell ⟨x.b, 3, none⟩ (oaddr (nx L none))).heap[x.b]? = some (entObj x none (nx L none)) := by
    rw [hxs]; simp [entObj]
  have hh' : ((w.setCell ⟨x.b, 2, none⟩ (oaddr none)).setCell ⟨x.b, 3, none⟩ (oaddr (nx L none))).heap[c]? = some (hdObj room m L s0 s1 s2) := by
    rw [blk_set_ne hcx, blk_set_ne hcx, hh]
  have hs' : Seg ((w.setCell ⟨x.b, 2, none⟩ (oaddr none)).setCell ⟨x.b, 3, none⟩ (oaddr (nx L none))) none L none := by
    have : ∀ u ∈ L, u.b ≠ x.b := by intro u hu e; apply hxL; rw [← e]; exact List.mem_map_of_mem hu
    exact seg_congr _ _ _ (fun u hu => by rw [blk_set_ne (this u hu), blk_set_ne (this u hu)]) hs
  rcases L with _ | ⟨y, L⟩
  · simp only [pushW, nx] at *
    refine ⟨?_, ⟨?_, trivial⟩, ?_⟩
    · have := blk_set (i := 2) (v := oaddr (some x.b)) (blk_set (i := 3) (v := oaddr (some x.b)) hh')
      rw [this]
      simp [hdObj, nx, ls]
    · rw [blk_set_ne (Ne.symm hcx), blk_set_ne (Ne.symm hcx)]; exact hx'
    · intro b hb hb2
      have hbx : b ≠ x.b := by intro e; apply hb2; simp [e]
      rw [blk_set_ne hb, blk_set_ne hb, blk_set_ne hbx, blk_set_ne hbx]
  · have hyc : y.b ≠ c := by intro e; apply hcL; simp [e]
    have hyx : y.b ≠ x.b := by intro e; apply hxL; simp [e]
    simp only [pushW, nx] at *
    refine ⟨?_, ⟨?_, ?_⟩, ?_⟩
    · have := blk_set (i := 2) (v := oaddr (some x.b)) ((blk_set_ne (w := (w.setCell ⟨x.b, 2, none⟩ (oaddr none)).setCell ⟨x.b, 3, none⟩ (oaddr (some y.b))) (b := y.b) (b' := c) (i := 2) (v := oaddr (some x.b)) hyc.symm).trans hh')
      rw [this]
      simp [hdObj, nx, ls]
    · rw [blk_set_ne (Ne.symm hcx), blk_set_ne hyx.symm]; exact hx'
    · have hyL : ∀ u ∈ L, u.b ≠ y.b := by
        intro u hu e
        simp only [List.map_cons, List.nodup_cons] at hnL
        apply hnL.1
        rw [← e]; exact List.mem_map_of_mem hu
      refine seg_congr _ _ _ (fun u hu => blk_set_ne ?_) (seg_setPrev (some x.b) hs' hyL)
      intro e
      apply hcL
      rw [← e]; exact List.mem_map_of_mem hu
    · intro b hb hb2
      have hbx : b ≠ x.b := by intro e; apply hb2; simp [e]
      have hby : b ≠ y.b := by intro e; apply hb2; simp [e]
      rw [blk_set_ne hb, blk_set_ne hby, blk_set_ne hbx, blk_set_ne hbx]

end Go.Proofs.Ytkapilomliicdaa
