/-
  Plain facts on a stack in memory: what an append onto one of its rows leaves, when it is stored back. No condition.
-/
import Derived.Test.YtlnhganinomaaaaUps
namespace Go.Proofs.Ytlnhganinomaaaa
open Go.RowKit Go.Maps
set_option linter.unusedSimpArgs false
set_option linter.unusedVariables false

theorem nd_iff {s mn ml : Nat} {pv uv : Value} {vs : List Value} : (blks s mn ml pv uv vs).Nodup ↔ (s ≠ mn ∧ s ≠ ml ∧ mn ≠ ml) ∧ (∀ v ∈ pv :: uv :: vs, ∀ x, v.ownBlock = some x → x ≠ s ∧ x ≠ mn ∧ x ≠ ml) ∧
    (pv :: uv :: vs).Pairwise (fun a b => ∀ x, a.ownBlock = some x → b.ownBlock ≠ some x) := by
  unfold blks
  rw [List.nodup_cons, List.nodup_cons, List.nodup_cons]
  have hp : ((pv :: uv :: vs).filterMap Value.ownBlock).Nodup ↔ (pv :: uv :: vs).Pairwise (fun a b => ∀ x, a.ownBlock = some x → b.ownBlock ≠ some x) := by
    rw [List.Nodup, List.pairwise_filterMap]
    constructor
    · intro h
      refine h.imp ?_
      intro a b hab x hx hy
      exact hab x hx x hy rfl
    · intro h
      refine h.imp ?_
      intro a b hab x hx y hy e
      subst e
      exact hab x hx hy
  rw [hp]
  simp only [List.mem_cons, List.mem_filterMap, not_or, not_exists, not_and]
  constructor
  · rintro ⟨⟨h1, h2, h3⟩, ⟨h4, h5⟩, h6, h7⟩
    exact ⟨⟨h1, h2, h4⟩, fun v hv x hx => ⟨fun e => h3 v hv (e ▸ hx), fun e => h5 v hv (e ▸ hx), fun e => h6 v hv (e ▸ hx)⟩, h7⟩
  · rintro ⟨⟨h1, h2, h4⟩, h5, h7⟩
    exact ⟨⟨h1, h2, fun v hv hx => (h5 v hv s hx).1 rfl⟩, ⟨h4, fun v hv hx => (h5 v hv mn hx).2.1 rfl⟩, fun v hv hx => (h5 v hv ml hx).2.2 rfl, h7⟩

theorem mem_blks {s mn ml b : Nat} {pv uv : Value} {vs : List Value} : b ∈ blks s mn ml pv uv vs ↔ b = s ∨ b = mn ∨ b = ml ∨ ∃ v ∈ pv :: uv :: vs, v.ownBlock = some b := by
  simp only [blks, List.mem_cons, List.mem_filterMap]

section
variable {w w' : World} {B s mn ml : Nat} {qn ql : List (Value × Value)} {pl : List (Int × Int)} {us : List (List Int)} {pv uv : Value} {vs : List Value}

theorem St.vlen (h : St w B s qn ql pl us pv uv vs mn ml) : vs.length = us.length := by have := h.urow.1; omega

/-- the places are appended to, and stored back -/
theorem St.places (h : St w B s qn ql pl us pv uv vs mn ml) {pv' : Value} {pl' : List (Int × Int)} (hg : w.grownBy w' pv.ownBlock) (hown : w'.ownsRow B 46 2 pv' pl'.length (pl'.flatMap pcell))
    (hl : pv'.ownBlock = pv.ownBlock ∨ pv'.ownBlock = some w.heap.size) (hB : B ≤ w.heap.size) :
    St (w'.setCell ⟨s, 0, none⟩ pv') B s qn ql pl' us pv' uv vs mn ml ∧ Chg (blks s mn ml pv uv vs) w (w'.setCell ⟨s, 0, none⟩ pv') ∧
      ∀ b ∈ blks s mn ml pv' uv vs, b ∈ blks s mn ml pv uv vs ∨ w.heap.size ≤ b := by
  obtain ⟨⟨n1, n2, n3⟩, n4, n5⟩ := nd_iff.1 h.nd
  obtain ⟨n6, n7⟩ := List.pairwise_cons.1 n5
  have hlt := h.lt
  have keep : ∀ b, b < w.heap.size → b ≠ s → pv.ownBlock ≠ some b → (w'.setCell ⟨s, 0, none⟩ pv').heap[b]? = w.heap[b]? := by
    intro b hb hs hp
    rw [blk_set_ne hs]
    exact hg.block b hb (fun e => hp e.symm)
  have hs' : w'.heap[s]? = w.heap[s]? := hg.block s (hlt s (mem_blks.2 (Or.inl rfl))) (fun e => (n4 pv (by simp) s e.symm).1 rfl)
  have hne : ∀ x, pv'.ownBlock = some x → x ≠ s := by
    intro x hx
    rcases hl with e | e
    · exact (n4 pv (by simp) x (e ▸ hx)).1
    · rw [e] at hx
      have := hlt s (mem_blks.2 (Or.inl rfl))
      injection hx with hx
      omega
  have hoth : ∀ v ∈ uv :: vs, ∀ x, v.ownBlock = some x → (w'.setCell ⟨s, 0, none⟩ pv').heap[x]? = w.heap[x]? := by
    intro v hv x hx
    have hv' : v ∈ pv :: uv :: vs := List.mem_cons_of_mem _ hv
    exact keep x (hlt x (mem_blks.2 (Or.inr (Or.inr (Or.inr ⟨v, hv', hx⟩))))) (n4 v hv' x hx).1 (fun e => n6 v hv x e hx)
  refine ⟨⟨?_, ?_, ?_, ?_, ?_, ?_, ?_, ?_⟩, ?_, ?_⟩
  · exact (blk_set (hs'.trans h.hd)).trans (by simp)
  · exact ownsRow_keep hown (fun g hg' => blk_set_ne (hne g hg'))
  · exact ownsRow_keep h.urow (fun g hg' => hoth uv (by simp) g hg')
  · intro i hi
    obtain ⟨v, h1, h2⟩ := h.rows i hi
    exact ⟨v, h1, ownsRow_keep h2 (fun g hg' => hoth v (by simp [List.mem_of_getElem? h1]) g hg')⟩
  · exact h.nodes.congr (keep mn h.nodes.lt (Ne.symm n1) (fun e => (n4 pv (by simp) mn e).2.1 rfl))
  · exact h.links.congr (keep ml h.links.lt (Ne.symm n2) (fun e => (n4 pv (by simp) ml e).2.2 rfl))
  · rw [nd_iff]
    refine ⟨⟨n1, n2, n3⟩, ?_, List.pairwise_cons.2 ⟨?_, n7⟩⟩
    · intro v hv x hx
      rcases List.mem_cons.1 hv with rfl | hv
      · rcases hl with e | e
        · exact n4 pv (by simp) x (e ▸ hx)
        · rw [e] at hx
          injection hx with hx
          subst hx
          have a1 := hlt s (mem_blks.2 (Or.inl rfl))
          have a2 := h.nodes.lt
          have a3 := h.links.lt
          omega
      · exact n4 v (List.mem_cons_of_mem _ hv) x hx
    · intro v hv x hx hy
      rcases hl with e | e
      · exact n6 v hv x (e ▸ hx) hy
      · rw [e] at hx
        injection hx with hx
        have := hlt x (mem_blks.2 (Or.inr (Or.inr (Or.inr ⟨v, List.mem_cons_of_mem _ hv, hy⟩))))
        omega
  · intro b hb
    rcases mem_blks.1 hb with h1 | h1 | h1 | ⟨v, hv, hx⟩
    · exact h.base b (mem_blks.2 (Or.inl h1))
    · exact h.base b (mem_blks.2 (Or.inr (Or.inl h1)))
    · exact h.base b (mem_blks.2 (Or.inr (Or.inr (Or.inl h1))))
    · rcases List.mem_cons.1 hv with rfl | hv
      · exact (ownsRow_lt hown hx).1
      · exact h.base b (mem_blks.2 (Or.inr (Or.inr (Or.inr ⟨v, List.mem_cons_of_mem _ hv, hx⟩))))
  · refine (Chg.grown hg (fun g e => mem_blks.2 (Or.inr (Or.inr (Or.inr ⟨pv, by simp, e⟩))))).trans (Chg.setCell _ _ (mem_blks.2 (Or.inl rfl)))
  · intro b hb
    rcases mem_blks.1 hb with h1 | h1 | h1 | ⟨v, hv, hx⟩
    · exact Or.inl (mem_blks.2 (Or.inl h1))
    · exact Or.inl (mem_blks.2 (Or.inr (Or.inl h1)))
    · exact Or.inl (mem_blks.2 (Or.inr (Or.inr (Or.inl h1))))
    · rcases List.mem_cons.1 hv with rfl | hv
      · rcases hl with e | e
        · exact Or.inl (mem_blks.2 (Or.inr (Or.inr (Or.inr ⟨pv, by simp, e ▸ hx⟩))))
        · rw [e] at hx
          injection hx with hx
          exact Or.inr (by omega)
      · exact Or.inl (mem_blks.2 (Or.inr (Or.inr (Or.inr ⟨v, List.mem_cons_of_mem _ hv, hx⟩))))

/-- one row more, of none -/
theorem St.ups (h : St w B s qn ql pl us pv uv vs mn ml) {uv' : Value} (hg : w.grownBy w' uv.ownBlock) (hown : w'.ownsRow B 32 1 uv' (us.length + 1) (vs ++ [.slice none 0 0]))
    (hl : uv'.ownBlock = uv.ownBlock ∨ uv'.ownBlock = some w.heap.size) (hB : B ≤ w.heap.size) :
    St (w'.setCell ⟨s, 1, none⟩ uv') B s qn ql pl (us ++ [[]]) pv uv' (vs ++ [.slice none 0 0]) mn ml ∧ Chg (blks s mn ml pv uv vs) w (w'.setCell ⟨s, 1, none⟩ uv') ∧
      ∀ b ∈ blks s mn ml pv uv' (vs ++ [.slice none 0 0]), b ∈ blks s mn ml pv uv vs ∨ w.heap.size ≤ b := by
  obtain ⟨⟨n1, n2, n3⟩, n4, n5⟩ := nd_iff.1 h.nd
  obtain ⟨n6, n7⟩ := List.pairwise_cons.1 n5
  obtain ⟨n8, n9⟩ := List.pairwise_cons.1 n7
  have hlt := h.lt
  have keep : ∀ b, b < w.heap.size → b ≠ s → uv.ownBlock ≠ some b → (w'.setCell ⟨s, 1, none⟩ uv').heap[b]? = w.heap[b]? := by
    intro b hb hs hp
    rw [blk_set_ne hs]
    exact hg.block b hb (fun e => hp e.symm)
  have hs' : w'.heap[s]? = w.heap[s]? := hg.block s (hlt s (mem_blks.2 (Or.inl rfl))) (fun e => (n4 uv (by simp) s e.symm).1 rfl)
  have hne : ∀ x, uv'.ownBlock = some x → x ≠ s := by
    intro x hx
    rcases hl with e | e
    · exact (n4 uv (by simp) x (e ▸ hx)).1
    · rw [e] at hx
      have := hlt s (mem_blks.2 (Or.inl rfl))
      injection hx with hx
      omega
  have hpv : ∀ x, pv.ownBlock = some x → (w'.setCell ⟨s, 1, none⟩ uv').heap[x]? = w.heap[x]? := by
    intro x hx
    exact keep x (hlt x (mem_blks.2 (Or.inr (Or.inr (Or.inr ⟨pv, by simp, hx⟩))))) (n4 pv (by simp) x hx).1 (fun e => n6 uv (by simp) x hx e)
  have hoth : ∀ v ∈ vs, ∀ x, v.ownBlock = some x → (w'.setCell ⟨s, 1, none⟩ uv').heap[x]? = w.heap[x]? := by
    intro v hv x hx
    have hv' : v ∈ pv :: uv :: vs := by simp [hv]
    exact keep x (hlt x (mem_blks.2 (Or.inr (Or.inr (Or.inr ⟨v, hv', hx⟩))))) (n4 v hv' x hx).1 (fun e => n8 v hv x e hx)
  have hnil : ∀ x, (Value.slice none 0 0).ownBlock ≠ some x := fun x e => by cases e
  refine ⟨⟨?_, ?_, ?_, ?_, ?_, ?_, ?_, ?_⟩, ?_, ?_⟩
  · exact (blk_set (hs'.trans h.hd)).trans (by simp)
  · exact ownsRow_keep h.prow hpv
  · rw [List.length_append]; exact ownsRow_keep hown (fun g hg' => blk_set_ne (hne g hg'))
  · intro i hi
    have hvl := h.vlen
    rcases Nat.lt_or_ge i us.length with hlt' | hge
    · obtain ⟨v, h1, h2⟩ := h.rows i hlt'
      refine ⟨v, by rw [List.getElem?_append_left (by omega)]; exact h1, ?_⟩
      rw [List.getElem_append_left hlt']
      exact ownsRow_keep h2 (fun g hg' => hoth v (List.mem_of_getElem? h1) g hg')
    · obtain rfl : i = us.length := by simp at hi; omega
      refine ⟨.slice none 0 0, by rw [List.getElem?_append_right (by omega)]; simp [hvl], ?_⟩
      rw [List.getElem_append_right (Nat.le_refl _)]
      simp only [Nat.sub_self, List.getElem_cons_zero, List.length_nil, List.map_nil]
      exact World.ownsRow_nil _ _ _ _
  · exact h.nodes.congr (keep mn h.nodes.lt (Ne.symm n1) (fun e => (n4 uv (by simp) mn e).2.1 rfl))
  · exact h.links.congr (keep ml h.links.lt (Ne.symm n2) (fun e => (n4 uv (by simp) ml e).2.2 rfl))
  · rw [nd_iff]
    have hfresh : ∀ x, uv'.ownBlock = some x → uv.ownBlock = some x ∨ x = w.heap.size := by
      intro x hx
      rcases hl with e | e
      · exact Or.inl (e ▸ hx)
      · rw [e] at hx; injection hx with hx; exact Or.inr hx.symm
    refine ⟨⟨n1, n2, n3⟩, ?_, List.pairwise_cons.2 ⟨?_, List.pairwise_cons.2 ⟨?_, ?_⟩⟩⟩
    · intro v hv x hx
      simp only [List.mem_cons, List.mem_append, List.not_mem_nil, or_false] at hv
      rcases hv with rfl | rfl | hv | rfl
      · exact n4 v (by simp) x hx
      · rcases hfresh x hx with e | rfl
        · exact n4 uv (by simp) x e
        · have a1 := hlt s (mem_blks.2 (Or.inl rfl))
          have a2 := h.nodes.lt
          have a3 := h.links.lt
          omega
      · exact n4 v (by simp [hv]) x hx
      · exact absurd hx (hnil x)
    · intro v hv x hx hy
      simp only [List.mem_cons, List.mem_append, List.not_mem_nil, or_false] at hv
      rcases hv with rfl | hv | rfl
      · rcases hfresh x hy with e | rfl
        · exact n6 uv (by simp) x hx e
        · have := hlt _ (mem_blks.2 (Or.inr (Or.inr (Or.inr ⟨pv, by simp, hx⟩))))
          omega
      · exact n6 v (by simp [hv]) x hx hy
      · exact absurd hy (hnil x)
    · intro v hv x hx hy
      simp only [List.mem_append, List.mem_cons, List.not_mem_nil, or_false] at hv
      rcases hv with hv | rfl
      · rcases hfresh x hx with e | rfl
        · exact n8 v hv x e hy
        · have := hlt _ (mem_blks.2 (Or.inr (Or.inr (Or.inr ⟨v, by simp [hv], hy⟩))))
          omega
      · exact absurd hy (hnil x)
    · refine List.pairwise_append.2 ⟨n9, by simp, ?_⟩
      intro a _ b hb x _ hy
      simp at hb
      subst hb
      exact hnil x hy
  · intro b hb
    rcases mem_blks.1 hb with h1 | h1 | h1 | ⟨v, hv, hx⟩
    · exact h.base b (mem_blks.2 (Or.inl h1))
    · exact h.base b (mem_blks.2 (Or.inr (Or.inl h1)))
    · exact h.base b (mem_blks.2 (Or.inr (Or.inr (Or.inl h1))))
    · simp only [List.mem_cons, List.mem_append, List.not_mem_nil, or_false] at hv
      rcases hv with rfl | rfl | hv | rfl
      · exact (ownsRow_lt h.prow hx).1
      · exact (ownsRow_lt hown hx).1
      · exact h.base b (mem_blks.2 (Or.inr (Or.inr (Or.inr ⟨v, by simp [hv], hx⟩))))
      · exact absurd hx (hnil b)
  · refine (Chg.grown hg (fun g e => mem_blks.2 (Or.inr (Or.inr (Or.inr ⟨uv, by simp, e⟩))))).trans (Chg.setCell _ _ (mem_blks.2 (Or.inl rfl)))
  · intro b hb
    rcases mem_blks.1 hb with h1 | h1 | h1 | ⟨v, hv, hx⟩
    · exact Or.inl (mem_blks.2 (Or.inl h1))
    · exact Or.inl (mem_blks.2 (Or.inr (Or.inl h1)))
    · exact Or.inl (mem_blks.2 (Or.inr (Or.inr (Or.inl h1))))
    · simp only [List.mem_cons, List.mem_append, List.not_mem_nil, or_false] at hv
      rcases hv with rfl | rfl | hv | rfl
      · exact Or.inl (mem_blks.2 (Or.inr (Or.inr (Or.inr ⟨v, by simp, hx⟩))))
      · rcases hl with e | e
        · exact Or.inl (mem_blks.2 (Or.inr (Or.inr (Or.inr ⟨uv, by simp, e ▸ hx⟩))))
        · rw [e] at hx; injection hx with hx; exact Or.inr (by omega)
      · exact Or.inl (mem_blks.2 (Or.inr (Or.inr (Or.inr ⟨v, by simp [hv], hx⟩))))
      · exact absurd hx (hnil b)

/-- one of the rows is appended to, and stored back -/
theorem St.row (h : St w B s qn ql pl us pv uv vs mn ml) {i gu cap : Nat} (hi : i < us.length) (hu : uv = .slice (some ⟨gu, 0, none⟩) us.length cap) {v v' : Value} (hv : vs[i]? = some v) {l' : List Int}
    (hg : w.grownBy w' v.ownBlock) (hown : w'.ownsRow B 3 1 v' l'.length (l'.map (Value.int .i64))) (hl : v'.ownBlock = v.ownBlock ∨ v'.ownBlock = some w.heap.size) (hB : B ≤ w.heap.size) :
    St (w'.setCell ⟨gu, i, none⟩ v') B s qn ql pl (us.set i l') pv uv (vs.set i v') mn ml ∧ Chg (blks s mn ml pv uv vs) w (w'.setCell ⟨gu, i, none⟩ v') ∧
      ∀ b ∈ blks s mn ml pv uv (vs.set i v'), b ∈ blks s mn ml pv uv vs ∨ w.heap.size ≤ b := by
  obtain ⟨⟨n1, n2, n3⟩, n4, n5⟩ := nd_iff.1 h.nd
  obtain ⟨n6, n7⟩ := List.pairwise_cons.1 n5
  obtain ⟨n8, n9⟩ := List.pairwise_cons.1 n7
  have hlt := h.lt
  have hvl := h.vlen
  have hvm : v ∈ vs := List.mem_of_getElem? hv
  have huo : uv.ownBlock = some gu := by rw [hu]; rfl
  have hgu := n4 uv (by simp) gu huo
  have keep : ∀ b, b < w.heap.size → b ≠ gu → v.ownBlock ≠ some b → (w'.setCell ⟨gu, i, none⟩ v').heap[b]? = w.heap[b]? := by
    intro b hb hs hp
    rw [blk_set_ne hs]
    exact hg.block b hb (fun e => hp e.symm)
  have hblt : ∀ x ∈ pv :: uv :: vs, ∀ b, x.ownBlock = some b → b < w.heap.size := fun x hx b hb => hlt b (mem_blks.2 (Or.inr (Or.inr (Or.inr ⟨x, hx, hb⟩))))
  have hguw : w'.heap[gu]? = w.heap[gu]? := hg.block gu (hblt uv (by simp) gu huo) (fun e => n8 v hvm gu huo e.symm)
  have hfresh : ∀ x, v'.ownBlock = some x → v.ownBlock = some x ∨ x = w.heap.size := by
    intro x hx
    rcases hl with e | e
    · exact Or.inl (e ▸ hx)
    · rw [e] at hx; injection hx with hx; exact Or.inr hx.symm
  have hne : ∀ x, v'.ownBlock = some x → x ≠ gu := by
    intro x hx e
    subst e
    rcases hfresh x hx with e | e
    · exact n8 v hvm x huo e
    · have := hblt uv (by simp) x huo; omega
  -- two rows share no block
  have hrr : ∀ j x, j ≠ i → vs[j]? = some x → ∀ b, v.ownBlock = some b → x.ownBlock ≠ some b := by
    intro j x hj hx b hb hxb
    have hil : i < vs.length := by omega
    have hjl : j < vs.length := (List.getElem?_eq_some_iff.1 hx).1
    rw [List.getElem?_eq_getElem hil] at hv
    rw [List.getElem?_eq_getElem hjl] at hx
    injection hv with hv
    injection hx with hx
    rcases Nat.lt_or_ge i j with h1 | h1
    · exact (List.pairwise_iff_getElem.1 n9 i j hil hjl h1) b (hv ▸ hb) (hx ▸ hxb)
    · exact (List.pairwise_iff_getElem.1 n9 j i hjl hil (by omega)) b (hx ▸ hxb) (hv ▸ hb)
  have hupd : w'.ownsRow B 32 1 uv us.length vs := ownsRow_keep h.urow (fun g hg' => by rw [huo] at hg'; injection hg' with hg'; subst hg'; exact hguw)
  refine ⟨⟨?_, ?_, ?_, ?_, ?_, ?_, ?_, ?_⟩, ?_, ?_⟩
  · exact (keep s (hlt s (mem_blks.2 (Or.inl rfl))) (Ne.symm hgu.1) (fun e => (n4 v (by simp [hvm]) s e).1 rfl)).trans h.hd
  · exact ownsRow_keep h.prow (fun g hg' => keep g (hblt pv (by simp) g hg') (fun e => n6 uv (by simp) g hg' (e ▸ huo)) (fun e => n6 v (by simp [hvm]) g hg' e))
  · rw [List.length_set]
    subst hu
    have := (World.ownsRow.stored hupd i v').1
    simpa using this
  · intro j hj
    rw [List.length_set] at hj
    by_cases hji : j = i
    · subst hji
      refine ⟨v', by simp [hvl, hi], ?_⟩
      rw [List.getElem_set_self]
      exact ownsRow_keep hown (fun g hg' => blk_set_ne (hne g hg'))
    · obtain ⟨x, h1, h2⟩ := h.rows j hj
      refine ⟨x, by rw [List.getElem?_set_ne (Ne.symm hji)]; exact h1, ?_⟩
      rw [List.getElem_set_ne (Ne.symm hji)]
      have hxm : x ∈ vs := List.mem_of_getElem? h1
      exact ownsRow_keep h2 (fun g hg' => keep g (hblt x (by simp [hxm]) g hg') (fun e => n8 x hxm gu huo (e ▸ hg')) (fun e => hrr j x hji h1 g e hg'))
  · exact h.nodes.congr (keep mn h.nodes.lt (Ne.symm hgu.2.1) (fun e => (n4 v (by simp [hvm]) mn e).2.1 rfl))
  · exact h.links.congr (keep ml h.links.lt (Ne.symm hgu.2.2) (fun e => (n4 v (by simp [hvm]) ml e).2.2 rfl))
  · rw [nd_iff]
    have hsz : ∀ x ∈ pv :: uv :: vs, x.ownBlock ≠ some w.heap.size := fun x hx e => by have := hblt x hx _ e; omega
    refine ⟨⟨n1, n2, n3⟩, ?_, List.pairwise_cons.2 ⟨?_, List.pairwise_cons.2 ⟨?_, ?_⟩⟩⟩
    · intro x hx b hb
      simp only [List.mem_cons] at hx
      rcases hx with rfl | rfl | hx
      · exact n4 x (by simp) b hb
      · exact n4 x (by simp) b hb
      · rcases List.mem_or_eq_of_mem_set hx with hx | rfl
        · exact n4 x (by simp [hx]) b hb
        · rcases hfresh b hb with e | rfl
          · exact n4 v (by simp [hvm]) b e
          · have a1 := hlt s (mem_blks.2 (Or.inl rfl))
            have a2 := h.nodes.lt
            have a3 := h.links.lt
            omega
    · intro x hx b hb hy
      simp only [List.mem_cons] at hx
      rcases hx with rfl | hx
      · exact n6 x (by simp) b hb hy
      · rcases List.mem_or_eq_of_mem_set hx with hx | rfl
        · exact n6 x (by simp [hx]) b hb hy
        · rcases hfresh b hy with e | rfl
          · exact n6 v (by simp [hvm]) b hb e
          · exact hsz pv (by simp) hb
    · intro x hx b hb hy
      rcases List.mem_or_eq_of_mem_set hx with hx | rfl
      · exact n8 x hx b hb hy
      · rcases hfresh b hy with e | rfl
        · exact n8 v hvm b hb e
        · exact hsz uv (by simp) hb
    · rw [List.pairwise_iff_getElem] at n9 ⊢
      intro a b ha hb hab x hx hy
      rw [List.length_set] at ha hb
      rw [List.getElem_set] at hx hy
      have hmem : ∀ c, (hc : c < vs.length) → vs[c] ∈ pv :: uv :: vs := fun c hc => by simp
      split at hx
      · rename_i e1
        split at hy
        · omega
        · rename_i e2
          rcases hfresh x hx with e | rfl
          · exact hrr b vs[b] (by omega) (List.getElem?_eq_getElem hb) x e hy
          · exact hsz _ (hmem b hb) hy
      · rename_i e1
        split at hy
        · rename_i e2
          rcases hfresh x hy with e | rfl
          · exact hrr a vs[a] (by omega) (List.getElem?_eq_getElem ha) x e hx
          · exact hsz _ (hmem a ha) hx
        · exact n9 a b ha hb hab x hx hy
  · intro b hb
    rcases mem_blks.1 hb with h1 | h1 | h1 | ⟨x, hx, hb'⟩
    · exact h.base b (mem_blks.2 (Or.inl h1))
    · exact h.base b (mem_blks.2 (Or.inr (Or.inl h1)))
    · exact h.base b (mem_blks.2 (Or.inr (Or.inr (Or.inl h1))))
    · simp only [List.mem_cons] at hx
      rcases hx with rfl | rfl | hx
      · exact h.base b (mem_blks.2 (Or.inr (Or.inr (Or.inr ⟨x, by simp, hb'⟩))))
      · exact h.base b (mem_blks.2 (Or.inr (Or.inr (Or.inr ⟨x, by simp, hb'⟩))))
      · rcases List.mem_or_eq_of_mem_set hx with hx | rfl
        · exact h.base b (mem_blks.2 (Or.inr (Or.inr (Or.inr ⟨x, by simp [hx], hb'⟩))))
        · exact (ownsRow_lt hown hb').1
  · refine (Chg.grown hg (fun g e => mem_blks.2 (Or.inr (Or.inr (Or.inr ⟨v, by simp [hvm], e⟩))))).trans (Chg.setCell _ _ (mem_blks.2 (Or.inr (Or.inr (Or.inr ⟨uv, by simp, huo⟩)))))
  · intro b hb
    rcases mem_blks.1 hb with h1 | h1 | h1 | ⟨x, hx, hb'⟩
    · exact Or.inl (mem_blks.2 (Or.inl h1))
    · exact Or.inl (mem_blks.2 (Or.inr (Or.inl h1)))
    · exact Or.inl (mem_blks.2 (Or.inr (Or.inr (Or.inl h1))))
    · simp only [List.mem_cons] at hx
      rcases hx with rfl | rfl | hx
      · exact Or.inl (mem_blks.2 (Or.inr (Or.inr (Or.inr ⟨x, by simp, hb'⟩))))
      · exact Or.inl (mem_blks.2 (Or.inr (Or.inr (Or.inr ⟨x, by simp, hb'⟩))))
      · rcases List.mem_or_eq_of_mem_set hx with hx | rfl
        · exact Or.inl (mem_blks.2 (Or.inr (Or.inr (Or.inr ⟨x, by simp [hx], hb'⟩))))
        · rcases hfresh b hb' with e | rfl
          · exact Or.inl (mem_blks.2 (Or.inr (Or.inr (Or.inr ⟨v, by simp [hvm], e⟩))))
          · exact Or.inr (Nat.le_refl _)

/-- another map of nodes, of links -/
theorem St.setNodes (h : St w B s qn ql pl us pv uv vs mn ml) {o : Obj} {qn' : List (Value × Value)} (hm : IsMap (setObjW w mn o) mn qn') :
    St (setObjW w mn o) B s qn' ql pl us pv uv vs mn ml ∧ Chg (blks s mn ml pv uv vs) w (setObjW w mn o) := by
  obtain ⟨⟨n1, n2, n3⟩, n4, n5⟩ := nd_iff.1 h.nd
  have hv : ∀ v ∈ pv :: uv :: vs, ∀ g, v.ownBlock = some g → (setObjW w mn o).heap[g]? = w.heap[g]? := fun v hv g hg => setObjW_ne (n4 v hv g hg).2.1
  refine ⟨⟨(setObjW_ne n1).trans h.hd, ownsRow_keep h.prow (hv pv (by simp)), ownsRow_keep h.urow (hv uv (by simp)), ?_, hm, h.links.congr (setObjW_ne (Ne.symm n3)), h.nd, h.base⟩, Chg.setObj _ _ (mem_blks.2 (Or.inr (Or.inl rfl)))⟩
  intro i hi
  obtain ⟨v, h1, h2⟩ := h.rows i hi
  exact ⟨v, h1, ownsRow_keep h2 (hv v (by simp [List.mem_of_getElem? h1]))⟩
theorem St.setLinks (h : St w B s qn ql pl us pv uv vs mn ml) {o : Obj} {ql' : List (Value × Value)} (hm : IsMap (setObjW w ml o) ml ql') :
    St (setObjW w ml o) B s qn ql' pl us pv uv vs mn ml ∧ Chg (blks s mn ml pv uv vs) w (setObjW w ml o) := by
  obtain ⟨⟨n1, n2, n3⟩, n4, n5⟩ := nd_iff.1 h.nd
  have hv : ∀ v ∈ pv :: uv :: vs, ∀ g, v.ownBlock = some g → (setObjW w ml o).heap[g]? = w.heap[g]? := fun v hv g hg => setObjW_ne (n4 v hv g hg).2.2
  refine ⟨⟨(setObjW_ne n2).trans h.hd, ownsRow_keep h.prow (hv pv (by simp)), ownsRow_keep h.urow (hv uv (by simp)), ?_, h.nodes.congr (setObjW_ne n3), hm, h.nd, h.base⟩, Chg.setObj _ _ (mem_blks.2 (Or.inr (Or.inr (Or.inl rfl))))⟩
  intro i hi
  obtain ⟨v, h1, h2⟩ := h.rows i hi
  exact ⟨v, h1, ownsRow_keep h2 (hv v (by simp [List.mem_of_getElem? h1]))⟩
end
end Go.Proofs.Ytlnhganinomaaaa
