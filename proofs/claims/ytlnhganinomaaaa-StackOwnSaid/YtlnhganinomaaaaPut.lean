/-
  Contract of Put of package stack, of what may be put. No condition beyond those that each theorem states.
-/
import Derived.Test.YtlnhganinomaaaaSteps
import Derived.Deep.RegionLawGrows
namespace Go.Proofs.Ytlnhganinomaaaa
open Go.RowKit Go.Maps
set_option linter.unusedSimpArgs false
set_option linter.unusedVariables false

/-- an append whose run is known, as a step of a region that draws -/
theorem step_app {P : Program} {ops : Array Oper} {o : Oper} {a : Act} {w w' : World} {K : Act → World → Prop} {Q : Exit → Act → World → Prop} {E : Prop}
    (hg : o.guard = none) (s x : Operand) (t : TypeId) (hop : o.op = Op.call { callee := Callee.builtin Builtin.append, args := #[s, x], argTypes := #[t, t] })
    {v y v' : Value} (hs : a.eval s = v) (hx : a.eval x = y) (hrun : (Builtin.append_ #[t, t] o.type #[v, y]).run P w = .ok v' w') (hK : K (a.put o.dst v') w') :
    if Region.wanted o (yielded ops a.tmps) = true then Oper.wp P o a w K Q else E := by
  have hw : Region.wanted o (yielded ops a.tmps) = true := by simp [Region.wanted, hg]
  rw [if_pos hw]
  unfold Oper.wp
  simp [execOp, hop, resolve, invoke, builtin, hs, hx, hrun, Result.andThen]
  exact hK
/-- .. and in a row of operations -/
theorem wpList_app {P : Program} {ops : Array Oper} {rest : List Oper} {o : Oper} {a : Act} {w w' : World} {Q : Exit → Act → World → Prop}
    (hg : o.guard = none) (s x : Operand) (t : TypeId) (hop : o.op = Op.call { callee := Callee.builtin Builtin.append, args := #[s, x], argTypes := #[t, t] })
    {v y v' : Value} (hs : a.eval s = v) (hx : a.eval x = y) (hrun : (Builtin.append_ #[t, t] o.type #[v, y]).run P w = .ok v' w') (hK : wpList P ops Q rest (a.put o.dst v') w') :
    wpList P ops Q (o :: rest) a w := by
  refine wpList_plain hg fun K' hK' => ?_
  unfold Oper.wp
  simp [execOp, hop, resolve, invoke, builtin, hs, hx, hrun, Result.andThen]
  exact hK' _ _ hK

theorem nodes_not {N : Nat} {pl : List (Int × Int)} {us : List (List Int)} (hI : Inv N pl us) {a b : Int} (ha : 0 ≤ a ∧ i64ok a) (hn : (a, b) ∉ pl) : ∀ p ∈ nodesOf pl, p.1 ≠ .agg #[.int .i64 a, .int .i64 b] := by
  intro p hp e
  obtain ⟨i, hi, h0, rfl⟩ := mem_nodesOf.1 hp
  have := agg2_inj (show agg2 pl[i].1 pl[i].2 = agg2 a b from e)
  exact hn (by rw [← this.1, ← this.2]; exact List.getElem_mem hi)

theorem nodesFrom_append (j : Nat) (r : List (Int × Int)) (p : Int × Int) : nodesFrom j (r ++ [p]) = nodesFrom j r ++ [(agg2 p.1 p.2, .int .i64 ((j + r.length : Nat) : Int))] := by
  induction r generalizing j with
  | nil => rfl
  | cons q r ih =>
    simp only [List.cons_append, nodesFrom, ih, List.length_cons]
    rw [show j + 1 + r.length = j + (r.length + 1) from by omega]
theorem nodesOf_append {pl : List (Int × Int)} (h : 0 < pl.length) (p : Int × Int) : nodesOf (pl ++ [p]) = nodesOf pl ++ [(agg2 p.1 p.2, .int .i64 (pl.length : Int))] := by
  unfold nodesOf
  rw [List.drop_append_of_le_length h, nodesFrom_append, List.length_drop, show 1 + (pl.length - 1) = pl.length from by omega]

section
variable {w w' : World} {B s mn ml : Nat} {qn ql : List (Value × Value)} {pl : List (Int × Int)} {us : List (List Int)} {pv uv : Value} {vs : List Value}
theorem St.s_ne (h : St w B s qn ql pl us pv uv vs mn ml) : ∀ v ∈ pv :: uv :: vs, v.ownBlock ≠ some s := fun v hv e => ((nd_iff.1 h.nd).2.1 v hv s e).1 rfl
end

/-- a stack on the way: since w it has turned in its own blocks and in new ones; p is a new block of two numbers -/
structure Way (w W : World) (bs : List Nat) (p : Nat) (po : Obj) (B s : Nat) (qn ql : List (Value × Value)) (pl : List (Int × Int)) (us : List (List Int)) (pv uv : Value) (vs : List Value) (mn ml : Nat) : Prop where
  st : St W B s qn ql pl us pv uv vs mn ml
  chg : Chg bs w W
  new : ∀ b ∈ blks s mn ml pv uv vs, b ∈ bs ∨ (w.heap.size ≤ b ∧ b ≠ p)
  pb : W.heap[p]? = some po
  pn : p ∉ bs
  pw : w.heap.size ≤ p

section
variable {w W W' : World} {bs : List Nat} {p : Nat} {po : Obj} {B s mn ml : Nat} {qn ql : List (Value × Value)} {pl : List (Int × Int)} {us : List (List Int)} {pv uv : Value} {vs : List Value}

theorem Way.p_ne (h : Way w W bs p po B s qn ql pl us pv uv vs mn ml) : p ∉ blks s mn ml pv uv vs := fun hm => by
  rcases h.new p hm with h1 | h1
  · exact h.pn h1
  · exact h1.2 rfl

/-- a step that leaves a stack -/
theorem Way.step {qn' ql' : List (Value × Value)} {pl' : List (Int × Int)} {us' : List (List Int)} {pv' uv' : Value} {vs' : List Value} (h : Way w W bs p po B s qn ql pl us pv uv vs mn ml)
    (hst : St W' B s qn' ql' pl' us' pv' uv' vs' mn ml) (hch : Chg (blks s mn ml pv uv vs) W W') (hn : ∀ b ∈ blks s mn ml pv' uv' vs', b ∈ blks s mn ml pv uv vs ∨ W.heap.size ≤ b) :
    Way w W' bs p po B s qn' ql' pl' us' pv' uv' vs' mn ml := by
  have hpl : p < W.heap.size := blk_lt h.pb
  refine ⟨hst, ?_, ?_, (hch.block p hpl h.p_ne).trans h.pb, h.pn, h.pw⟩
  · refine ⟨hch.os.trans h.chg.os, hch.tape.trans h.chg.tape, hch.output.trans h.chg.output, Nat.le_trans h.chg.size hch.size, fun b hb hbs => ?_⟩
    refine (hch.block b (Nat.lt_of_lt_of_le hb h.chg.size) (fun hm => ?_)).trans (h.chg.block b hb hbs)
    rcases h.new b hm with h1 | h1
    · exact hbs h1
    · omega
  · intro b hb
    rcases hn b hb with h1 | h1
    · exact h.new b h1
    · have := h.chg.size
      exact Or.inr ⟨by omega, by omega⟩

theorem Way.quiet (h : Way w W bs p po B s qn ql pl us pv uv vs mn ml) (hb : Below W.heap.size W W') : Way w W' bs p po B s qn ql pl us pv uv vs mn ml :=
  h.step (h.st.below hb) ⟨hb.os, hb.tape, hb.output, hb.size, fun b hb' _ => hb.block b hb'⟩ (fun b hm => Or.inl hm)
end

/-- what the node of a place is: a new one, or one that is there -/
def NodeIs (f : Bool) (a b : Int) (pl : List (Int × Int)) (us : List (List Int)) (node : Nat) (pl1 : List (Int × Int)) (us1 : List (List Int)) : Prop :=
  (f = false ∧ (a, b) ∉ pl ∧ node = pl.length ∧ pl1 = pl ++ [(a, b)] ∧ us1 = us ++ [[]]) ∨ (f = true ∧ 0 < node ∧ node < pl.length ∧ pl[node]? = some (a, b) ∧ pl1 = pl ∧ us1 = us)

theorem NodeIs.inv {f : Bool} {a b up : Int} {N node : Nat} {pl pl1 : List (Int × Int)} {us us1 : List (List Int)} (h : NodeIs f a b pl us node pl1 us1) (hI : Inv N pl us) (ha : 0 ≤ a ∧ i64ok a) (hb : 0 ≤ b ∧ i64ok b) (hup : 0 ≤ up ∧ up < pl.length) :
    Inv (N + 1) pl1 us1 ∧ node < pl1.length ∧ (0 ≤ up ∧ up < pl1.length) := by
  rcases h with ⟨rfl, h1, rfl, rfl, rfl⟩ | ⟨rfl, h0, h1, h2, rfl, rfl⟩
  · refine ⟨⟨by simp [hI.len], ?_, ?_, ?_, ?_, ?_⟩, by simp, hup.1, by simp; omega⟩
    · obtain ⟨r, rfl, hr⟩ := hI.root
      refine ⟨r ++ [(a, b)], rfl, fun p hp => ?_⟩
      rcases List.mem_append.1 hp with hp | hp
      · exact hr p hp
      · simp at hp; subst hp; exact ⟨ha, hb⟩
    · rw [List.nodup_append]
      refine ⟨hI.nd, by simp, ?_⟩
      intro x hx y hy e
      simp at hy
      subst hy
      exact h1 (e ▸ hx)
    · intro l hl
      rcases List.mem_append.1 hl with hl | hl
      · obtain ⟨g1, g2⟩ := hI.ups l hl
        exact ⟨g1, fun u hu => ⟨(g2 u hu).1, by have := (g2 u hu).2; simp; omega⟩⟩
      · simp at hl; subst hl; simp
    · have := hI.size; simp; omega
    · intro l hl
      rcases List.mem_append.1 hl with hl | hl
      · have := hI.rsize l hl; omega
      · simp at hl; subst hl; simp
  · exact ⟨⟨hI.len, hI.root, hI.nd, hI.ups, by have := hI.size; omega, fun l hl => by have := hI.rsize l hl; omega⟩, h1, hup⟩

/-- what a put makes of places and rows -/
def PutIs (pl : List (Int × Int)) (us : List (List Int)) (a b up : Int) (node : Nat) (fresh link : Bool) (pl' : List (Int × Int)) (us' : List (List Int)) : Prop :=
  ∃ pl1 us1, NodeIs (!fresh) a b pl us node pl1 us1 ∧ pl' = pl1 ∧ ((link = false ∧ ∃ hn : node < us1.length, up ∈ us1[node] ∧ us' = us1) ∨ (link = true ∧ ∃ hn : node < us1.length, up ∉ us1[node] ∧ us' = us1.set node (us1[node] ++ [up])))
def PutPost (w : World) (B s N : Nat) (pl : List (Int × Int)) (us : List (List Int)) (bs : List Nat) (a b up : Int) (e : Ending) (w' : World) : Prop :=
  ∃ node fresh link pl' us' bs', e = .returned (.tuple #[.int .i64 (node : Nat), .bool fresh, .bool link, .int .i64 0]) ∧ PutIs pl us a b up node fresh link pl' us' ∧ Stk w' B s pl' us' bs' ∧ Chg bs w w' ∧ (∀ b ∈ bs', b ∈ bs ∨ w.heap.size ≤ b) ∧ Inv (N + 1) pl' us'

theorem mem_linksFrom {j : Nat} {us : List (List Int)} {x : Value × Value} : x ∈ linksFrom j us ↔ ∃ i, ∃ hi : i < us.length, ∃ u ∈ us[i], x = (agg2 ((j + i : Nat) : Int) u, .agg #[]) := by
  induction us generalizing j with
  | nil => simp [linksFrom]
  | cons l r ih =>
    rw [linksFrom, List.mem_append, ih]
    constructor
    · rintro (h | ⟨i, hi, u, hu, rfl⟩)
      · obtain ⟨u, hu, rfl⟩ := List.mem_map.1 h
        exact ⟨0, by simp, u, hu, rfl⟩
      · exact ⟨i + 1, by simpa using hi, u, by simpa using hu, by rw [show j + 1 + i = j + (i + 1) from by omega]⟩
    · rintro ⟨i, hi, u, hu, rfl⟩
      cases i with
      | zero => exact Or.inl (List.mem_map.2 ⟨u, by simpa using hu, rfl⟩)
      | succ i => exact Or.inr ⟨i, by simpa using hi, u, by simpa using hu, by rw [show j + 1 + i = j + (i + 1) from by omega]⟩
theorem mem_linksOf {us : List (List Int)} {x : Value × Value} : x ∈ linksOf us ↔ ∃ i, ∃ hi : i < us.length, ∃ u ∈ us[i], x = (agg2 (i : Int) u, .agg #[]) := by
  unfold linksOf
  rw [mem_linksFrom]
  simp

theorem links_ok {N : Nat} {pl : List (Int × Int)} {us : List (List Int)} {ql : List (Value × Value)} (hI : Inv N pl us) (hN : N ≤ 2000) (hq : ql.Perm (linksOf us)) : ∀ p ∈ ql, ∃ l, keyOf Try.prog 50 p.1 = some l := by
  intro p hp
  obtain ⟨i, hi, u, hu, rfl⟩ := mem_linksOf.1 (hq.mem_iff.1 hp)
  have h1 := (hI.ups _ (List.getElem_mem hi)).2 u hu
  have h2 := hI.size
  have h3 := hI.len
  exact key50 (by unfold i64ok; omega) (by unfold i64ok; omega)

theorem links_look {W2 : World} {ml N node : Nat} {pl1 : List (Int × Int)} {us1 : List (List Int)} {ql : List (Value × Value)} {up : Int} {kl : Lit} (hI : Inv N pl1 us1) (hN : N ≤ 2000) (hq : ql.Perm (linksOf us1)) (hm : IsMap W2 ml ql) (hn : node < us1.length)
    (hkl : keyOf Try.prog 50 (.agg #[.int .i64 node, .int .i64 up]) = some kl) :
    ∃ f2 : Bool, ((f2 = true ∧ up ∈ us1[node]) ∨ (f2 = false ∧ up ∉ us1[node] ∧ ∀ q ∈ ql, q.1 ≠ agg2 node up)) ∧ ∀ W : World, W.heap[ml]? = W2.heap[ml]? → (Instr.lookup 41 (.map (some ml)) (.agg #[.int .i64 node, .int .i64 up]) true).run Try.prog W = .ok (.tuple #[.agg #[], .bool f2]) W := by
  by_cases hu : up ∈ us1[node]
  · refine ⟨true, Or.inl ⟨rfl, hu⟩, fun W hW => ?_⟩
    rcases (hm.congr hW).look law50 Try.underlying41 (zero51 W) (links_ok hI hN hq) hkl with ⟨h1, h2⟩ | ⟨v, h1, h2⟩
    · exact absurd rfl (h2 (agg2 node up, .agg #[]) (hq.mem_iff.2 (mem_linksOf.2 ⟨node, hn, up, hu, rfl⟩)))
    · obtain ⟨i, hi, u, _, e⟩ := mem_linksOf.1 (hq.mem_iff.1 h2)
      simp only [Prod.mk.injEq] at e
      rw [e.2] at h1
      exact h1
  · have hno : ∀ q ∈ ql, q.1 ≠ agg2 node up := by
      intro q hqm e
      obtain ⟨i, hi, u, hu', rfl⟩ := mem_linksOf.1 (hq.mem_iff.1 hqm)
      have := agg2_inj e
      obtain rfl : i = node := by omega
      exact hu (this.2 ▸ hu')
    refine ⟨false, Or.inr ⟨rfl, hu, hno⟩, fun W hW => ?_⟩
    rcases (hm.congr hW).look law50 Try.underlying41 (zero51 W) (links_ok hI hN hq) hkl with ⟨h1, h2⟩ | ⟨v, h1, h2⟩
    · exact h1
    · exact absurd rfl (hno _ h2)

theorem linksFrom_append (j : Nat) (a b : List (List Int)) : linksFrom j (a ++ b) = linksFrom j a ++ linksFrom (j + a.length) b := by
  induction a generalizing j with
  | nil => rfl
  | cons l r ih =>
    simp only [List.cons_append, linksFrom, ih, List.length_cons, List.append_assoc]
    rw [show j + 1 + r.length = j + (r.length + 1) from by omega]
theorem links_nil (us : List (List Int)) : linksOf (us ++ [[]]) = linksOf us := by
  unfold linksOf
  rw [linksFrom_append]
  simp [linksFrom]
theorem NodeIs.links {f : Bool} {a b : Int} {node : Nat} {pl pl1 : List (Int × Int)} {us us1 : List (List Int)} {ql : List (Value × Value)} (h : NodeIs f a b pl us node pl1 us1) (hq : ql.Perm (linksOf us)) : ql.Perm (linksOf us1) := by
  rcases h with ⟨rfl, h1, rfl, rfl, rfl⟩ | ⟨rfl, h0, h1, h2, rfl, rfl⟩
  · rw [links_nil]; exact hq
  · exact hq
theorem links_set (A C : List (List Int)) (l : List Int) (up : Int) : (linksOf (A ++ l :: C) ++ [(agg2 A.length up, Value.agg #[])]).Perm (linksOf (A ++ (l ++ [up]) :: C)) := by
  unfold linksOf
  rw [linksFrom_append, linksFrom_append]
  simp only [linksFrom, List.map_append, List.map_cons, List.map_nil, List.append_assoc, Nat.zero_add]
  refine List.Perm.append_left _ (List.Perm.append_left _ ?_)
  exact List.perm_append_comm
theorem links_set' {us : List (List Int)} {node : Nat} (hn : node < us.length) (up : Int) : (linksOf us ++ [(agg2 node up, Value.agg #[])]).Perm (linksOf (us.set node (us[node] ++ [up]))) := by
  have e1 : us = us.take node ++ us[node] :: us.drop (node + 1) := by rw [List.getElem_cons_drop, List.take_append_drop]
  have e2 : us.set node (us[node] ++ [up]) = us.take node ++ (us[node] ++ [up]) :: us.drop (node + 1) := by rw [List.set_eq_take_append_cons_drop, if_pos hn]
  have := links_set (us.take node) (us.drop (node + 1)) us[node] up
  rw [← e1, ← e2, List.length_take, Nat.min_eq_left (by omega)] at this
  exact this

theorem NodeIs.rows {f : Bool} {a b : Int} {N node : Nat} {pl pl1 : List (Int × Int)} {us us1 : List (List Int)} (h : NodeIs f a b pl us node pl1 us1) (hI : Inv N pl us) : ∀ l ∈ us1, l.length ≤ N := by
  rcases h with ⟨rfl, h1, rfl, rfl, rfl⟩ | ⟨rfl, h0, h1, h2, rfl, rfl⟩
  · intro l hl
    rcases List.mem_append.1 hl with hl | hl
    · exact hI.rsize l hl
    · simp at hl; subst hl; simp
  · exact hI.rsize

theorem Inv.set {N node : Nat} {pl : List (Int × Int)} {us : List (List Int)} {up : Int} (h : Inv (N + 1) pl us) (hr : ∀ l ∈ us, l.length ≤ N) (hn : node < us.length) (hup : 0 ≤ up ∧ up < pl.length) (hin : up ∉ us[node]) : Inv (N + 1) pl (us.set node (us[node] ++ [up])) := by
  have hm := List.getElem_mem hn
  refine ⟨by simpa using h.len, h.root, h.nd, ?_, h.size, ?_⟩
  · intro l hl
    rcases List.mem_or_eq_of_mem_set hl with hl | rfl
    · exact h.ups l hl
    · obtain ⟨g1, g2⟩ := h.ups _ hm
      refine ⟨?_, ?_⟩
      · rw [List.nodup_append]
        refine ⟨g1, by simp, ?_⟩
        intro x hx y hy e
        simp at hy
        subst hy
        exact hin (e ▸ hx)
      · intro u hu
        rcases List.mem_append.1 hu with hu | hu
        · exact g2 u hu
        · simp at hu; subst hu; exact hup
  · intro l hl
    rcases List.mem_or_eq_of_mem_set hl with hl | rfl
    · exact h.rsize l hl
    · have := hr _ hm; simp; omega

set_option maxRecDepth 100000 in
set_option maxHeartbeats 1000000 in
theorem put_ok {w : World} {B s mn ml N : Nat} {ql : List (Value × Value)} {pl : List (Int × Int)} {us : List (List Int)} {pv uv : Value} {vs : List Value} (h : St w B s (nodesOf pl) ql pl us pv uv vs mn ml) (hI : Inv N pl us) (hN : N ≤ 1000) (hql : ql.Perm (linksOf us)) (hB : B ≤ w.heap.size)
    (ret at_ up : Int) (hret : 0 ≤ ret) (hret2 : i64ok ret) (hat : 0 ≤ at_) (hat2 : i64ok at_) (hup : 0 ≤ up ∧ up < pl.length) :
    Calls Try.prog 6 #[.pointer (some ⟨s, 0, none⟩), .int .i64 ret, .int .i64 at_, .int .i64 up] w fun e w' => PutPost w B s N pl us (blks s mn ml pv uv vs) ret at_ up e w' := by
  have hps := hI.size
  have hl := long_st h
  have hh := has_st h (by omega) up
  rw [show decide (0 ≤ up ∧ up < pl.length) = true from by simp; omega] at hh
  have hpos := hI.pos
  have hpos' : ((pl.length : Int) == 0) = false := by rw [beq_eq_false_iff_ne]; omega
  have hlt := h.lt
  go_enter Try.func6, Try.ntmps6
  go_wp2_with (first | (go_at_call 8; refine hl.mono ?_; rintro e w' ⟨rfl, rfl⟩) | (go_at_call 16; refine hh.mono ?_; rintro e w' ⟨rfl, rfl⟩))
  clear hl hh
  have hway : Way w (w.alloc (.cells #[.int .i64 ret, .int .i64 at_] 46)) (blks s mn ml pv uv vs) w.heap.size (.cells #[.int .i64 ret, .int .i64 at_] 46 (0, 0)) B s (nodesOf pl) ql pl us pv uv vs mn ml :=
    ⟨h.below ((Below.refl _ _).alloc (Nat.le_refl _) _), Chg.alloc _ _, fun b hb => Or.inl hb, blk_new _ _, fun hm => by have := hlt _ hm; omega, Nat.le_refl _⟩
  generalize hp : w.heap.size = p at hway ⊢
  have Hp := (show Hid _ from hp)
  clear hp
  generalize w.alloc (.cells #[.int .i64 ret, .int .i64 at_] 46) = W1 at hway ⊢
  -- the look-up
  obtain ⟨f, fi, hlk, hf⟩ : ∃ (f : Bool) (fi : Nat), (Instr.lookup 40 (.map (some mn)) (.agg #[.int .i64 ret, .int .i64 at_]) true).run Try.prog W1.drew = .ok (.tuple #[.int .i64 fi, .bool f]) W1.drew ∧
      ((f = false ∧ (ret, at_) ∉ pl) ∨ (f = true ∧ 0 < fi ∧ fi < pl.length ∧ pl[fi]? = some (ret, at_))) := by
    rcases look_st (hway.st.eqv (w' := W1.drew) ⟨rfl, rfl, rfl, rfl⟩) hI ⟨hret, hret2⟩ hat2 with ⟨h1, h2⟩ | ⟨i, hi, h0, e, h2⟩
    · exact ⟨false, 0, h2, Or.inl ⟨rfl, h1⟩⟩
    · exact ⟨true, i, h2, Or.inr ⟨rfl, h0, hi, by rw [List.getElem?_eq_getElem hi, e]⟩⟩
  have Hf := (show Hid _ from hf)
  clear hf
  have c2 : W1.cell? ⟨s, 2, none⟩ = some (.map (some mn)) := blk_cell hway.st.hd rfl
  have p0 : W1.cell? ⟨p, 0, none⟩ = some (.int .i64 ret) := blk_cell hway.pb rfl
  have p1 : W1.cell? ⟨p, 1, none⟩ = some (.int .i64 at_) := blk_cell hway.pb rfl
  go_region
  clear hlk c2 p0 p1
  have hway := hway.quiet (W' := W1.drew) ((Below.refl _ _).drew)
  generalize W1.drew = W2 at hway ⊢
  have Hps := (show Hid _ from And.intro hps hpos)
  clear hps hpos
  go_upto_if 46 with fail
  go_cut [13] (fun s13 wc => ∃ (node : Nat) (pl1 : List (Int × Int)) (us1 : List (List Int)) (pv1 uv1 : Value) (vs1 : List Value), s13 = .int .i64 node ∧
    NodeIs f ret at_ pl us node pl1 us1 ∧
    Way w wc (blks s mn ml pv uv vs) p (.cells #[.int .i64 ret, .int .i64 at_] 46 (0, 0)) B s (nodesOf pl1) ql pl1 us1 pv1 uv1 vs1 mn ml)
  case first =>
    cases f with
    | true =>
      obtain ⟨_, g0, g1, g2⟩ : True ∧ 0 < fi ∧ fi < pl.length ∧ pl[fi]? = some (ret, at_) := by
        rcases Hf.out with ⟨e, _⟩ | ⟨_, h⟩
        · cases e
        · exact ⟨trivial, h⟩
      clear Hf
      go_wp2
      go_meet
      case rel => exact ⟨fi, pl, us, pv, uv, vs, rfl, Or.inr ⟨rfl, g0, g1, g2, rfl, rfl⟩, hway⟩
    | false =>
      have hnew : (ret, at_) ∉ pl := by
        rcases Hf.out with ⟨_, h⟩ | ⟨e, _⟩
        · exact h
        · cases e
      clear Hf
      obtain ⟨ap, capp, hpv⟩ := ownsRow_shape hway.st.prow
      have c0 : W2.cell? ⟨s, 0, none⟩ = some (.slice ap pl.length capp) := by rw [← hpv]; exact blk_cell hway.st.hd rfl
      have hbig : ¬ ((1048576 : Int) ≤ (pl.length : Int)) := by have := Hps.out.1; omega
      go_wp2_with fail
      clear hbig
      -- the node is stored
      obtain ⟨kl, hkl⟩ := key46 hret2 hat2
      have hway2 := hway.quiet (W' := W2.drew) ((Below.refl _ _).drew)
      obtain ⟨o, hupd, hmap⟩ := hway2.st.nodes.store_new law46 Try.underlying40 hI.nodes_ok (.int .i64 pl.length) hkl (nodes_not hI ⟨hret, hret2⟩ hnew)
      obtain ⟨h3, hch3⟩ := hway2.st.setNodes hmap
      have hway3 := hway2.step h3 hch3 (fun b hb => Or.inl hb)
      have c2 : W2.cell? ⟨s, 2, none⟩ = some (.map (some mn)) := blk_cell hway.st.hd rfl
      have p0 : W2.cell? ⟨p, 0, none⟩ = some (.int .i64 ret) := blk_cell hway.pb rfl
      have p1 : W2.cell? ⟨p, 1, none⟩ = some (.int .i64 at_) := blk_cell hway.pb rfl
      clear hmap h3 hch3
      go_region
      clear hupd c0 c2 p0 p1 hway2 hway
      generalize setObjW W2.drew mn o = W3 at hway3 ⊢
      go_wp2_with fail
      -- the places
      have hway4 : Way w (W3.drew.alloc (.cells #[.int .i64 ret, .int .i64 at_] 46)) _ p _ B s _ ql pl us pv uv vs mn ml := hway3.quiet ((Below.refl _ _).drew.alloc (Nat.le_refl _) _)
      obtain ⟨i0, hi46, hz0, hz1, hz2⟩ := info_parts info46
      have hB4 : B ≤ (W3.drew.alloc (.cells #[.int .i64 ret, .int .i64 at_] 46)).heap.size := Nat.le_trans hB hway4.chg.size
      obtain ⟨pv2, W5, hrun5, hown5, hgrow5, _, hloc5⟩ := run_append_own_at (P := Try.prog) (W3.drew.alloc (.cells #[.int .i64 ret, .int .i64 at_] 46)) B 38 38 46 i0 (.agg #[.int .i64 0, .int .i64 0]) 2 16 Try.underlying38 hi46 hz0 hz1 hz2 rfl (by decide) pv pl.length (pl.flatMap pcell) hway4.st.prow ⟨W3.heap.size, 0, none⟩ 1 1 [.int .i64 ret, .int .i64 at_] rfl
        (by intro j u hj; match j, hj with | 0, hj => simp at hj; subst hj; exact blk_cell (blk_new _ _) rfl | 1, hj => simp at hj; subst hj; exact blk_cell (blk_new _ _) rfl) (by intro u hu; simp at hu; rcases hu with rfl | rfl <;> rfl) (by unfold maxLen; have := Hps.out.1; omega) (by have := Hps.out.1; omega) hB4
      have hpl' : (pl ++ [(ret, at_)]).length = pl.length + 1 := by simp
      obtain ⟨h6, hch6, hbl6⟩ := hway4.st.places (pl' := pl ++ [(ret, at_)]) hgrow5 (by rw [hpl']; simpa [pcell] using hown5) hloc5 hB4
      have hway6 := hway4.step h6 hch6 hbl6
      have hs5 := (hgrow5.block s (hway4.st.lt s (mem_blks.2 (Or.inl rfl))) (Ne.symm (hway4.st.s_ne pv (by simp)))).trans hway4.st.hd
      obtain ⟨ap2, capp2, hpv2⟩ := ownsRow_shape hown5
      subst hpv2
      have c0 : W3.cell? ⟨s, 0, none⟩ = some (.slice ap pl.length capp) := by rw [← hpv]; exact blk_cell hway3.st.hd rfl
      have ca0 : ∀ o, (W3.alloc o).cell? ⟨s, 0, none⟩ = some (.slice ap pl.length capp) := fun o => (World.cell?_alloc_past _ _ _ (blk_lt hway3.st.hd)).trans c0
      have q0 : W3.cell? ⟨p, 0, none⟩ = some (.int .i64 ret) := blk_cell hway3.pb rfl
      have q1 : W3.cell? ⟨p, 1, none⟩ = some (.int .i64 at_) := blk_cell hway3.pb rfl
      have d0 : W5.cell? ⟨s, 0, none⟩ = some pv := blk_cell hs5 rfl
      have e0 : W5.frozen? ⟨s, 0, none⟩ = false := blk_free hs5
      rw [hpv] at hrun5 d0
      clear hs5 h6 hch6 hbl6 hown5 hgrow5 hloc5 hway4 hway3
      go_cut [13] (fun s13 wc => s13 = .int .i64 pl.length ∧ Way w wc (blks s mn ml pv uv vs) p (.cells #[.int .i64 ret, .int .i64 at_] 46 (0, 0)) B s (nodesOf pl ++ [(.agg #[.int .i64 ret, .int .i64 at_], .int .i64 pl.length)]) ql (pl ++ [(ret, at_)]) us (.slice ap2 (pl.length + 1) capp2) uv vs mn ml)
      case first =>
        go_region_law (refine step_app rfl (.tmp 64) (.tmp 66) 38 rfl (by simp [Act.eval, Act.put]) (by simp [Act.eval, Act.put]) hrun5 ?_)
        all_goals
          go_wp2_with fail
          go_meet
          case rel => exact ⟨rfl, hway6⟩
      case rest =>
      obtain ⟨rfl, hway6⟩ := hcut
      clear hrun5 d0 e0 c0 q0 q1 ca0
      obtain ⟨W6, rfl⟩ : ∃ W6 : World, W6 = wc := ⟨_, rfl⟩
      -- the rows
      obtain ⟨au, capu, huv⟩ := ownsRow_shape hway6.st.urow
      have c1 : W6.cell? ⟨s, 1, none⟩ = some (.slice au us.length capu) := by rw [← huv]; exact blk_cell hway6.st.hd rfl
      have hway7 : Way w (W6.alloc (.cells #[.slice none 0 0] 32)) _ p _ B s _ ql _ us _ uv vs mn ml := hway6.quiet ((Below.refl _ _).alloc (Nat.le_refl _) _)
      obtain ⟨j0, hj32, hy0, hy1, hy2⟩ := info_parts info32
      have hB7 : B ≤ (W6.alloc (.cells #[.slice none 0 0] 32)).heap.size := Nat.le_trans hB hway7.chg.size
      obtain ⟨uv2, W8, hrun8, hown8, hgrow8, _, hloc8⟩ := run_append_own_at (P := Try.prog) (W6.alloc (.cells #[.slice none 0 0] 32)) B 39 39 32 j0 (.slice none 0 0) 1 24 Try.underlying39 hj32 hy0 hy1 hy2 rfl (by decide) uv us.length vs hway7.st.urow ⟨W6.heap.size, 0, none⟩ 1 1 [.slice none 0 0] rfl
        (by intro j u hj; match j, hj with | 0, hj => simp at hj; subst hj; exact blk_cell (blk_new _ _) rfl) (by intro u hu; simp at hu; subst hu; rfl) (by unfold maxLen; have := Hps.out.1; have := hI.len; omega) (by have := Hps.out.1; have := hI.len; omega) hB7
      obtain ⟨h9, hch9, hbl9⟩ := hway7.st.ups hgrow8 hown8 hloc8 hB7
      have hway9 := hway7.step h9 hch9 hbl9
      have hs8 := (hgrow8.block s (hway7.st.lt s (mem_blks.2 (Or.inl rfl))) (Ne.symm (hway7.st.s_ne uv (by simp)))).trans hway7.st.hd
      obtain ⟨au2, capu2, huv2⟩ := ownsRow_shape hown8
      subst huv2
      have d1 : W8.cell? ⟨s, 1, none⟩ = some uv := blk_cell hs8 rfl
      have e1 : W8.frozen? ⟨s, 1, none⟩ = false := blk_free hs8
      rw [huv] at hrun8 d1
      clear hs8 h9 hch9 hbl9 hown8 hgrow8 hloc8 hway7 hway6
      go_wp2_with (at_builtin; refine wpList_app rfl (.tmp 74) (.tmp 75) 39 rfl (by simp [Act.eval, Act.put]) (by simp [Act.eval, Act.put]) hrun8 ?_)
      go_meet
      case rel => exact ⟨pl.length, pl ++ [(ret, at_)], us ++ [[]], _, _, _, rfl, Or.inl ⟨rfl, hnew, rfl, rfl, rfl⟩, by rw [nodesOf_append Hps.out.2]; exact hway9⟩
  case rest =>
    obtain ⟨node, pl1, us1, pv1, uv1, vs1, rfl, hnode, hway1⟩ := hcut
    clear hway
    obtain ⟨hI1, hn1, hup1⟩ := hnode.inv hI ⟨hret, hret2⟩ ⟨hat, hat2⟩ hup
    have hn1' : node < us1.length := by rw [hI1.len]; exact hn1
    have hsz1 := hI1.size
    have hnode_ok : i64ok node := by unfold i64ok; omega
    have hup_ok : i64ok up := by unfold i64ok; omega
    go_upto_region 15 with fail
    have hway2 : Way w (wc.alloc (.cells #[.int .i64 node, .int .i64 up] 50)) (blks s mn ml pv uv vs) p (.cells #[.int .i64 ret, .int .i64 at_] 46 (0, 0)) B s (nodesOf pl1) ql pl1 us1 pv1 uv1 vs1 mn ml := hway1.quiet ((Below.refl _ _).alloc (Nat.le_refl _) _)
    have lb2 : (wc.alloc (.cells #[.int .i64 node, .int .i64 up] 50)).heap[wc.heap.size]? = some (.cells #[.int .i64 node, .int .i64 up] 50 (0, 0)) := blk_new _ _
    have lbn : wc.heap.size ∉ blks s mn ml pv1 uv1 vs1 := fun hm => by have := hway1.st.lt _ hm; omega
    generalize hl : wc.heap.size = l at lb2 lbn ⊢
    clear hl
    generalize wc.alloc (.cells #[.int .i64 node, .int .i64 up] 50) = W2 at hway2 lb2 ⊢
    clear hway1
    -- is the link there?
    obtain ⟨kl2, hkl2⟩ := key50 hnode_ok hup_ok
    obtain ⟨f2, hf2, hlk⟩ : ∃ f2 : Bool, ((f2 = true ∧ up ∈ us1[node]) ∨ (f2 = false ∧ up ∉ us1[node] ∧ ∀ q ∈ ql, q.1 ≠ agg2 node up)) ∧ ∀ W : World, W.heap[ml]? = W2.heap[ml]? → (Instr.lookup 41 (.map (some ml)) (.agg #[.int .i64 node, .int .i64 up]) true).run Try.prog W = .ok (.tuple #[.agg #[], .bool f2]) W :=
      links_look hI1 (by omega) (hnode.links hql) hway2.st.links hn1' hkl2
    have hlk1 := hlk W2.drew rfl
    have hlk2 : ∀ o, (Instr.lookup 41 (.map (some ml)) (.agg #[.int .i64 node, .int .i64 up]) true).run Try.prog (W2.alloc o).drew = .ok (.tuple #[.agg #[], .bool f2]) (W2.alloc o).drew := fun o => hlk _ (blk_old hway2.st.links.lt)
    have Hf2 := (show Hid _ from hf2)
    clear hlk hf2
    have c3 : W2.cell? ⟨s, 3, none⟩ = some (.map (some ml)) := blk_cell hway2.st.hd rfl
    have c3' : ∀ o, (W2.alloc o).cell? ⟨s, 3, none⟩ = some (.map (some ml)) := fun o => (World.cell?_alloc_past _ _ _ (blk_lt hway2.st.hd)).trans c3
    have l0 : W2.cell? ⟨l, 0, none⟩ = some (.int .i64 node) := blk_cell lb2 rfl
    have l1 : W2.cell? ⟨l, 1, none⟩ = some (.int .i64 up) := blk_cell lb2 rfl
    have l0' : ∀ o, (W2.alloc o).cell? ⟨l, 0, none⟩ = some (.int .i64 node) := fun o => (World.cell?_alloc_past _ _ _ (blk_lt lb2)).trans l0
    have l1' : ∀ o, (W2.alloc o).cell? ⟨l, 1, none⟩ = some (.int .i64 up) := fun o => (World.cell?_alloc_past _ _ _ (blk_lt lb2)).trans l1
    have hway3 : ∀ o, Way w (W2.alloc o).drew (blks s mn ml pv uv vs) p (.cells #[.int .i64 ret, .int .i64 at_] 46 (0, 0)) B s (nodesOf pl1) ql pl1 us1 pv1 uv1 vs1 mn ml := fun o => hway2.quiet (((Below.refl _ _).alloc (Nat.le_refl _) _).drew)
    have lb3 : ∀ o, (W2.alloc o).drew.heap[l]? = some (.cells #[.int .i64 node, .int .i64 up] 50 (0, 0)) := fun o => (blk_old (blk_lt lb2)).trans lb2
    have HW := (show Hid _ from And.intro hway3 lb3)
    clear hway3 lb3
    go_cut [17] (fun s17 wc => s17 = .bool f2 ∧ Way w wc (blks s mn ml pv uv vs) p (.cells #[.int .i64 ret, .int .i64 at_] 46 (0, 0)) B s (nodesOf pl1) ql pl1 us1 pv1 uv1 vs1 mn ml ∧ wc.heap[l]? = some (.cells #[.int .i64 node, .int .i64 up] 50 (0, 0)))
    case first =>
      go_region
      all_goals
        go_wp2_with fail
        go_meet
        case rel => exact ⟨rfl, HW.out.1 _, HW.out.2 _⟩
    case rest =>
      obtain ⟨rfl, hway4, lb4⟩ := hcut
      clear hlk1 hlk2 c3 c3' l0 l1 l0' l1' HW hway2 lb2
      have hql1 := hnode.links hql
      cases f2 with
      | true =>
        have hin : up ∈ us1[node] := by
          rcases Hf2.out with ⟨_, h⟩ | ⟨e, _⟩
          · exact h
          · cases e
        clear Hf2
        go_wp2
        refine bodyPost_ret (v := .tuple #[.int .i64 node, .bool (!f), .bool false, .int .i64 0]) (by simp [results, Try.results6, go_sem]) rfl ?_
        exact ⟨node, !f, false, pl1, us1, _, rfl, ⟨pl1, us1, by rw [Bool.not_not]; exact hnode, rfl, Or.inl ⟨rfl, hn1', hin, rfl⟩⟩, ⟨ql, pv1, uv1, vs1, mn, ml, hway4.st, hql1, rfl⟩, hway4.chg, fun b hb => (hway4.new b hb).imp id (fun h => h.1), hI1⟩
      | false =>
        obtain ⟨hnin, hnq⟩ : up ∉ us1[node] ∧ ∀ q ∈ ql, q.1 ≠ agg2 node up := by
          rcases Hf2.out with ⟨e, _⟩ | ⟨_, h⟩
          · cases e
          · exact h
        clear Hf2
        have hway5 := hway4.quiet (W' := wc.drew) ((Below.refl _ _).drew)
        obtain ⟨o, hupd, hmap⟩ := hway5.st.links.store_new law50 Try.underlying41 (links_ok hI1 (by omega) hql1) (.agg #[]) hkl2 hnq
        obtain ⟨h6, hch6⟩ := hway5.st.setLinks hmap
        have hway6 := hway5.step h6 hch6 (fun b hb => Or.inl hb)
        have c3 : wc.cell? ⟨s, 3, none⟩ = some (.map (some ml)) := blk_cell hway4.st.hd rfl
        have l0 : wc.cell? ⟨l, 0, none⟩ = some (.int .i64 node) := blk_cell lb4 rfl
        have l1 : wc.cell? ⟨l, 1, none⟩ = some (.int .i64 up) := blk_cell lb4 rfl
        clear hmap h6 hch6 hway5 lb4
        go_wp2_with fail
        go_cut [13] (fun s13 wx => s13 = .int .i64 node ∧ ∃ o, Way w wx (blks s mn ml pv uv vs) p (.cells #[.int .i64 ret, .int .i64 at_] 46 (0, 0)) B s (nodesOf pl1) (ql ++ [(agg2 node up, .agg #[])]) pl1 us1 pv1 uv1 vs1 mn ml)
        case first =>
          go_region
          all_goals
            go_wp2_with fail
            go_meet
            case rel => exact ⟨rfl, o, hway6⟩
        case rest =>
          obtain ⟨rfl, o', hway7⟩ := hcut
          clear hupd c3 l0 l1 hway6 hway4
          obtain ⟨W7, rfl⟩ : ∃ W : World, W = wc := ⟨_, rfl⟩
          obtain ⟨v, hv, hvown⟩ := hway7.st.rows node hn1'
          obtain ⟨gu, capu, rfl, hgc, hgf⟩ := ownsRow_cell hway7.st.urow (by omega)
          have hlt7 : (node : Int) < us1.length := by omega
          have hlen7 := hI1.rsize us1[node] (List.getElem_mem _)
          have hway8 : Way w (W7.drew.alloc (.cells #[.int .i64 up] 3)) _ p _ B s _ _ pl1 us1 pv1 _ vs1 mn ml := hway7.quiet ((Below.refl _ _).drew.alloc (Nat.le_refl _) _)
          obtain ⟨v8, hv8, hvown8⟩ := hway8.st.rows node hn1'
          obtain rfl : v8 = v := by rw [hv] at hv8; exact (Option.some.inj hv8).symm
          obtain ⟨i0, hi3, hz0, hz1, hz2⟩ := info_parts info3
          have hB8 : B ≤ (W7.drew.alloc (.cells #[.int .i64 up] 3)).heap.size := Nat.le_trans hB hway8.chg.size
          obtain ⟨v2, W9, hrun9, hown9, hgrow9, _, hloc9⟩ := run_append_own_at (P := Try.prog) (W7.drew.alloc (.cells #[.int .i64 up] 3)) B 32 32 3 i0 (.int .i64 0) 1 8 Try.underlying32 hi3 hz0 hz1 hz2 rfl (by decide) v8 us1[node].length (us1[node].map (Value.int .i64)) hvown8 ⟨W7.heap.size, 0, none⟩ 1 1 [.int .i64 up] rfl
            (by intro j u hj; match j, hj with | 0, hj => simp at hj; subst hj; exact blk_cell (blk_new _ _) rfl) (by intro u hu; simp at hu; subst hu; rfl) (by unfold maxLen; omega) (by omega) hB8
          obtain ⟨h10, hch10, hbl10⟩ := hway8.st.row hn1' rfl hv (l' := us1[node] ++ [up]) hgrow9 (by simpa using hown9) hloc9 hB8
          have hway10 := hway8.step h10 hch10 hbl10
          have hvm : v8 ∈ vs1 := List.mem_of_getElem? hv
          have hne : v8.ownBlock ≠ some gu := by
            have := (nd_iff.1 hway8.st.nd).2.2
            exact fun e => (List.pairwise_cons.1 (List.pairwise_cons.1 this).2).1 v8 hvm gu rfl e
          have hgult : gu < (W7.drew.alloc (.cells #[.int .i64 up] 3)).heap.size := (ownsRow_lt hway8.st.urow rfl).2
          have hg9 := hgrow9.block gu hgult (Ne.symm hne)
          have hs9 := hgrow9.block s (hway8.st.lt s (mem_blks.2 (Or.inl rfl))) (Ne.symm (hway8.st.s_ne v8 (by simp [hvm])))
          obtain ⟨_, _, eqv, hgc8, hgf8⟩ := ownsRow_cell hway8.st.urow (by omega)
          simp only [Value.slice.injEq, Option.some.injEq, Addr.mk.injEq, and_true, true_and] at eqv
          obtain ⟨rfl, rfl⟩ := eqv
          have d9 : W9.cell? ⟨gu, node, none⟩ = some v8 := (World.cell?_of_block hg9).trans ((hgc8 node (by omega)).trans hv)
          have e9 : W9.frozen? ⟨gu, node, none⟩ = false := (World.frozen?_of_block hg9).trans (hgf8 node)
          obtain ⟨av, capv, hav⟩ := ownsRow_shape hvown
          obtain ⟨av2, capv2, hav2⟩ := ownsRow_shape hown9
          subst hav2
          have c1 : W7.cell? ⟨s, 1, none⟩ = some (.slice (some ⟨gu, 0, none⟩) us1.length capu) := blk_cell hway7.st.hd rfl
          have c1' : ∀ o, (W7.alloc o).cell? ⟨s, 1, none⟩ = some (.slice (some ⟨gu, 0, none⟩) us1.length capu) := fun o => (World.cell?_alloc_past _ _ _ (blk_lt hway7.st.hd)).trans c1
          have cg : W7.cell? ⟨gu, node, none⟩ = some v8 := (hgc node (by omega)).trans hv
          have hgult7 : gu < W7.heap.size := (ownsRow_lt hway7.st.urow rfl).2
          have cg' : ∀ o, (W7.alloc o).cell? ⟨gu, node, none⟩ = some v8 := fun o => (World.cell?_alloc_past _ _ _ hgult7).trans cg
          have c19 : W9.cell? ⟨s, 1, none⟩ = some (.slice (some ⟨gu, 0, none⟩) us1.length capu) := (World.cell?_of_block hs9).trans (blk_cell hway8.st.hd rfl)
          clear hs9
          rw [hav] at hrun9 d9 cg cg'
          have hfin := links_set' hn1' up
          have Hres := (show Hid _ from And.intro hway10 (And.intro hfin hnin))
          clear hway10 h10 hch10 hbl10 hfin hown9 hgrow9 hloc9 hway8 hgc hgf hgc8 hgf8 hg9 hvown8 hvown hv hv8 hway7
          go_wp2_with fail
          go_cut [13] (fun s13 wx => s13 = .int .i64 node ∧ Way w wx (blks s mn ml pv uv vs) p (.cells #[.int .i64 ret, .int .i64 at_] 46 (0, 0)) B s (nodesOf pl1) (ql ++ [(agg2 node up, .agg #[])]) pl1 (us1.set node (us1[node] ++ [up])) pv1 (.slice (some ⟨gu, 0, none⟩) us1.length capu) (vs1.set node (.slice av2 (us1[node].length + 1) capv2)) mn ml)
          case first =>
            go_region_law (refine step_app rfl (.tmp 112) (.tmp 114) 32 rfl (by simp [Act.eval, Act.put]) (by simp [Act.eval, Act.put]) hrun9 ?_)
            all_goals
              go_wp2_with fail
              go_meet
              case rel => exact ⟨rfl, Hres.out.1⟩
          case rest =>
            obtain ⟨rfl, hway11⟩ := hcut
            clear hrun9 d9 e9 c1 c1' cg cg' c19
            go_wp2
            refine bodyPost_ret (v := .tuple #[.int .i64 node, .bool (!f), .bool true, .int .i64 0]) (by simp [results, Try.results6, go_sem]) rfl ?_
            refine ⟨node, !f, true, pl1, _, _, rfl, ⟨pl1, us1, by rw [Bool.not_not]; exact hnode, rfl, Or.inr ⟨rfl, hn1', hnin, rfl⟩⟩, ⟨_, _, _, _, mn, ml, hway11.st, ?_, rfl⟩, hway11.chg, fun b hb => (hway11.new b hb).imp id (fun h => h.1), ?_⟩
            · exact (hql1.append_right _).trans Hres.out.2.1
            · exact hI1.set (hnode.rows hI) hn1' hup1 hnin
end Go.Proofs.Ytlnhganinomaaaa
