/-
  Steps of a region in which two rows grow. No condition beyond those that each theorem states.
-/
import Derived.Test.YtccccbkllplojaaDoorRows3
namespace Go.Proofs.YtccccbkllplojaaDoor
open Go.RowKit Go.Maps
set_option linter.unusedSimpArgs false
set_option linter.unusedVariables false

theorem step_app {P : Program} {ops : Array Oper} {o : Oper} {a : Act} {w w' : World} {K : Act → World → Prop} {Q : Exit → Act → World → Prop} {E : Prop}
    (hg : o.guard = none) (s x : Operand) (t : TypeId) (hop : o.op = Op.call { callee := Callee.builtin Builtin.append, args := #[s, x], argTypes := #[t, t] })
    {v y v' : Value} (hs : a.eval s = v) (hx : a.eval x = y) (hrun : (Builtin.append_ #[t, t] o.type #[v, y]).run P w = .ok v' w') (hK : K (a.put o.dst v') w') :
    if Region.wanted o (yielded ops a.tmps) = true then Oper.wp P o a w K Q else E := by
  have hw : Region.wanted o (yielded ops a.tmps) = true := by simp [Region.wanted, hg]
  rw [if_pos hw]
  unfold Oper.wp
  simp [execOp, hop, resolve, invoke, builtin, hs, hx, hrun, Result.andThen]
  exact hK

/-- three rows, and cells that wait to be appended -/
structure R3p (w W : World) (v1 v2 v3 : Value) (l1 l2 l3 : List Nat) (x : Nat) (ps : List Nat) : Prop where
  r : R3 w W v1 v2 v3 l1 l2 l3
  c : ∀ b ∈ ps, W.cell? ⟨b, 0, none⟩ = some (.int .i64 (x : Int)) ∧ v1.ownBlock ≠ some b ∧ v2.ownBlock ≠ some b
section
variable {w W W' : World} {v1 v2 v3 v' : Value} {l1 l2 l3 : List Nat} {x : Nat} {ps : List Nat}
theorem R3p.start (h : R3 w W v1 v2 v3 l1 l2 l3) (x : Nat) : R3p w W v1 v2 v3 l1 l2 l3 x [] := ⟨h, fun b hb => by cases hb⟩
theorem R3p.drew (h : R3p w W v1 v2 v3 l1 l2 l3 x ps) : R3p w W.drew v1 v2 v3 l1 l2 l3 x ps := ⟨h.r.below (Below.refl _ _).drew, h.c⟩
theorem alloc_cell {b i : Nat} {v : Value} (h : W.cell? ⟨b, i, none⟩ = some v) (o : Obj) : (W.alloc o).cell? ⟨b, i, none⟩ = some v := (World.cell?_alloc_past _ _ _ (cell_lt h)).trans h
theorem R3p.alloc (h : R3p w W v1 v2 v3 l1 l2 l3 x ps) : R3p w (W.alloc (.cells #[.int .i64 (x : Int)] 3)) v1 v2 v3 l1 l2 l3 x (W.heap.size :: ps) := by
  refine ⟨h.r.alloc _, fun b hb => ?_⟩
  rcases List.mem_cons.1 hb with rfl | hb
  · refine ⟨cell_one_new W (.int .i64 (x : Int)) 3 0 _ rfl, fun e => ?_, fun e => ?_⟩
    · have := (World.ownsRow.lt h.r.o1 _ e).2; omega
    · have := (World.ownsRow.lt h.r.o2 _ e).2; omega
  · exact ⟨alloc_cell (h.c b hb).1 _, (h.c b hb).2⟩
theorem R3p.app1 (h : R3p w W v1 v2 v3 l1 l2 l3 x ps) (ho : W'.ownsRow w.heap.size 3 1 v' (l1.length + 1) (l1.map (fun x : Nat => Value.int .i64 (x : Int)) ++ [.int .i64 (x : Int)])) (hg : W.grownBy W' v1.ownBlock) (hat : v'.ownBlock = v1.ownBlock ∨ v'.ownBlock = some W.heap.size) :
    R3p w W' v' v2 v3 (l1 ++ [x]) l2 l3 x ps := by
  refine ⟨h.r.app1 ho hg hat, fun b hb => ?_⟩
  obtain ⟨h1, h2, h3⟩ := h.c b hb
  refine ⟨hg.cell h1 (fun e => h2 e.symm), fun e => ?_, h3⟩
  rcases hat with e' | e'
  · exact h2 (e' ▸ e)
  · have := cell_lt h1
    rw [e'] at e
    cases e
    simp at this
theorem R3p.swap (h : R3p w W v1 v2 v3 l1 l2 l3 x ps) : R3p w W v2 v1 v3 l2 l1 l3 x ps := ⟨h.r.swap, fun b hb => ⟨(h.c b hb).1, (h.c b hb).2.2, (h.c b hb).2.1⟩⟩

theorem step_row1 {ops : Array Oper} {o : Oper} {a : Act} {K : Act → World → Prop} {Q : Exit → Act → World → Prop} {E : Prop}
    (hg : o.guard = none) (s y : Operand) (hop : o.op = Op.call { callee := Callee.builtin Builtin.append, args := #[s, y], argTypes := #[24, 24] })
    (hs : a.eval s = v1) (b : Nat) (hy : a.eval y = .slice (some ⟨b, 0, none⟩) 1 1) (h : R3p w W v1 v2 v3 l1 l2 l3 x ps) (hb : b ∈ ps) (hlen : l1.length ≤ 200000)
    (q : Nat) (hq : q < l3.length) (hx : l3.getD q 0 = x) (g n cap : Nat) (hv3 : v3 = .slice (some ⟨g, 0, none⟩) n cap)
    (hK : ∀ v' W', R3p w W' v' v2 v3 (l1 ++ [x]) l2 l3 x ps → W'.cell? ⟨g, q, none⟩ = some (.int .i64 (x : Int)) → K (a.put o.dst v') W') :
    if Region.wanted o (yielded ops a.tmps) = true then Oper.wp Tryd.prog o a W K Q else E := by
  obtain ⟨i0, hi, hz0, hz1, hz2⟩ := info_parts info3
  obtain ⟨v', W', hrun, h2, h3, h4, h5⟩ := run_append_own_at (P := Tryd.prog) W w.heap.size 24 o.type 3 i0 (.int .i64 0) 1 8 Tryd.underlying24 hi hz0 hz1 hz2 rfl (by decide) v1 l1.length (l1.map fun x : Nat => Value.int .i64 (x : Int)) h.r.o1 ⟨b, 0, none⟩ 1 1 [.int .i64 (x : Int)] rfl (by
    intro j u hu
    cases j with
    | zero => obtain rfl : Value.int .i64 (x : Int) = u := by simpa using hu
              exact (h.c b hb).1
    | succ j => simp at hu) (one_int _ _) (by unfold maxLen; omega) (by omega) h.r.bel.size
  refine step_app hg s y 24 hop (v := v1) (y := .slice (some ⟨b, 0, none⟩) 1 1) hs hy hrun ?_
  have H := h.app1 h2 h3 h5
  refine hK v' W' H ?_
  have ho3 := H.r.o3
  subst hv3
  unfold OwnI at ho3
  have hn : n = l3.length := by
    rcases ho3.2 with ⟨e, _⟩ | ⟨g', cap', cur, e, _⟩
    · cases e
    · cases e; rfl
  subst hn
  rw [World.ownsRow.cellAt ho3 q (by omega)]
  simp [← hx, hq, List.getD_eq_getElem?_getD]
theorem step_row2 {ops : Array Oper} {o : Oper} {a : Act} {K : Act → World → Prop} {Q : Exit → Act → World → Prop} {E : Prop}
    (hg : o.guard = none) (s y : Operand) (hop : o.op = Op.call { callee := Callee.builtin Builtin.append, args := #[s, y], argTypes := #[24, 24] })
    (hs : a.eval s = v2) (b : Nat) (hy : a.eval y = .slice (some ⟨b, 0, none⟩) 1 1) (h : R3p w W v1 v2 v3 l1 l2 l3 x ps) (hb : b ∈ ps) (hlen : l2.length ≤ 200000)
    (q : Nat) (hq : q < l3.length) (hx : l3.getD q 0 = x) (g n cap : Nat) (hv3 : v3 = .slice (some ⟨g, 0, none⟩) n cap)
    (hK : ∀ v' W', R3p w W' v1 v' v3 l1 (l2 ++ [x]) l3 x ps → W'.cell? ⟨g, q, none⟩ = some (.int .i64 (x : Int)) → K (a.put o.dst v') W') :
    if Region.wanted o (yielded ops a.tmps) = true then Oper.wp Tryd.prog o a W K Q else E :=
  step_row1 hg s y hop hs b hy h.swap hb hlen q hq hx g n cap hv3 fun v' W' h hc => hK v' W' h.swap hc
end
end Go.Proofs.YtccccbkllplojaaDoor
