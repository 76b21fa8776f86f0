/-
  StackOwn: a stack that is the same goes on by itself; one that nobody made has nothing. For every list of puts and every put; no condition.
-/
import Derived.Test.YtlnhganinomaaaaOwnWalk
import Derived.ProofKit
import Derived.OpenShut
import Derived.Deep.Slices
import Derived.Lib.SmallJoins
namespace Go.Proofs.Ytlnhganinomaaaa
open Go.ChangeShapes Go.WideShapes Go.ChangeAt Go.RowKit Go.Deep
set_option linter.unusedVariables false
set_option linter.unusedSimpArgs false

theorem c29 : Try.prog.cellsOf 29 = 3 := by kernel_rfl

theorem wf_ok {a : Int} (h : (Lit.int .i64 a).wf = true) : i64ok a := by
  unfold i64ok
  simp [Lit.wf, IntKind.min, IntKind.max, IntKind.bits, IntKind.signed] at h
  omega

/-- a slice of puts, opened -/
theorem open_puts {H : Type} {enc : TypeId × Value → H} {w : World} {base : Nat} {spare : Nat → Bool} {held : Bool} {fuel : Nat} {a0 : Option Addr} {len cap : Nat} {x : DataW H × List MemPlace}
    (h : DataW.trod enc Try.prog w base spare held fuel 22 [.slice a0 len cap] = some x) :
    ∃ (b off : Nat) (P0 P1 P2 : Nat → Int), (0 < len → a0 = some ⟨b, off, none⟩) ∧
      (∀ i, i < len → w.cell? ⟨b, off + i * 3, none⟩ = some (.int .i64 (P0 i)) ∧ w.cell? ⟨b, off + i * 3 + 1, none⟩ = some (.int .i64 (P1 i)) ∧ w.cell? ⟨b, off + i * 3 + 2, none⟩ = some (.int .i64 (P2 i))) ∧
      (0 < len → b < w.heap.size) ∧ (∀ i, i < len → i64ok (P0 i) ∧ i64ok (P1 i) ∧ i64ok (P2 i)) := by
  rcases open_slice Try.underlying22 h with ⟨e, _⟩ | ⟨a, l, c, m, n, D, Pl, e, hb, hl, hm, hmm, _, hx⟩
  · simp at e
    obtain ⟨rfl, rfl, rfl⟩ := e
    exact ⟨0, 0, fun _ => 0, fun _ => 0, fun _ => 0, by simp, by simp, by simp, by simp⟩
  · simp at e
    obtain ⟨rfl, rfl, rfl⟩ := e
    have hlm : len ≤ m := by rw [hmm]; split <;> omega
    have each : ∀ i, i < len → ∃ q : Int × Int × Int, (w.cell? (a.add (i * 3)) = some (.int .i64 q.1) ∧ w.cell? (a.add (i * 3 + 1)) = some (.int .i64 q.2.1) ∧ w.cell? (a.add (i * 3 + 2)) = some (.int .i64 q.2.2)) ∧ (i64ok q.1 ∧ i64ok q.2.1 ∧ i64ok q.2.2) := by
      intro i hi
      obtain ⟨cs', h1, h2⟩ := hx i (by omega)
      rw [c29] at h1
      obtain ⟨_, hlen, hcell⟩ := World.cells?_some h1
      obtain ⟨xs, k, hk, hxy, _, hxl, hf⟩ := DataW.trod_struct Try.underlying29 h2
      match cs', hlen with
      | [v0, v1, v2], _ =>
        have hxl3 : xs.length = 3 := hxl
        match xs, hxl3 with
        | [y0, y1, y2], _ =>
          have g0 := hf 0 _ rfl
          have g1 := hf 1 _ rfl
          have g2 := hf 2 _ rfl
          simp [c3] at g0 g1 g2
          obtain ⟨n0, e0, _, w0⟩ := DataW.trod_int Try.underlying3 g0
          obtain ⟨n1, e1, _, w1⟩ := DataW.trod_int Try.underlying3 g1
          obtain ⟨n2, e2, _, w2⟩ := DataW.trod_int Try.underlying3 g2
          simp at e0 e1 e2
          subst e0 e1 e2
          have f0 := hcell 0 (by omega)
          have f1 := hcell 1 (by omega)
          have f2 := hcell 2 (by omega)
          rw [add_add] at f0 f1 f2
          exact ⟨(n0, n1, n2), ⟨by simpa using f0, by simpa using f1, by simpa using f2⟩, wf_ok w0, wf_ok w1, wf_ok w2⟩
    obtain ⟨q, hq⟩ := choose_lt each
    rcases Nat.eq_zero_or_pos len with rfl | hpos
    · exact ⟨0, 0, fun _ => 0, fun _ => 0, fun _ => 0, by simp, by simp, by simp, by simp⟩
    · obtain ⟨b, off, spot⟩ := a
      have hspot : spot = none := by
        have := (hq 0 hpos).1.1
        simp [Addr.add] at this
        simpa using World.cell?_spot this
      subst hspot
      have hadd : ∀ j, (⟨b, off, none⟩ : Addr).add j = ⟨b, off + j, none⟩ := by
        intro j
        unfold Addr.add
        split
        · rename_i h0; subst h0; rfl
        · rfl
      have hc : ∀ i, i < len → w.cell? ⟨b, off + i * 3, none⟩ = some (.int .i64 (q i).1) ∧ w.cell? ⟨b, off + i * 3 + 1, none⟩ = some (.int .i64 (q i).2.1) ∧ w.cell? ⟨b, off + i * 3 + 2, none⟩ = some (.int .i64 (q i).2.2) := by
        intro i hi
        have := (hq i hi).1
        rw [hadd, hadd, hadd] at this
        exact this
      exact ⟨b, off, fun i => (q i).1, fun i => (q i).2.1, fun i => (q i).2.2, fun _ => rfl, hc, fun _ => cell?_lt' (hc 0 hpos).1, fun i hi => (hq i hi).2⟩
end Go.Proofs.Ytlnhganinomaaaa

namespace Go.Proofs.Ytlnhganinomaaaa.stackOwn
open Go.ChangeShapes Go.WideShapes Go.ChangeAt Go.RowKit
set_option linter.unusedVariables false

theorem own : ownKnob Try.prog.godebug = none := by kernel_rfl

set_option maxRecDepth 100000 in
theorem lifted (os : Os) (started : os.Started) (H : Type) (enc : TypeId × Value → H) :
    ReturnsInHanded {} Try.checked os 4 .any (Rows.stackOwnSpec.pre6 enc Try.prog Try.f4 Rows.stackOwnRow.domain false) (Rows.stackOwnSpec.post enc Try.prog Try.f4 false true false false) := by
  refine returnsInHanded_of_change (C := Try.checked) own started (by kernel_rfl) Try.func4
    (ChangeSpec.witness6 (enc := enc) (C := Try.checked) false ⟨#[], #[.slice none 0 0, .agg #[.int .i64 0, .int .i64 0, .int .i64 0]], []⟩ 8 (by kernel_rfl) (by kernel_rfl) (by kernel_rfl) (by kernel_rfl)) ?_
  intro W base args ds gs before hval0 hW hcnd _
  have hval : ∀ (j : Nat) t v, Try.f4.params[j]? = some t → args[j]? = some v → Value.okWide Try.prog W .any base t v := hval0
  have hW' := hW
  obtain ⟨p, q, hA0, hV, rfl, hfz, hnd⟩ := hW
  have hA : DataW.TrodAll enc Try.prog W 0 (fun _ => true) true Try.f4.params.toList args.toList ds p := hA0
  rw [Try.params4] at hA hval
  obtain ⟨v0, vs0, d0, ds0, p0, q0, hargs, rfl, rfl, h0, r0⟩ := trodAll_cons hA
  obtain ⟨v1, vs1, d1, ds1, p1, q1, rfl, rfl, rfl, h1, r1⟩ := trodAll_cons r0
  obtain ⟨rfl, rfl, rfl⟩ := trodAll_nil r1
  obtain rfl : args = #[v0, v1] := by cases args; simp_all
  obtain ⟨rfl, rfl⟩ := trodVars_none hV
  have k1 := h1
  have lt1 : ∀ x ∈ p1, x.block < W.heap.size := by obtain ⟨m, hm⟩ := k1; exact DataW.trod_lt m _ _ _ hm
  obtain ⟨u0, u1, u2, y0, y1, y2, nf, rfl, _, _, g0, g1, g2⟩ := Go.Joins.open_agg3 Try.underlying29 (by kernel_rfl) (by kernel_rfl) (hval 1 29 v1 rfl rfl) h1
  obtain ⟨m0, e0, _, w0⟩ := DataW.trod_int Try.underlying3 g0
  obtain ⟨m1, e1, _, w1⟩ := DataW.trod_int Try.underlying3 g1
  obtain ⟨m2, e2, _, w2⟩ := DataW.trod_int Try.underlying3 g2
  simp at e0 e1 e2
  subst e0 e1 e2
  obtain ⟨a0, len, cap, rfl⟩ := okWide_slice Try.underlying22 (hval 0 22 v0 rfl rfl)
  have k0 := h0
  have lt0 : ∀ x ∈ p0, x.block < W.heap.size := by obtain ⟨m, hm⟩ := k0; exact DataW.trod_lt m _ _ _ hm
  obtain ⟨fuel, hf⟩ := h0
  obtain ⟨b, off, P0, P1, P2, ha, hc, hb, hok⟩ := open_puts hf
  clear hA0 hval0
  refine (own_walk a0 len cap b off P0 P1 P2 m0 m1 m2 (wf_ok w0) (wf_ok w1) W ha hc hb hok).mono fun e W' ⟨he, bel⟩ => ?_
  subst he
  exact ⟨_, rfl, _, _, _, [], _, [], hW', trodAll_mk1 (shut_bool Try.underlying4 _), (trodAll_cons_mk (Below.trod laidOut (by kernel_rfl) (of_decide_eq_true (by kernel_rfl)) k0 bel lt0) (trodAll_cons_mk (Below.trod laidOut (by kernel_rfl) (of_decide_eq_true (by kernel_rfl)) k1 bel lt1) trodAll_mk0)), rfl, bel.frame _, fun h => by cases h⟩

theorem over : Rows.stackOwnRow.holds Try.pinned (OpenSpec.ofChange Rows.stackOwnSpec) :=
  OpenClaim.holds_of_wide 4 Try.f4 rfl rfl rfl rfl rfl rfl rfl ⟨rfl, rfl, rfl, rfl, rfl⟩ rfl rfl rfl rfl rfl (by kernel_rfl) Try.func4 (by kernel_rfl)
    (of_decide_eq_true (by kernel_rfl)) (by unfold Func.isWrapper; first | (rw [if_pos (by decide +kernel)]; kernel_rfl) | (rw [if_neg (by decide +kernel)]; exact ⟨rfl, rfl⟩))
    (fun os started H enc _ => lifted os started H enc)

theorem proved : Rows.StackOwnSaid := over
#print axioms proved
end Go.Proofs.Ytlnhganinomaaaa.stackOwn
