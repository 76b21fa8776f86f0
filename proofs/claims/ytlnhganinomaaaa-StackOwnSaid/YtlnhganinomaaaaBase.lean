/-
  A stack of package stack in memory, told as its places and the rows of nodes to which each goes on; plain facts on it. No condition.
-/
import Derived.Test.YtlnhganinomaaaaRows
import Derived.Test.YtlnhganinomaaaaBlocks
import Derived.Test.YtlnhganinomaaaaMaps
import Derived.WalkLawsBesides
import Derived.WalkSpells
import Derived.BigQuiet
import Derived.BigRegion
import Derived.Deep.QuietTactic
import Derived.Deep.RegionLaw
import Derived.Deep.LoopGhost
import Derived.Deep.DeepCutAuto
import Derived.Deep.CutBlock
import Derived.Maps.AppendAt
import Derived.DeepKeys4
namespace Go.Proofs.Ytlnhganinomaaaa
open Go.RowKit Go.Maps
set_option linter.unusedSimpArgs false
set_option linter.unusedVariables false

theorem laidOut : laidOutB Try.prog = true := by kernel_rfl
theorem law46 : Keyed Try.prog 46 := Keyed.of_law (deep_law_laid laidOut (m := 2) (by omega) (of_decide_eq_true (by kernel_rfl)) (by kernel_rfl) (by kernel_rfl))
theorem law50 : Keyed Try.prog 50 := Keyed.of_law (deep_law_laid laidOut (m := 2) (by omega) (of_decide_eq_true (by kernel_rfl)) (by kernel_rfl) (by kernel_rfl))
theorem c46 : Try.prog.cellsOf 46 = 2 := by kernel_rfl
theorem c50 : Try.prog.cellsOf 50 = 2 := by kernel_rfl
theorem c3 : Try.prog.cellsOf 3 = 1 := by kernel_rfl
theorem k46 : Try.prog.keyType 46 = true := by kernel_rfl
theorem k50 : Try.prog.keyType 50 = true := by kernel_rfl
def i64ok (a : Int) : Prop := -9223372036854775808 ≤ a ∧ a ≤ 9223372036854775807
theorem i64ok.wf {a : Int} (h : i64ok a) : (Lit.int .i64 a).wf = true := by
  unfold i64ok at h
  exact WalkArith.wf_i64 h
theorem lits46 (d : Nat) (a b : Int) (ha : (Lit.int .i64 a).wf = true) (hb : (Lit.int .i64 b).wf = true) : Try.prog.keyLits (d + 2) 46 #[.int .i64 a, .int .i64 b].toList = some [.int .i64 a, .int .i64 b] := by
  unfold Program.keyLits
  rw [Try.underlying46]
  simp [Program.keyLits, Try.underlying3, c46, c3, ha, hb]
theorem lits50 (d : Nat) (a b : Int) (ha : (Lit.int .i64 a).wf = true) (hb : (Lit.int .i64 b).wf = true) : Try.prog.keyLits (d + 2) 50 #[.int .i64 a, .int .i64 b].toList = some [.int .i64 a, .int .i64 b] := by
  unfold Program.keyLits
  rw [Try.underlying50]
  simp [Program.keyLits, Try.underlying3, c50, c3, ha, hb]
theorem key46 {a b : Int} (ha : i64ok a) (hb : i64ok b) : ∃ l, keyOf Try.prog 46 (.agg #[.int .i64 a, .int .i64 b]) = some l := by
  unfold keyOf
  rw [Try.underlying46]
  have hd : Try.prog.types.size + 1 = 68 + 2 := by kernel_rfl
  rw [hd]
  simp only [k46, Value.formed, Value.cells, c46, Bool.true_and]
  rw [lits46 _ a b ha.wf hb.wf]
  exact ⟨_, rfl⟩
theorem key50 {a b : Int} (ha : i64ok a) (hb : i64ok b) : ∃ l, keyOf Try.prog 50 (.agg #[.int .i64 a, .int .i64 b]) = some l := by
  unfold keyOf
  rw [Try.underlying50]
  have hd : Try.prog.types.size + 1 = 68 + 2 := by kernel_rfl
  rw [hd]
  simp only [k50, Value.formed, Value.cells, c50, Bool.true_and]
  rw [lits50 _ a b ha.wf hb.wf]
  exact ⟨_, rfl⟩
theorem zero3 (w : World) : (zeroValue 3).run Try.prog w = .ok (.int .i64 0) w := by kernel_rfl
theorem zero51 (w : World) : (zeroValue 51).run Try.prog w = .ok (.agg #[]) w := by kernel_rfl
theorem info46 : (Try.prog.info? 46).map (fun i => (i.zero, i.size, i.bytes)) = some (some (.agg #[.int .i64 0, .int .i64 0]), 2, 16) := by kernel_rfl
theorem info32 : (Try.prog.info? 32).map (fun i => (i.zero, i.size, i.bytes)) = some (some (.slice none 0 0), 1, 24) := by kernel_rfl
theorem info3 : (Try.prog.info? 3).map (fun i => (i.zero, i.size, i.bytes)) = some (some (.int .i64 0), 1, 8) := by kernel_rfl

def pcell (p : Int × Int) : List Value := [.int .i64 p.1, .int .i64 p.2]
def agg2 (a b : Int) : Value := .agg #[.int .i64 a, .int .i64 b]
/-- the map of nodes: each place but the first one, with its number -/
def nodesFrom : Nat → List (Int × Int) → List (Value × Value)
  | _, [] => []
  | i, p :: r => (agg2 p.1 p.2, .int .i64 (i : Int)) :: nodesFrom (i + 1) r
def nodesOf (pl : List (Int × Int)) : List (Value × Value) := nodesFrom 1 (pl.drop 1)
/-- the map of links -/
def linksFrom : Nat → List (List Int) → List (Value × Value)
  | _, [] => []
  | i, l :: r => l.map (fun u => (agg2 i u, Value.agg #[])) ++ linksFrom (i + 1) r
def linksOf (us : List (List Int)) : List (Value × Value) := linksFrom 0 us

def blks (s mn ml : Nat) (pv uv : Value) (vs : List Value) : List Nat := s :: mn :: ml :: (pv :: uv :: vs).filterMap Value.ownBlock

/-- a stack in memory -/
structure St (w : World) (B s : Nat) (qn ql : List (Value × Value)) (pl : List (Int × Int)) (us : List (List Int)) (pv uv : Value) (vs : List Value) (mn ml : Nat) : Prop where
  hd : w.heap[s]? = some (.cells #[pv, uv, .map (some mn), .map (some ml)] 43 (0, 0))
  prow : w.ownsRow B 46 2 pv pl.length (pl.flatMap pcell)
  urow : w.ownsRow B 32 1 uv us.length vs
  rows : ∀ i, (hi : i < us.length) → ∃ v, vs[i]? = some v ∧ w.ownsRow B 3 1 v us[i].length (us[i].map (Value.int .i64))
  nodes : IsMap w mn qn
  links : IsMap w ml ql
  nd : (blks s mn ml pv uv vs).Nodup
  base : ∀ b ∈ blks s mn ml pv uv vs, B ≤ b

/-- what holds of places and rows -/
structure Inv (N : Nat) (pl : List (Int × Int)) (us : List (List Int)) : Prop where
  len : us.length = pl.length
  root : ∃ r, pl = (-1, 0) :: r ∧ ∀ p ∈ r, (0 ≤ p.1 ∧ i64ok p.1) ∧ (0 ≤ p.2 ∧ i64ok p.2)
  nd : pl.Nodup
  ups : ∀ l ∈ us, l.Nodup ∧ ∀ u ∈ l, 0 ≤ u ∧ u < pl.length
  size : pl.length ≤ N + 1
  rsize : ∀ l ∈ us, l.length ≤ N

theorem ownsRow_keep {w w' : World} {B e size n : Nat} {v : Value} {xs : List Value} (h : w.ownsRow B e size v n xs) (hb : ∀ g, v.ownBlock = some g → w'.heap[g]? = w.heap[g]?) : w'.ownsRow B e size v n xs := by
  refine ⟨h.1, ?_⟩
  rcases h.2 with h2 | ⟨g, cap, cur, rfl, hg, hh, r⟩
  · exact Or.inl h2
  · exact Or.inr ⟨g, cap, cur, rfl, hg, (hb g rfl).trans hh, r⟩
theorem ownsRow_lt {w : World} {B e size n : Nat} {v : Value} {xs : List Value} (h : w.ownsRow B e size v n xs) {g : Nat} (hg : v.ownBlock = some g) : B ≤ g ∧ g < w.heap.size := by
  rcases h.2 with ⟨rfl, _⟩ | ⟨g', cap, cur, rfl, hg', hh, r⟩
  · cases hg
  · simp [Value.ownBlock] at hg
    subst hg
    exact ⟨hg', blk_lt hh⟩
theorem ownsRow_shape {w : World} {B e size n : Nat} {v : Value} {xs : List Value} (h : w.ownsRow B e size v n xs) : ∃ a cap, v = .slice a n cap := by
  rcases h.2 with ⟨rfl, rfl⟩ | ⟨g, cap, cur, rfl, _⟩
  · exact ⟨none, 0, rfl⟩
  · exact ⟨_, _, rfl⟩
theorem ownsRow_cell {w : World} {B e size n : Nat} {v : Value} {xs : List Value} (h : w.ownsRow B e size v n xs) (hn : 0 < n) :
    ∃ g cap, v = .slice (some ⟨g, 0, none⟩) n cap ∧ (∀ j, j < n * size → w.cell? ⟨g, j, none⟩ = xs[j]?) ∧ (∀ j, w.frozen? ⟨g, j, none⟩ = false) := by
  rcases h.2 with ⟨rfl, h0⟩ | ⟨g, cap, cur, rfl, hr⟩
  · omega
  · exact ⟨g, cap, rfl, fun j hj => World.ownsRow.cellAt h j hj, fun j => World.ownsRow.frozenAt h j⟩

theorem St.lt {w : World} {B s mn ml : Nat} {qn ql : List (Value × Value)} {pl : List (Int × Int)} {us : List (List Int)} {pv uv : Value} {vs : List Value} (h : St w B s qn ql pl us pv uv vs mn ml) : ∀ b ∈ blks s mn ml pv uv vs, b < w.heap.size := by
  intro b hb
  simp only [blks, List.mem_cons, List.mem_filterMap] at hb
  rcases hb with rfl | rfl | rfl | ⟨v, hv, e⟩
  · exact blk_lt h.hd
  · exact h.nodes.lt
  · exact h.links.lt
  · rcases hv with rfl | rfl | hv
    · exact (ownsRow_lt h.prow e).2
    · exact (ownsRow_lt h.urow e).2
    · obtain ⟨i, hi, hvi⟩ := List.getElem_of_mem hv
      have hul : vs.length = us.length := by have := h.urow.1; omega
      obtain ⟨v', h1, h2⟩ := h.rows i (by omega)
      rw [List.getElem?_eq_getElem hi] at h1
      obtain rfl : v = v' := by rw [← hvi]; exact Option.some.inj h1
      exact (ownsRow_lt h2 e).2

theorem St.congr {w w' : World} {B s mn ml : Nat} {qn ql : List (Value × Value)} {pl : List (Int × Int)} {us : List (List Int)} {pv uv : Value} {vs : List Value} (h : St w B s qn ql pl us pv uv vs mn ml)
    (hb : ∀ b ∈ blks s mn ml pv uv vs, w'.heap[b]? = w.heap[b]?) : St w' B s qn ql pl us pv uv vs mn ml := by
  have hm : ∀ v ∈ pv :: uv :: vs, ∀ g, v.ownBlock = some g → w'.heap[g]? = w.heap[g]? := by
    intro v hv g hg
    refine hb g ?_
    simp only [blks, List.mem_cons, List.mem_filterMap]
    exact Or.inr (Or.inr (Or.inr ⟨v, by simpa using hv, hg⟩))
  refine ⟨(hb s (by simp [blks])).trans h.hd, ownsRow_keep h.prow (hm pv (by simp)), ownsRow_keep h.urow (hm uv (by simp)), ?_, h.nodes.congr (hb mn (by simp [blks])), h.links.congr (hb ml (by simp [blks])), h.nd, h.base⟩
  intro i hi
  obtain ⟨v, h1, h2⟩ := h.rows i hi
  exact ⟨v, h1, ownsRow_keep h2 (hm v (by simp [List.mem_of_getElem? h1]))⟩

theorem St.below {w w' : World} {B s mn ml : Nat} {qn ql : List (Value × Value)} {pl : List (Int × Int)} {us : List (List Int)} {pv uv : Value} {vs : List Value} (h : St w B s qn ql pl us pv uv vs mn ml) (hb : Below w.heap.size w w') : St w' B s qn ql pl us pv uv vs mn ml :=
  h.congr fun b hm => hb.block b (h.lt b hm)
theorem St.eqv {w w' : World} {B s mn ml : Nat} {qn ql : List (Value × Value)} {pl : List (Int × Int)} {us : List (List Int)} {pv uv : Value} {vs : List Value} (h : St w B s qn ql pl us pv uv vs mn ml) (hb : Eqv w w') : St w' B s qn ql pl us pv uv vs mn ml :=
  h.congr fun b _ => by rw [hb.heap]

/-- a stack, its slices left open -/
def Stk (w : World) (B s : Nat) (pl : List (Int × Int)) (us : List (List Int)) (bs : List Nat) : Prop :=
  ∃ ql pv uv vs mn ml, St w B s (nodesOf pl) ql pl us pv uv vs mn ml ∧ ql.Perm (linksOf us) ∧ bs = blks s mn ml pv uv vs

/-- just these blocks may have turned -/
structure Chg (S : List Nat) (w w' : World) : Prop where
  os : w'.os = w.os
  tape : w'.tape = w.tape
  output : w'.output = w.output
  size : w.heap.size ≤ w'.heap.size
  block : ∀ b, b < w.heap.size → b ∉ S → w'.heap[b]? = w.heap[b]?
theorem Chg.refl (S : List Nat) (w : World) : Chg S w w := ⟨rfl, rfl, rfl, Nat.le_refl _, fun _ _ _ => rfl⟩
theorem Chg.trans {S : List Nat} {a b c : World} (h : Chg S a b) (k : Chg S b c) : Chg S a c :=
  ⟨k.os.trans h.os, k.tape.trans h.tape, k.output.trans h.output, Nat.le_trans h.size k.size, fun g hg hs => (k.block g (Nat.lt_of_lt_of_le hg h.size) hs).trans (h.block g hg hs)⟩
theorem Chg.mono {S T : List Nat} {a b : World} (h : Chg S a b) (hs : ∀ g ∈ S, g < a.heap.size → g ∈ T) : Chg T a b :=
  ⟨h.os, h.tape, h.output, h.size, fun g hg hn => h.block g hg (fun hm => hn (hs g hm hg))⟩
theorem Chg.eqv {S : List Nat} {a b : World} (h : Eqv a b) : Chg S a b := ⟨h.os, h.tape, h.output, by rw [h.heap]; exact Nat.le_refl _, fun _ _ _ => by rw [h.heap]⟩
theorem Chg.alloc {S : List Nat} (a : World) (o : Obj) : Chg S a (a.alloc o) := ⟨rfl, rfl, rfl, by simp, fun g hg _ => blk_old hg⟩
theorem Chg.setCell {S : List Nat} (a : World) {b i : Nat} (v : Value) (hb : b ∈ S) : Chg S a (a.setCell ⟨b, i, none⟩ v) :=
  ⟨rfl, rfl, rfl, by simp [World.setCell], fun g _ hs => blk_set_ne (fun e => hs (e ▸ hb))⟩
theorem Chg.setObj {S : List Nat} (a : World) {b : Nat} (o : Obj) (hb : b ∈ S) : Chg S a (setObjW a b o) :=
  ⟨rfl, rfl, rfl, by simp [setObjW], fun g _ hs => setObjW_ne (fun e => hs (e ▸ hb))⟩
theorem Chg.grown {S : List Nat} {a b : World} {row : Option Nat} (h : a.grownBy b row) (hr : ∀ g, row = some g → g ∈ S) : Chg S a b :=
  ⟨h.os, h.tape, h.output, h.size, fun g hg hs => h.block g hg (fun e => hs (hr g e.symm))⟩
theorem Chg.below {S : List Nat} {a b : World} (h : Chg S a b) {B : Nat} (hB : B ≤ a.heap.size) (hS : ∀ g ∈ S, B ≤ g) : Below B a b :=
  ⟨h.os, h.tape, h.output, h.size, fun g hg => h.block g (by omega) (fun hm => by have := hS g hm; omega)⟩

theorem new_any (w : World) : Calls Try.prog 5 #[] w fun e w' => e = .returned (.pointer (some ⟨w.heap.size + 4, 0, none⟩)) ∧
    ∃ bs, Stk w' w.heap.size (w.heap.size + 4) [(-1, 0)] [[]] bs ∧ Below w.heap.size w w' := by
  have hmm := @run_makeMap Try.prog
  go_enter Try.func5, Try.ntmps5
  go_wp2
  go_ret
  refine ⟨rfl, _, ⟨[], .slice (some ⟨w.heap.size, 0, none⟩) 1 1, .slice (some ⟨w.heap.size + 1, 0, none⟩) 1 1, [.slice none 0 0], w.heap.size + 2, w.heap.size + 3, ?_, List.Perm.refl _, rfl⟩, ?_⟩
  · have e1 : (w.alloc (.cells #[.int .i64 (-1), .int .i64 0] 46)).heap.size = w.heap.size + 1 := by simp
    have e2 : ((w.alloc (.cells #[.int .i64 (-1), .int .i64 0] 46)).alloc (.cells #[.slice none 0 0] 32)).heap.size = w.heap.size + 2 := by simp
    have e3 : (((w.alloc (.cells #[.int .i64 (-1), .int .i64 0] 46)).alloc (.cells #[.slice none 0 0] 32)).alloc (.map #[] 0)).heap.size = w.heap.size + 3 := by simp
    have e4 : ((((w.alloc (.cells #[.int .i64 (-1), .int .i64 0] 46)).alloc (.cells #[.slice none 0 0] 32)).alloc (.map #[] 0)).alloc (.map #[] 0)).heap.size = w.heap.size + 4 := by simp
    refine ⟨?_, ?_, ?_, ?_, ?_, ?_, ?_, ?_⟩
    · rw [← e4]; exact blk_new _ _
    · refine ⟨rfl, Or.inr ⟨w.heap.size, 1, #[.int .i64 (-1), .int .i64 0], rfl, Nat.le_refl _, ?_, Nat.le_refl _, by simp [maxLen], rfl, rfl⟩⟩
      rw [blk_old (by omega), blk_old (by omega), blk_old (by omega), blk_old (by omega)]
      exact blk_new _ _
    · refine ⟨rfl, Or.inr ⟨w.heap.size + 1, 1, #[.slice none 0 0], rfl, by omega, ?_, Nat.le_refl _, by simp [maxLen], rfl, rfl⟩⟩
      rw [blk_old (by omega), blk_old (by omega), blk_old (by omega), ← e1]
      exact blk_new _ _
    · intro i hi
      obtain rfl : i = 0 := by simpa using hi
      exact ⟨_, rfl, rfl, Or.inl ⟨rfl, rfl⟩⟩
    · refine (IsMap.new _).congr ?_ |> (fun h => (show IsMap _ (w.heap.size + 2) [] from by rw [← e2]; exact h))
      rw [blk_old (by rw [e4]; simp), blk_old (by rw [e3]; simp)]
    · refine (IsMap.new _).congr ?_ |> (fun h => (show IsMap _ (w.heap.size + 3) [] from by rw [← e3]; exact h))
      rw [blk_old (by rw [e4]; simp)]
    · have e0 : List.filterMap Value.ownBlock [Value.slice none 0 0] = [] := rfl
      simp [blks, Value.ownBlock, e0]
    · intro b hb
      simp [blks, Value.ownBlock] at hb
      omega
  · exact (((((Below.refl _ _).alloc (Nat.le_refl _) _).alloc (by simp) _).alloc (by simp; omega) _).alloc (by simp; omega) _).alloc (by simp; omega) _
end Go.Proofs.Ytlnhganinomaaaa
