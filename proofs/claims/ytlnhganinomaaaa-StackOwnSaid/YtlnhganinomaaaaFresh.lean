/-
  What Cut of package stack makes first: facts on it. No condition beyond those that each theorem states.
-/
import Derived.Test.YtlnhganinomaaaaPut
namespace Go.Proofs.Ytlnhganinomaaaa
open Go.RowKit Go.Maps
set_option linter.unusedSimpArgs false
set_option linter.unusedVariables false

theorem run_makeMap_hint {P : Program} {t k e : TypeId} (hu : P.underlying t = some (.map k e)) (kd : IntKind) (n : Int) (w : World) : (Instr.makeMap t (some (.int kd n))).run P w = .ok (.map (some w.heap.size)) (w.alloc (.map #[] 0)) := by
  simp [Instr.makeMap, run_underlying hu, asInt, asIntOf, Result.andThen]

/-- how many nodes stay -/
def cutN (n : Int) (long : Nat) : Nat := (min (max n 1) (long : Int)).toNat
theorem cutN_is (n : Int) {long : Nat} (h : 0 < long) : (if (long : Int) < if n < 1 then 1 else n then (long : Int) else if n < 1 then 1 else n) = (cutN n long : Nat) := by
  unfold cutN
  split <;> split at * <;> omega
theorem pcells_one (l : List (Int × Int)) : ∀ u ∈ l.flatMap pcell, u.oneCell' = true := by
  intro u hu
  obtain ⟨x, _, hx⟩ := List.mem_flatMap.1 hu
  simp [pcell] at hx
  rcases hx with rfl | rfl <;> rfl
theorem pcells_len (l : List (Int × Int)) : (l.flatMap pcell).length = l.length * 2 := by
  induction l with
  | nil => rfl
  | cons p r ih => simp [List.flatMap_cons, pcell] at ih ⊢; omega
theorem pcells_take (l : List (Int × Int)) (m : Nat) : (l.take m).flatMap pcell = (l.flatMap pcell).take (m * 2) := by
  induction l generalizing m with
  | nil => simp
  | cons p r ih =>
    cases m with
    | zero => simp
    | succ m => rw [List.take_succ_cons, List.flatMap_cons, List.flatMap_cons, ih, show (m + 1) * 2 = m * 2 + 2 from by omega]; simp [pcell]
theorem cutN_le (n : Int) {long : Nat} (h : 0 < long) : 1 ≤ cutN n long ∧ cutN n long ≤ long := by unfold cutN; omega

/-- an append onto nothing, as a step of a region that draws -/
theorem step_new {P : Program} {ops : Array Oper} {o : Oper} {a : Act} {w : World} {K : Act → World → Prop} {Q : Exit → Act → World → Prop} {E : Prop}
    (hg : o.guard = none) (x : Operand) (t e : TypeId) (hop : o.op = Op.call { callee := Callee.builtin Builtin.append, args := #[Operand.const (.slice none 0 0), x], argTypes := #[t, t] })
    (i : TypeInfo) (z : Value) (size bytes : Nat) (ht : P.underlying t = some (.slice e)) (hi : P.info? e = some i) (hz : i.zero = some z)
    (hsize : i.size = size) (hby : i.bytes = bytes) (hzs : z.cells.size = size) (hsz : 0 < size)
    (base : Nat) (ad : Addr) (m c : Nat) (news : List Value) (hx : a.eval x = .slice (some ad) m c) (hl : news.length = m * size) (hnews : ∀ j u, news[j]? = some u → w.cell? (ad.add j) = some u) (h1 : ∀ u ∈ news, u.oneCell' = true)
    (h63 : m ≤ maxLen) (hbytes : m * bytes ≤ 140737488355328) (hbase : base ≤ w.heap.size)
    (hK : ∀ a0 c0 w', w'.ownsRow base e size (.slice a0 m c0) m news → w.grownBy w' none → (∀ g, (Value.slice a0 m c0).ownBlock = some g → g = w.heap.size) → K (a.put o.dst (.slice a0 m c0)) w') :
    if Region.wanted o (yielded ops a.tmps) = true then Oper.wp P o a w K Q else E := by
  obtain ⟨v', w', hrun, h2, h3, h4, h5⟩ := run_append_own_at (P := P) w base t o.type e i z size bytes ht hi hz hsize hby hzs hsz (.slice none 0 0) 0 [] (World.ownsRow_nil _ _ _ _) ad m c news hl hnews h1 (by omega) (by rw [Nat.zero_add]; exact hbytes) hbase
  refine step_app hg _ _ t hop (v := .slice none 0 0) (y := .slice (some ad) m c) rfl hx hrun ?_
  rw [Nat.zero_add] at h2
  obtain ⟨a0, c0, rfl⟩ := ownsRow_shape h2
  refine hK a0 c0 w' (by simpa using h2) h3 ?_
  intro g hg'
  rcases h5 with e | e
  · rw [e] at hg'; cases hg'
  · rw [e] at hg'; injection hg' with hg'; exact hg'.symm

/-- the four parts of a new stack, of which some are made -/
structure Made (w W : World) (xs : List Value) (m : Nat) (v : Value) (dv : Bool) (bS : Nat) (dS : Bool) (b1 : Nat) (d1 : Bool) (b2 : Nat) (d2 : Bool) : Prop where
  below : Below w.heap.size w W
  row : dv = true → W.ownsRow w.heap.size 46 2 v m xs
  sl : dS = true → w.heap.size ≤ bS ∧ W.heap[bS]? = some (.cells (madeCells #[.slice none 0 0] m) 32 (0, 0))
  m1 : d1 = true → w.heap.size ≤ b1 ∧ IsMap W b1 []
  m2 : d2 = true → w.heap.size ≤ b2 ∧ IsMap W b2 []
  vs : dv = true → dS = true → v.ownBlock ≠ some bS
  v1 : dv = true → d1 = true → v.ownBlock ≠ some b1
  v2 : dv = true → d2 = true → v.ownBlock ≠ some b2
  s1 : dS = true → d1 = true → bS ≠ b1
  s2 : dS = true → d2 = true → bS ≠ b2
  m12 : d1 = true → d2 = true → b1 ≠ b2
theorem Made.nil (w : World) (xs : List Value) (m : Nat) (v : Value) (bS b1 b2 : Nat) : Made w w xs m v false bS false b1 false b2 false :=
  ⟨Below.refl _ _, by simp, by simp, by simp, by simp, by simp, by simp, by simp, by simp, by simp, by simp⟩
section
variable {w W W' : World} {xs : List Value} {m : Nat} {v : Value} {dv : Bool} {bS : Nat} {dS : Bool} {b1 : Nat} {d1 : Bool} {b2 : Nat} {d2 : Bool}
theorem Made.keep (h : Made w W xs m v dv bS dS b1 d1 b2 d2) (hb : Below W.heap.size W W') : Made w W' xs m v dv bS dS b1 d1 b2 d2 :=
  ⟨h.below.trans (hb.mono h.below.size), fun e => ownsRow_keep (h.row e) (fun g hg => hb.block g (ownsRow_lt (h.row e) hg).2), fun e => ⟨(h.sl e).1, (hb.block _ (blk_lt (h.sl e).2)).trans (h.sl e).2⟩,
    fun e => ⟨(h.m1 e).1, (h.m1 e).2.congr (hb.block _ (h.m1 e).2.lt)⟩, fun e => ⟨(h.m2 e).1, (h.m2 e).2.congr (hb.block _ (h.m2 e).2.lt)⟩, h.vs, h.v1, h.v2, h.s1, h.s2, h.m12⟩
theorem Made.drew (h : Made w W xs m v dv bS dS b1 d1 b2 d2) : Made w W.drew xs m v dv bS dS b1 d1 b2 d2 := h.keep (Below.refl _ _).drew
theorem Made.slice (h : Made w W xs m v dv bS false b1 d1 b2 d2) (e : bS = W.heap.size) : Made w (W.alloc (.cells (madeCells #[.slice none 0 0] m) 32)) xs m v dv bS true b1 d1 b2 d2 := by
  have k := h.keep (W' := W.alloc (.cells (madeCells #[.slice none 0 0] m) 32)) ((Below.refl _ _).alloc (Nat.le_refl _) _)
  subst e
  exact ⟨k.below, k.row, fun _ => ⟨h.below.size, blk_new _ _⟩, k.m1, k.m2, fun e _ hv => by have := (ownsRow_lt (h.row e) hv).2; omega, k.v1, k.v2,
    fun _ e he => by have := (h.m1 e).2.lt; omega, fun _ e he => by have := (h.m2 e).2.lt; omega, k.m12⟩
theorem Made.map1 (h : Made w W xs m v dv bS dS b1 false b2 d2) (e : b1 = W.heap.size) : Made w (W.alloc (.map #[] 0)) xs m v dv bS dS b1 true b2 d2 := by
  have k := h.keep (W' := W.alloc (.map #[] 0)) ((Below.refl _ _).alloc (Nat.le_refl _) _)
  subst e
  exact ⟨k.below, k.row, k.sl, fun _ => ⟨h.below.size, IsMap.new _⟩, k.m2, k.vs, fun e _ hv => by have := (ownsRow_lt (h.row e) hv).2; omega, k.v2,
    fun e _ he => by have := blk_lt (h.sl e).2; omega, k.s2, fun _ e he => by have := (h.m2 e).2.lt; omega⟩
theorem Made.map2 (h : Made w W xs m v dv bS dS b1 d1 b2 false) (e : b2 = W.heap.size) : Made w (W.alloc (.map #[] 0)) xs m v dv bS dS b1 d1 b2 true := by
  have k := h.keep (W' := W.alloc (.map #[] 0)) ((Below.refl _ _).alloc (Nat.le_refl _) _)
  subst e
  exact ⟨k.below, k.row, k.sl, k.m1, fun _ => ⟨h.below.size, IsMap.new _⟩, k.vs, k.v1, fun e _ hv => by have := (ownsRow_lt (h.row e) hv).2; omega, k.s1,
    fun e _ he => by have := blk_lt (h.sl e).2; omega, fun e _ he => by have := (h.m1 e).2.lt; omega⟩
def Fresh (w W W' : World) (xs : List Value) (m : Nat) (v : Value) : Prop := W'.ownsRow w.heap.size 46 2 v m xs ∧ W.grownBy W' none ∧ ∀ g, v.ownBlock = some g → g = W.heap.size
theorem Made.app (f : Fresh w W W' xs m v) (h : Made w W xs m v false bS dS b1 d1 b2 d2) : Made w W' xs m v true bS dS b1 d1 b2 d2 := by
  have k := h.keep (W' := W') ((Below.refl _ _).grown f.2.1 (Nat.le_refl _) (fun k hk => by cases hk))
  exact ⟨k.below, fun _ => f.1, k.sl, k.m1, k.m2, fun _ e hv => by have := f.2.2 _ hv; have := blk_lt (h.sl e).2; omega, fun _ e hv => by have := f.2.2 _ hv; have := (h.m1 e).2.lt; omega,
    fun _ e hv => by have := f.2.2 _ hv; have := (h.m2 e).2.lt; omega, k.s1, k.s2, k.m12⟩
/-- all are made, and boxed -/
theorem Made.st {pl : List (Int × Int)} (h : Made w W (pl.flatMap pcell) m v true bS true b1 true b2 true) (hm : pl.length = m) (hmx : m ≤ maxLen) :
    St (W.alloc (.cells #[v, .slice (some ⟨bS, 0, none⟩) m m, .map (some b1), .map (some b2)] 43)) w.heap.size W.heap.size [] [] pl (List.replicate m []) v (.slice (some ⟨bS, 0, none⟩) m m) (List.replicate m (.slice none 0 0)) b1 b2 ∧
      Below w.heap.size w (W.alloc (.cells #[v, .slice (some ⟨bS, 0, none⟩) m m, .map (some b1), .map (some b2)] 43)) := by
  have k := h.keep (W' := W.alloc (.cells #[v, .slice (some ⟨bS, 0, none⟩) m m, .map (some b1), .map (some b2)] 43)) ((Below.refl _ _).alloc (Nat.le_refl _) _)
  subst hm
  have hv := h.row rfl
  have l1 := blk_lt (h.sl rfl).2
  have l2 := (h.m1 rfl).2.lt
  have l3 := (h.m2 rfl).2.lt
  have hw := h.below.size
  have hnil : ∀ n x, x ∈ List.replicate n (Value.slice none 0 0) → ∀ b, x.ownBlock ≠ some b := fun n x hx b e => by rw [List.eq_of_mem_replicate hx] at e; cases e
  refine ⟨⟨blk_new _ _, k.row rfl, by rw [List.length_replicate]; exact ⟨by simp, Or.inr ⟨bS, pl.length, _, rfl, (k.sl rfl).1, (k.sl rfl).2, Nat.le_refl _, hmx, by simp [size_madeCells], by rw [toList_madeCells_one, Nat.mul_one, List.take_of_length_le (by simp)]⟩⟩, ?_, (k.m1 rfl).2, (k.m2 rfl).2, ?_, ?_⟩, k.below⟩
  · intro i hi
    have : i < pl.length := by simpa using hi
    refine ⟨.slice none 0 0, by simp [this], ?_⟩
    simp only [List.getElem_replicate, List.length_nil, List.map_nil]
    exact World.ownsRow_nil _ _ _ _
  · rw [nd_iff]
    refine ⟨⟨by omega, by omega, h.m12 rfl rfl⟩, ?_, List.pairwise_cons.2 ⟨?_, List.pairwise_cons.2 ⟨?_, ?_⟩⟩⟩
    · intro x hx b hb
      rcases List.mem_cons.1 hx with rfl | hx
      · have := ownsRow_lt hv hb
        exact ⟨by omega, fun e => h.v1 rfl rfl (e ▸ hb), fun e => h.v2 rfl rfl (e ▸ hb)⟩
      · rcases List.mem_cons.1 hx with rfl | hx
        · have e : bS = b := by simpa [Value.ownBlock] using hb
          subst e
          exact ⟨by omega, h.s1 rfl rfl, h.s2 rfl rfl⟩
        · exact absurd hb (hnil _ x hx b)
    · intro x hx b hb hy
      rcases List.mem_cons.1 hx with rfl | hx
      · cases hy; exact h.vs rfl rfl hb
      · exact hnil _ x hx b hy
    · intro x hx b hb hy
      exact hnil _ x hx b hy
    · rw [List.pairwise_iff_getElem]
      intro i j hi hj _ x hx _
      exact hnil _ _ (List.getElem_mem hi) x hx
  · intro b hb
    rcases mem_blks.1 hb with rfl | rfl | rfl | ⟨x, hx, hb2⟩
    · exact hw
    · exact (h.m1 rfl).1
    · exact (h.m2 rfl).1
    · rcases List.mem_cons.1 hx with rfl | hx
      · exact (ownsRow_lt hv hb2).1
      · rcases List.mem_cons.1 hx with rfl | hx
        · have e : bS = b := by simpa [Value.ownBlock] using hb2
          subst e
          exact (h.sl rfl).1
        · exact absurd hb2 (hnil _ x hx b)
end

end Go.Proofs.Ytlnhganinomaaaa
