/-
  Plain facts on a map in memory, told as the list of its keys and elements: look-up, store, delete, len, clear. No condition beyond those that each theorem states.
-/
import Derived.WalkKit
import Derived.Maps.Own
namespace Go.Proofs.Ytlnhganinomaaaa
open Go.RowKit Go.Maps
set_option linter.unusedSimpArgs false
set_option linter.unusedVariables false

/-- block b is a map of just these keys and elements, in the order in which they came -/
def IsMap (w : World) (b : Nat) (A : List (Value × Value)) : Prop :=
  ∃ es clock, w.heap[b]? = some (.map es clock) ∧ es.toList.map (fun e => (e.key, e.val)) = A

/-- the world with another object at a block -/
def setObjW (w : World) (b : Nat) (o : Obj) : World := { w with heap := w.heap.setIfInBounds b o }

theorem setObjW_ne {w : World} {b b' : Nat} {o : Obj} (h : b' ≠ b) : (setObjW w b o).heap[b']? = w.heap[b']? := by
  simp only [setObjW, Array.getElem?_setIfInBounds]
  rw [if_neg (Ne.symm h)]
theorem setObjW_same {w : World} {b : Nat} {o o' : Obj} (h : w.heap[b]? = some o') : (setObjW w b o).heap[b]? = some o := by
  have : b < w.heap.size := (Array.getElem?_eq_some_iff.1 h).1
  simp only [setObjW, Array.getElem?_setIfInBounds]
  simp [this]
theorem setObjW_below {w : World} {b B : Nat} {o : Obj} (h : B ≤ b) : Below B w (setObjW w b o) :=
  ⟨rfl, rfl, rfl, by simp [setObjW], fun k hk => setObjW_ne (by omega)⟩

theorem IsMap.congr {w w' : World} {b : Nat} {A : List (Value × Value)} (h : IsMap w b A) (he : w'.heap[b]? = w.heap[b]?) : IsMap w' b A := by
  obtain ⟨es, c, h1, h2⟩ := h
  exact ⟨es, c, he.trans h1, h2⟩

theorem IsMap.new (w : World) : IsMap (w.alloc (.map #[] 0)) w.heap.size [] :=
  ⟨#[], 0, by show (w.heap.push _)[w.heap.size]? = _; simp, rfl⟩

theorem IsMap.lt {w : World} {b : Nat} {A : List (Value × Value)} (h : IsMap w b A) : b < w.heap.size := by
  obtain ⟨es, c, h1, h2⟩ := h
  exact (Array.getElem?_eq_some_iff.1 h1).1

section
variable {P : Program} {t k e : TypeId} {w : World} {b : Nat} {A : List (Value × Value)}

theorem IsMap.find (h : IsMap w b A) (K : Keyed P k) (hk : ∀ p ∈ A, ∃ l, keyOf P k p.1 = some l) {key : Value} {kl : Lit} (hkey : keyOf P k key = some kl) :
    ∃ es clock, w.heap[b]? = some (.map es clock) ∧ es.toList.map (fun e => (e.key, e.val)) = A ∧
      (((Instr.findKey k key es.toList).run P w = .ok none w ∧ ∀ p ∈ A, p.1 ≠ key) ∨
      ∃ j v, (Instr.findKey k key es.toList).run P w = .ok (some (j, v)) w ∧ A[j]? = some (key, v)) := by
  obtain ⟨es, c, h1, h2⟩ := h
  refine ⟨es, c, h1, h2, ?_⟩
  have hks : ∀ x ∈ es.toList, ∃ l, keyOf P k x.key = some l := by
    intro x hx
    exact hk (x.key, x.val) (by rw [← h2]; exact List.mem_map.2 ⟨x, hx, rfl⟩)
  rcases K.find w hkey es.toList hks with ⟨f1, f2⟩ | ⟨j, e0, f1, f2, f3⟩
  · left
    refine ⟨f1, ?_⟩
    intro p hp
    rw [← h2] at hp
    obtain ⟨x, hx, rfl⟩ := List.mem_map.1 hp
    exact f2 x hx
  · right
    refine ⟨j, e0.val, f1, ?_⟩
    rw [← h2, List.getElem?_map, f2]
    simp [f3]

/-- a look-up, with ok -/
theorem IsMap.look (h : IsMap w b A) (K : Keyed P k) (ht : P.underlying t = some (.map k e)) {z : Value} (hz : (zeroValue e).run P w = .ok z w)
    (hk : ∀ p ∈ A, ∃ l, keyOf P k p.1 = some l) {key : Value} {kl : Lit} (hkey : keyOf P k key = some kl) :
    ((Instr.lookup t (.map (some b)) key true).run P w = .ok (.tuple #[z, .bool false]) w ∧ ∀ p ∈ A, p.1 ≠ key) ∨
    ∃ v, (Instr.lookup t (.map (some b)) key true).run P w = .ok (.tuple #[v, .bool true]) w ∧ (key, v) ∈ A := by
  obtain ⟨es, c, hb, hA, h | ⟨j, v, h1, h2⟩⟩ := h.find K hk hkey
  · left
    exact ⟨by simp [Instr.lookup, run_underlying ht, MapKept.run_getObj_map hb, K.check w _ hkey, h.1, hz, Result.andThen], h.2⟩
  · right
    exact ⟨v, by simp [Instr.lookup, run_underlying ht, MapKept.run_getObj_map hb, K.check w _ hkey, h1, Result.andThen], List.mem_of_getElem? h2⟩

/-- a store at a new key -/
theorem IsMap.store_new (h : IsMap w b A) (K : Keyed P k) (ht : P.underlying t = some (.map k e)) (hk : ∀ p ∈ A, ∃ l, keyOf P k p.1 = some l)
    {key : Value} (val : Value) {kl : Lit} (hkey : keyOf P k key = some kl) (hn : ∀ p ∈ A, p.1 ≠ key) :
    ∃ o, (Instr.mapUpdate t (.map (some b)) key val).run P w = .ok () (setObjW w b o) ∧ IsMap (setObjW w b o) b (A ++ [(key, val)]) := by
  obtain ⟨es, c, hb, hA, h | ⟨j, v, h1, h2⟩⟩ := h.find K hk hkey
  · refine ⟨.map (es.push ⟨key, val, c⟩) (c + 1), ?_, ⟨_, _, setObjW_same hb, ?_⟩⟩
    · simp [Instr.mapUpdate, run_underlying ht, MapKept.run_getObj_map hb, K.check w false hkey, h.1, MapKept.run_setObj_map _ hb, Result.andThen, setObjW]
    · simp [hA]
  · exact absurd rfl (hn _ (List.mem_of_getElem? h2))

/-- a store at a key that is there -/
theorem IsMap.store_old {X Y : List (Value × Value)} {key v0 : Value} (h : IsMap w b (X ++ (key, v0) :: Y)) (K : Keyed P k) (ht : P.underlying t = some (.map k e))
    (hk : ∀ p ∈ X ++ (key, v0) :: Y, ∃ l, keyOf P k p.1 = some l) (val : Value) {kl : Lit} (hkey : keyOf P k key = some kl) (hX : ∀ p ∈ X, p.1 ≠ key) (hY : ∀ p ∈ Y, p.1 ≠ key) :
    ∃ o, (Instr.mapUpdate t (.map (some b)) key val).run P w = .ok () (setObjW w b o) ∧ IsMap (setObjW w b o) b (X ++ (key, val) :: Y) := by
  obtain ⟨es, c, hb, hA, h | ⟨j, v, h1, h2⟩⟩ := h.find K hk hkey
  · exact absurd rfl (h.2 (key, v0) (by simp))
  · have hj : j = X.length := by
      rcases Nat.lt_trichotomy j X.length with hj | hj | hj
      · rw [List.getElem?_append_left hj] at h2
        exact absurd rfl (hX _ (List.mem_of_getElem? h2))
      · exact hj
      · rw [List.getElem?_append_right (by omega), List.getElem?_cons] at h2
        rw [if_neg (by omega)] at h2
        exact absurd rfl (hY _ (List.mem_of_getElem? h2))
    have hlen : es.size = (X ++ (key, v0) :: Y).length := by rw [← hA]; simp
    have hjs : j < es.size := by rw [hlen, hj]; simp
    have hkj : es[j].key = key := by
      have := congrArg (fun l => l[j]?) hA
      simp only [List.getElem?_map, h2] at this
      simp [hjs] at this
      exact this.1
    refine ⟨.map (es.modify j fun e => { e with key := key, val := val }) c, ?_, ⟨_, _, setObjW_same hb, ?_⟩⟩
    · have hs := K.stays w hkey
      simp [Instr.mapUpdate, run_underlying ht, MapKept.run_getObj_map hb, K.check w false hkey, h1, MapKept.run_setObj_map _ hb, Result.andThen, setObjW, hjs, hkj, hs]
    · apply List.ext_getElem?
      intro i
      rw [List.getElem?_map, Array.getElem?_toList, Array.getElem?_modify]
      have := congrArg (fun l => l[i]?) hA
      simp only [List.getElem?_map, Array.getElem?_toList] at this
      by_cases hij : j = i
      · subst hij
        rw [if_pos rfl, hj, List.getElem?_append_right (Nat.le_refl _)]
        simp [← hj, hjs]
      · rw [if_neg hij, this]
        rcases Nat.lt_or_ge i X.length with hi | hi
        · rw [List.getElem?_append_left hi, List.getElem?_append_left hi]
        · rw [List.getElem?_append_right hi, List.getElem?_append_right hi, List.getElem?_cons, List.getElem?_cons, if_neg (by omega), if_neg (by omega)]

/-- a key that is there goes -/
theorem IsMap.drop {X Y : List (Value × Value)} {key v0 : Value} (h : IsMap w b (X ++ (key, v0) :: Y)) (K : Keyed P k) (ht : P.underlying t = some (.map k e))
    (hk : ∀ p ∈ X ++ (key, v0) :: Y, ∃ l, keyOf P k p.1 = some l) (ty : TypeId) {kl : Lit} (hkey : keyOf P k key = some kl) (hX : ∀ p ∈ X, p.1 ≠ key) (hY : ∀ p ∈ Y, p.1 ≠ key) :
    ∃ o, (Builtin.delete_ #[t, k] ty #[.map (some b), key]).run P w = .ok (.tuple #[]) (setObjW w b o) ∧ IsMap (setObjW w b o) b (X ++ Y) := by
  obtain ⟨es, c, hb, hA, h | ⟨j, v, h1, h2⟩⟩ := h.find K hk hkey
  · exact absurd rfl (h.2 (key, v0) (by simp))
  · have hj : j = X.length := by
      rcases Nat.lt_trichotomy j X.length with hj | hj | hj
      · rw [List.getElem?_append_left hj] at h2
        exact absurd rfl (hX _ (List.mem_of_getElem? h2))
      · exact hj
      · rw [List.getElem?_append_right (by omega), List.getElem?_cons] at h2
        rw [if_neg (by omega)] at h2
        exact absurd rfl (hY _ (List.mem_of_getElem? h2))
    have hlen : es.size = (X ++ (key, v0) :: Y).length := by rw [← hA]; simp
    have hjs : j < es.size := by rw [hlen, hj]; simp
    have hsub : (es.eraseIdxIfInBounds j).toList = es.toList.eraseIdx j := by
      unfold Array.eraseIdxIfInBounds
      rw [dif_pos hjs]
      simp
    refine ⟨.map (es.eraseIdxIfInBounds j) c, ?_, ⟨_, _, setObjW_same hb, ?_⟩⟩
    · simp [Builtin.delete_, run_underlying ht, MapKept.run_getObj_map hb, K.check w _ hkey, h1, MapKept.run_setObj_map _ hb, Result.andThen, setObjW]
    · rw [hsub, ChangeMaps.map_eraseIdx, hA, hj]
      simp [List.eraseIdx_append]

theorem IsMap.len (h : IsMap w b A) (ht : P.underlying t = some (.map k e)) (ty : TypeId) : (Builtin.len_ #[t] ty #[.map (some b)]).run P w = .ok (.int .i64 A.length) w := by
  obtain ⟨es, c, hb, hA⟩ := h
  subst hA
  simp [Builtin.len_, run_underlying ht, MapKept.run_getObj_map hb, Result.andThen, goInt]

theorem IsMap.clear (h : IsMap w b A) (ht : P.underlying t = some (.map k e)) (ty : TypeId) :
    ∃ o, (Builtin.clear_ #[t] ty #[.map (some b)]).run P w = .ok (.tuple #[]) (setObjW w b o) ∧ IsMap (setObjW w b o) b [] := by
  obtain ⟨es, c, hb, hA⟩ := h
  refine ⟨.map #[] c, ?_, ⟨_, _, setObjW_same hb, rfl⟩⟩
  simp [Builtin.clear_, run_underlying ht, MapKept.run_getObj_map hb, MapKept.run_setObj_map _ hb, Result.andThen, setObjW]
end
end Go.Proofs.Ytlnhganinomaaaa
