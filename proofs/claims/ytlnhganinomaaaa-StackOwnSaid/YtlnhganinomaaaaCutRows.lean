/-
  What Cut of package stack leaves of rows: plain facts. No condition.
-/
import Derived.Test.YtlnhganinomaaaaFresh
namespace Go.Proofs.Ytlnhganinomaaaa
open Go.RowKit Go.Maps
set_option linter.unusedSimpArgs false
set_option linter.unusedVariables false

def cutRow (m : Nat) (l : List Int) : List Int := l.filter (fun u => decide (u < (m : Int)))
def rowsAt (us : List (List Int)) (m k : Nat) (l : List Int) : List (List Int) := (us.take k).map (cutRow m) ++ l :: List.replicate (m - k - 1) []
def rowsTo (us : List (List Int)) (m k : Nat) : List (List Int) := (us.take k).map (cutRow m) ++ List.replicate (m - k) []
theorem rowsTo_zero (us : List (List Int)) (m : Nat) : rowsTo us m 0 = List.replicate m [] := by simp [rowsTo]
theorem rowsTo_all (us : List (List Int)) (m : Nat) : rowsTo us m m = (us.take m).map (cutRow m) := by simp [rowsTo]
theorem rowsTo_at (us : List (List Int)) {m k : Nat} (h : k < m) : rowsTo us m k = rowsAt us m k [] := by
  unfold rowsTo rowsAt
  rw [show m - k = (m - k - 1) + 1 from by omega, List.replicate_succ, show m - k - 1 + 1 - 1 = m - k - 1 from by omega]
theorem rowsAt_done (us : List (List Int)) {m k : Nat} (h : k < m) (hk : k < us.length) : rowsAt us m k (cutRow m us[k]) = rowsTo us m (k + 1) := by
  unfold rowsTo rowsAt
  rw [List.take_succ_eq_append_getElem hk, List.map_append, show m - (k + 1) = m - k - 1 from by omega]
  simp
theorem rowsAt_len (us : List (List Int)) {m k : Nat} (l : List Int) (h : k < m) (hk : k < us.length) : (rowsAt us m k l).length = m := by
  simp [rowsAt]; omega
theorem rowsAt_get (us : List (List Int)) {m k : Nat} (l : List Int) (hk : k < us.length) : (rowsAt us m k l)[k]? = some l := by
  unfold rowsAt
  rw [List.getElem?_append_right (by simp; omega)]
  simp [Nat.min_eq_left (Nat.le_of_lt hk)]
theorem rowsAt_set (us : List (List Int)) {m k : Nat} (l l' : List Int) (hk : k < us.length) : (rowsAt us m k l).set k l' = rowsAt us m k l' := by
  unfold rowsAt
  rw [List.set_append_right _ _ (by simp; omega)]
  simp [Nat.min_eq_left (Nat.le_of_lt hk)]
theorem cutRow_take_yes (m : Nat) (l : List Int) {j : Nat} (hj : j < l.length) (h : l[j] < (m : Int)) : cutRow m (l.take (j + 1)) = cutRow m (l.take j) ++ [l[j]] := by
  unfold cutRow
  rw [List.take_succ_eq_append_getElem hj, List.filter_append]
  simp [h]
theorem cutRow_take_no (m : Nat) (l : List Int) {j : Nat} (hj : j < l.length) (h : ¬ l[j] < (m : Int)) : cutRow m (l.take (j + 1)) = cutRow m (l.take j) := by
  unfold cutRow
  rw [List.take_succ_eq_append_getElem hj, List.filter_append]
  simp [h]
theorem cutInv {N m : Nat} {pl : List (Int × Int)} {us us' : List (List Int)} (hI : Inv N pl us) (hm1 : 1 ≤ m) (hm2 : m ≤ pl.length) (hl : us'.length = m) (hs : ∀ l ∈ us', ∃ l0 ∈ us, l.Sublist (cutRow m l0)) : Inv N (pl.take m) us' := by
  have hlen : (pl.take m).length = m := by rw [List.length_take]; omega
  refine ⟨by omega, ?_, hI.nd.sublist (List.take_sublist _ _), ?_, by have := hI.size; omega, ?_⟩
  · obtain ⟨r, rfl, hr⟩ := hI.root
    obtain ⟨m', rfl⟩ : ∃ m', m = m' + 1 := ⟨m - 1, by omega⟩
    exact ⟨r.take m', by rw [List.take_succ_cons], fun p hp => hr p (List.mem_of_mem_take hp)⟩
  · intro l hlm
    obtain ⟨l0, h0, hsub⟩ := hs l hlm
    refine ⟨((hI.ups l0 h0).1.sublist List.filter_sublist).sublist hsub, fun u hu => ?_⟩
    have := List.mem_filter.1 (hsub.subset hu)
    rw [hlen]
    exact ⟨((hI.ups l0 h0).2 u this.1).1, by simpa using this.2⟩
  · intro l hlm
    obtain ⟨l0, h0, hsub⟩ := hs l hlm
    have h1 := hsub.length_le
    have h2 := List.length_filter_le (fun u => decide (u < (m : Int))) l0
    have h3 := hI.rsize l0 h0
    unfold cutRow at h1
    omega
theorem rowsAt_sub {us : List (List Int)} {m k : Nat} {l : List Int} (hk : k < us.length) (hl : l.Sublist (cutRow m us[k])) : ∀ x ∈ rowsAt us m k l, ∃ l0 ∈ us, x.Sublist (cutRow m l0) := by
  intro x hx
  unfold rowsAt at hx
  rcases List.mem_append.1 hx with hx | hx
  · obtain ⟨y, hy, rfl⟩ := List.mem_map.1 hx
    exact ⟨y, List.mem_of_mem_take hy, List.Sublist.refl _⟩
  · rcases List.mem_cons.1 hx with rfl | hx
    · exact ⟨_, List.getElem_mem hk, hl⟩
    · rw [List.eq_of_mem_replicate hx]
      exact ⟨_, List.getElem_mem hk, List.nil_sublist _⟩
theorem rowsTo_sub {us : List (List Int)} {m k : Nat} (hk : 0 < us.length) : ∀ x ∈ rowsTo us m k, ∃ l0 ∈ us, x.Sublist (cutRow m l0) := by
  intro x hx
  unfold rowsTo at hx
  rcases List.mem_append.1 hx with hx | hx
  · obtain ⟨y, hy, rfl⟩ := List.mem_map.1 hx
    exact ⟨y, List.mem_of_mem_take hy, List.Sublist.refl _⟩
  · rw [List.eq_of_mem_replicate hx]
    exact ⟨_, List.getElem_mem hk, List.nil_sublist _⟩
theorem cutRow_take_sub (m : Nat) (l : List Int) (j : Nat) : (cutRow m (l.take j)).Sublist (cutRow m l) := (List.take_sublist j l).filter _

/-- a stack that is being cut out of another one -/
def CutAt (w W : World) (s' m : Nat) (qn : List (Value × Value)) (pl : List (Int × Int)) (us' : List (List Int)) : Prop :=
  ∃ ql pv uv vs mn ml, St W w.heap.size s' qn ql (pl.take m) us' pv uv vs mn ml ∧ ql.Perm (linksOf us') ∧ Below w.heap.size w W
theorem linksOf_nils (m : Nat) : linksOf (List.replicate m []) = [] := by
  have : ∀ j, linksFrom j (List.replicate m []) = [] := by
    induction m with
    | zero => intro j; rfl
    | succ m ih => intro j; rw [List.replicate_succ, linksFrom, ih]; rfl
  exact this 0
theorem nodes_ok_take {N : Nat} {pl : List (Int × Int)} {us : List (List Int)} (hI : Inv N pl us) (k : Nat) : ∀ p ∈ nodesOf (pl.take k), ∃ l, keyOf Try.prog 46 p.1 = some l := by
  intro p hp
  obtain ⟨i, hi, h0, rfl⟩ := mem_nodesOf.1 hp
  have hi' : i < pl.length := by rw [List.length_take] at hi; omega
  have := hI.ok i hi' h0
  rw [List.getElem_take]
  exact key46 this.1.2 this.2.2
theorem nodes_not_take {N : Nat} {pl : List (Int × Int)} {us : List (List Int)} (hI : Inv N pl us) (k : Nat) (hk : k < pl.length) : ∀ p ∈ nodesOf (pl.take k), p.1 ≠ .agg #[.int .i64 pl[k].1, .int .i64 pl[k].2] := by
  intro p hp e
  obtain ⟨i, hi, h0, rfl⟩ := mem_nodesOf.1 hp
  have hi' : i < k := by rw [List.length_take] at hi; omega
  rw [List.getElem_take] at e
  have := agg2_inj (show agg2 pl[i].1 pl[i].2 = agg2 pl[k].1 pl[k].2 from e)
  have e2 : i = k := (List.getElem_inj (h₀ := (by omega : i < pl.length)) (h₁ := hk) hI.nd).1 (by ext <;> simp [this.1, this.2])
  omega
theorem links_not {us' : List (List Int)} {ql : List (Value × Value)} {k : Nat} (hk : k < us'.length) {u : Int} (hu : u ∉ us'[k]) (hq : ql.Perm (linksOf us')) : ∀ q ∈ ql, q.1 ≠ agg2 k u := by
  intro q hqm e
  obtain ⟨i, hi, x, hx, rfl⟩ := mem_linksOf.1 (hq.mem_iff.1 hqm)
  have := agg2_inj e
  obtain rfl : i = k := by omega
  exact hu (this.2 ▸ hx)
end Go.Proofs.Ytlnhganinomaaaa
