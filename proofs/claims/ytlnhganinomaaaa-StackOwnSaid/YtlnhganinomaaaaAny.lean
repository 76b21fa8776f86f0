/-
  Contracts of the calls of package stack, of a stack left open: Put of whatever, Cut, Clone; and of works. No condition beyond those that each theorem states.
-/
import Derived.Test.YtlnhganinomaaaaCut
import Derived.Test.YtlnhganinomaaaaNo
namespace Go.Proofs.Ytlnhganinomaaaa
open Go.RowKit Go.Maps
set_option linter.unusedSimpArgs false
set_option linter.unusedVariables false

/-- what a put answers, and makes -/
def PutRes (pl : List (Int × Int)) (us : List (List Int)) (a b up : Int) (node : Nat) (fresh link : Bool) (er : Int) (pl' : List (Int × Int)) (us' : List (List Int)) : Prop :=
  (er = 0 ∧ PutIs pl us a b up node fresh link pl' us') ∨ (er = 2 ∧ (a < 0 ∨ b < 0 ∨ ¬ (0 ≤ up ∧ up < pl.length)) ∧ node = 0 ∧ fresh = false ∧ link = false ∧ pl' = pl ∧ us' = us)

theorem Inv.mono {N N' : Nat} {pl : List (Int × Int)} {us : List (List Int)} (h : Inv N pl us) (hN : N ≤ N') : Inv N' pl us :=
  ⟨h.len, h.root, h.nd, h.ups, by have := h.size; omega, fun l hl => by have := h.rsize l hl; omega⟩

theorem Stk.base {w : World} {B s : Nat} {pl : List (Int × Int)} {us : List (List Int)} {bs : List Nat} (h : Stk w B s pl us bs) : ∀ b ∈ bs, B ≤ b ∧ b < w.heap.size := by
  obtain ⟨ql, pv, uv, vs, mn, ml, hst, hql, rfl⟩ := h
  exact fun b hb => ⟨hst.base b hb, hst.lt b hb⟩
theorem Stk.below {w w' : World} {B s : Nat} {pl : List (Int × Int)} {us : List (List Int)} {bs : List Nat} (h : Stk w B s pl us bs) {C : Nat} (hC : w.heap.size ≤ C) (hb : Below C w w') : Stk w' B s pl us bs := by
  obtain ⟨ql, pv, uv, vs, mn, ml, hst, hql, rfl⟩ := h
  exact ⟨ql, pv, uv, vs, mn, ml, hst.below (hb.mono hC), hql, rfl⟩

theorem put_any {w : World} {B s N : Nat} {pl : List (Int × Int)} {us : List (List Int)} {bs : List Nat} (h : Stk w B s pl us bs) (hI : Inv N pl us) (hN : N ≤ 1000) (hB : B ≤ w.heap.size)
    (a b up : Int) (ha : i64ok a) (hb : i64ok b) :
    Calls Try.prog 6 #[.pointer (some ⟨s, 0, none⟩), .int .i64 a, .int .i64 b, .int .i64 up] w fun e w' => ∃ node fresh link er pl' us' bs', e = .returned (.tuple #[.int .i64 (node : Nat), .bool fresh, .bool link, .int .i64 er]) ∧
      PutRes pl us a b up node fresh link er pl' us' ∧ Stk w' B s pl' us' bs' ∧ Inv (N + 1) pl' us' ∧ Below B w w' := by
  have hbs := h.base
  obtain ⟨ql, pv, uv, vs, mn, ml, hst, hql, rfl⟩ := h
  by_cases hbad : a < 0 ∨ b < 0 ∨ ¬ (0 ≤ up ∧ up < pl.length)
  · refine (put_bad hst hI hN a b up hbad).mono ?_
    rintro e w' ⟨rfl, rfl⟩
    exact ⟨0, false, false, 2, pl, us, _, rfl, Or.inr ⟨rfl, hbad, rfl, rfl, rfl, rfl, rfl⟩, ⟨ql, pv, uv, vs, mn, ml, hst, hql, rfl⟩, hI.mono (by omega), Below.refl _ _⟩
  · refine (put_ok hst hI hN hql hB a b up (by omega) ha (by omega) hb (by omega)).mono ?_
    rintro e w' ⟨node, fresh, link, pl', us', bs', rfl, h1, h2, h3, h4, h5⟩
    exact ⟨node, fresh, link, 0, pl', us', bs', rfl, Or.inl ⟨rfl, h1⟩, h2, h5, h3.below hB (fun g hg => (hbs g hg).1)⟩

theorem cut_any {w : World} {B s N : Nat} {pl : List (Int × Int)} {us : List (List Int)} {bs : List Nat} (h : Stk w B s pl us bs) (hI : Inv N pl us) (hN : N ≤ 1000) (n : Int) (hn : i64ok n) :
    Calls Try.prog 7 #[.pointer (some ⟨s, 0, none⟩), .int .i64 n] w fun e w' => ∃ s' bs', e = .returned (.pointer (some ⟨s', 0, none⟩)) ∧ Stk w' w.heap.size s' (pl.take (cutN n pl.length)) ((us.take (cutN n pl.length)).map (cutRow (cutN n pl.length))) bs' ∧ Below w.heap.size w w' := by
  obtain ⟨ql, pv, uv, vs, mn, ml, hst, hql, rfl⟩ := h
  exact cut_ok hst hI hN n hn
theorem cut_inv {N : Nat} {pl : List (Int × Int)} {us : List (List Int)} (hI : Inv N pl us) (n : Int) : Inv N (pl.take (cutN n pl.length)) ((us.take (cutN n pl.length)).map (cutRow (cutN n pl.length))) := by
  have hc := cutN_le n hI.pos
  have hl := hI.len
  refine cutInv hI hc.1 hc.2 (by simp; omega) ?_
  intro l hlm
  obtain ⟨l0, h0, rfl⟩ := List.mem_map.1 hlm
  exact ⟨l0, List.mem_of_mem_take h0, List.Sublist.refl _⟩

theorem long_any {w : World} {B s : Nat} {pl : List (Int × Int)} {us : List (List Int)} {bs : List Nat} (h : Stk w B s pl us bs) : Calls Try.prog 8 #[.pointer (some ⟨s, 0, none⟩)] w fun e w' => e = .returned (.int .i64 pl.length) ∧ w = w' := by
  obtain ⟨ql, pv, uv, vs, mn, ml, hst, hql, rfl⟩ := h
  exact long_st hst
theorem links_any {w : World} {B s : Nat} {pl : List (Int × Int)} {us : List (List Int)} {bs : List Nat} (h : Stk w B s pl us bs) : Calls Try.prog 13 #[.pointer (some ⟨s, 0, none⟩)] w fun e w' => e = .returned (.int .i64 ((linksOf us).length : Nat)) ∧ w = w' := by
  obtain ⟨ql, pv, uv, vs, mn, ml, hst, hql, rfl⟩ := h
  rw [← hql.length_eq]
  exact links_st hst
theorem ret_any {w : World} {B s N : Nat} {pl : List (Int × Int)} {us : List (List Int)} {bs : List Nat} (h : Stk w B s pl us bs) (hI : Inv N pl us) (hN : N ≤ 1000) (i : Nat) (hi : i < pl.length) : Calls Try.prog 10 #[.pointer (some ⟨s, 0, none⟩), .int .i64 i] w fun e w' => e = .returned (.int .i64 pl[i].1) ∧ w = w' := by
  obtain ⟨ql, pv, uv, vs, mn, ml, hst, hql, rfl⟩ := h
  exact ret_st hst (by have := hI.size; omega) i hi
theorem at_any {w : World} {B s N : Nat} {pl : List (Int × Int)} {us : List (List Int)} {bs : List Nat} (h : Stk w B s pl us bs) (hI : Inv N pl us) (hN : N ≤ 1000) (i : Nat) (hi : i < pl.length) : Calls Try.prog 11 #[.pointer (some ⟨s, 0, none⟩), .int .i64 i] w fun e w' => e = .returned (.int .i64 pl[i].2) ∧ w = w' := by
  obtain ⟨ql, pv, uv, vs, mn, ml, hst, hql, rfl⟩ := h
  exact at_st hst (by have := hI.size; omega) i hi
theorem find_any {w : World} {B s N : Nat} {pl : List (Int × Int)} {us : List (List Int)} {bs : List Nat} (h : Stk w B s pl us bs) (hI : Inv N pl us) (hN : N ≤ 1000) (i : Nat) (hi : i < pl.length) (h0 : 0 < i) :
    Calls Try.prog 12 #[.pointer (some ⟨s, 0, none⟩), .int .i64 pl[i].1, .int .i64 pl[i].2] w fun e w' => e = .returned (.int .i64 i) ∧ w = w' := by
  obtain ⟨ql, pv, uv, vs, mn, ml, hst, hql, rfl⟩ := h
  exact find_st hst hI hN i hi h0
theorem ups_any {w : World} {B s N : Nat} {pl : List (Int × Int)} {us : List (List Int)} {bs : List Nat} (h : Stk w B s pl us bs) (hI : Inv N pl us) (hN : N ≤ 1000) (i : Nat) (hi : i < us.length) :
    Calls Try.prog 9 #[.pointer (some ⟨s, 0, none⟩), .int .i64 i] w fun e w' => ∃ v, e = .returned v ∧ w'.ownsRow w.heap.size 3 1 v us[i].length (us[i].map (Value.int .i64)) ∧ Below w.heap.size w w' := by
  obtain ⟨ql, pv, uv, vs, mn, ml, hst, hql, rfl⟩ := h
  exact ups_st hst hI hN i hi

theorem inv_new : Inv 0 [(-1, 0)] [[]] := by
  refine ⟨rfl, ⟨[], rfl, by simp⟩, by simp, by simp, by simp, by simp⟩

theorem clone_any {w : World} {B s N : Nat} {pl : List (Int × Int)} {us : List (List Int)} {bs : List Nat} (h : Stk w B s pl us bs) (hI : Inv N pl us) (hN : N ≤ 1000) :
    Calls Try.prog 15 #[.pointer (some ⟨s, 0, none⟩)] w fun e w' => ∃ s' bs', e = .returned (.pointer (some ⟨s', 0, none⟩)) ∧ Stk w' w.heap.size s' pl us bs' ∧ Below w.heap.size w w' := by
  have hl := long_any h
  have hps := hI.size
  have hc := cut_any h hI hN pl.length (by unfold i64ok; omega)
  have e1 : cutN pl.length pl.length = pl.length := by have := hI.pos; unfold cutN; omega
  have e2 : (us.take pl.length).map (cutRow pl.length) = us := by
    rw [List.take_of_length_le (by have := hI.len; omega)]
    conv => rhs; rw [← List.map_id us]
    refine List.map_congr_left fun l hl => ?_
    unfold cutRow
    rw [List.filter_eq_self.2]; · rfl
    intro u hu
    simpa using ((hI.ups l hl).2 u hu).2
  rw [e1, e2, List.take_of_length_le (Nat.le_refl _)] at hc
  clear e1 e2
  go_enter Try.func15, Try.ntmps15
  go_wp2_with (first | (go_at_call 8; refine hl.mono ?_; rintro e w' ⟨rfl, rfl⟩) | (go_at_call 7; refine hc.mono ?_; rintro e w' ⟨s', bs', rfl, h1, h2⟩))
  go_ret
  exact ⟨s', bs', rfl, h1, h2⟩

end Go.Proofs.Ytlnhganinomaaaa
