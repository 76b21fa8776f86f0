/-
  Plain law: what is shown of two texts is alike just if they are; it has signs alone, and none that is low. No condition beyond those that each theorem states.
-/
import Derived.Test.YtpmgccjhflcoiaaDoorRShow
import Derived.Test.YtpmgccjhflcoiaaDoorUBackWalk
namespace Go.Proofs.YtpmgccjhflcoiaaDoor
open Go.RowKit
set_option linter.unusedSimpArgs false
set_option linter.unusedVariables false

def isDig (c : UInt8) : Prop := (48 ≤ c.toNat ∧ c.toNat ≤ 57) ∨ (97 ≤ c.toNat ∧ c.toNat ≤ 102)
theorem hexd_dig (d : Nat) (hd : d < 16) : isDig (hexd d) ∧ (if (hexd d).toNat < 58 then (hexd d).toNat - 48 else (hexd d).toNat - 87) = d := by
  unfold isDig
  rcases (show d = 0 ∨ d = 1 ∨ d = 2 ∨ d = 3 ∨ d = 4 ∨ d = 5 ∨ d = 6 ∨ d = 7 ∨ d = 8 ∨ d = 9 ∨ d = 10 ∨ d = 11 ∨ d = 12 ∨ d = 13 ∨ d = 14 ∨ d = 15 by omega) with rfl | rfl | rfl | rfl | rfl | rfl | rfl | rfl | rfl | rfl | rfl | rfl | rfl | rfl | rfl | rfl
  all_goals decide +kernel
/-- the number that digits tell -/
def hval (l : List UInt8) : Nat := l.foldl (fun a c => 16 * a + (if c.toNat < 58 then c.toNat - 48 else c.toNat - 87)) 0
theorem hexL_ok (m : Nat) : ∀ u, u < 16 ^ m → (∀ c ∈ hexL u, isDig c) ∧ hval (hexL u) = u := by
  induction m with
  | zero =>
    intro u hu
    obtain rfl : u = 0 := by omega
    rw [hexL_low 0 (by omega)]
    exact ⟨fun c hc => by rw [List.mem_singleton] at hc; subst hc; exact (hexd_dig 0 (by omega)).1, by decide +kernel⟩
  | succ m ih =>
    intro u hu
    by_cases h : u < 16
    · rw [hexL_low u h]
      refine ⟨fun c hc => by rw [List.mem_singleton] at hc; subst hc; exact (hexd_dig u h).1, ?_⟩
      have := (hexd_dig u h).2
      unfold hval
      simp only [List.foldl_cons, List.foldl_nil]
      omega
    · obtain ⟨h1, h2⟩ := ih (u / 16) (by rw [Nat.pow_succ] at hu; omega)
      have hd := hexd_dig (u % 16) (by omega)
      rw [hexL_high u h]
      refine ⟨fun c hc => ?_, ?_⟩
      · rw [List.mem_append, List.mem_singleton] at hc
        rcases hc with hc | rfl
        · exact h1 c hc
        · exact hd.1
      · unfold hval at h2 ⊢
        rw [List.foldl_append, h2]
        simp only [List.foldl_cons, List.foldl_nil]
        have := hd.2
        omega
theorem hexL_inj {u v : Nat} (hu : u < 256) (hv : v < 256) (h : hexL u = hexL v) : u = v := by
  have h1 := (hexL_ok 2 u (by omega)).2
  have h2 := (hexL_ok 2 v (by omega)).2
  rw [h] at h1
  exact h1.symm.trans h2
theorem split125 (D E X Y : List UInt8) (hD : ∀ c ∈ D, isDig c) (hE : ∀ c ∈ E, isDig c) (h : D ++ 125 :: X = E ++ 125 :: Y) : D = E ∧ X = Y := by
  have no : ¬ isDig 125 := by unfold isDig; decide
  induction D generalizing E with
  | nil =>
    cases E with
    | nil => simp at h; exact ⟨rfl, h⟩
    | cons e E =>
      simp at h
      exact absurd (h.1 ▸ hE e (by simp)) no
  | cons d D ih =>
    cases E with
    | nil =>
      simp at h
      exact absurd (h.1 ▸ hD d (by simp)) no
    | cons e E =>
      simp at h
      obtain ⟨h1, h2⟩ := ih E (fun c hc => hD c (by simp [hc])) (fun c hc => hE c (by simp [hc])) h.2
      exact ⟨by rw [h.1, h1], h2⟩
/-- an item's bytes, and how it is shown -/
def encL (r : Nat) : List UInt8 := (encN r).map UInt8.ofNat
def Form (L I : List UInt8) : Prop :=
  (L = [92, 92] ∧ I = [92]) ∨ (∃ u, u < 256 ∧ L = [92, 117, 123] ++ hexL u ++ [125] ∧ I = [UInt8.ofNat u]) ∨ (∃ r : Nat, isSign r ∧ 32 ≤ r ∧ r ≠ 127 ∧ r ≠ 92 ∧ L = encL r ∧ I = encL r)
theorem encL_low (r : Nat) (h : r < 128) : encL r = [UInt8.ofNat r] := by
  unfold encL encN
  rw [if_neg (by omega), if_pos h]
  rfl
theorem ext_list (s : ByteArray) (i n : Nat) : (s.extract i (i + n)).data.toList = (s.data.toList.drop i).take n := by
  rw [ByteArray.data_extract]
  simp
theorem piece_form (s : ByteArray) (i : Nat) (hi : i < s.size) : Form (piece s i).data.toList ((s.data.toList.drop i).take (wid s i)) := by
  rw [← ext_list]
  rcases dec_cases s i hi with ⟨n, h1, h2, h3, h4, h5, h6, h7⟩ | ⟨h0, h6⟩
  · have hm : bytesOf (encN (racc s i n (n - 1))) = s.extract i (i + n) := by
      unfold matchAt at h4
      exact of_decide_eq_true h4
    have hw : wid s i = n := by unfold wid; rw [h6, if_pos rfl, h7]
    obtain ⟨b1, _, _⟩ := dec_bounds s i
    have hr1 : (dec s i).1 = racc s i n (n - 1) := by rw [h7]
    have hr2 : (dec s i).2 = n := by rw [h7]
    unfold piece
    rw [h6, if_pos rfl, hr1, hr2, hw, ← hm]
    rw [hr1] at b1
    generalize racc s i n (n - 1) = r at *
    have hs : isSign r := by
      have hz : (bytesOf (encN r)).size = n := by rw [hm, ext_len s i (i + n) h3]; omega
      refine ⟨by omega, by omega, fun hsur => ?_⟩
      rw [enc_size] at hz
      unfold encN at hz
      rw [if_pos (by omega)] at hz
      simp at hz
      omega
    have he : (bytesOf (encN r)).data.toList = encL r := rfl
    by_cases h92 : r = 92
    · subst h92
      rw [if_pos rfl, he]
      exact Or.inl ⟨rfl, encL_low 92 (by omega)⟩
    · rw [if_neg h92]
      by_cases hp : 32 ≤ r ∧ r ≠ 127
      · rw [if_pos hp, he]
        exact Or.inr (Or.inr ⟨r, hs, hp.1, hp.2, h92, rfl, rfl⟩)
      · rw [if_neg hp, he, encL_low r (by omega)]
        refine Or.inr (Or.inl ⟨r, by omega, ?_, rfl⟩)
        unfold escS
        rw [ByteArray.data_append, ByteArray.data_append, Array.toList_append, Array.toList_append]
  · have hw : wid s i = 1 := by unfold wid; rw [h6]; simp
    have hb := byteAt_lt s i
    rw [hw]
    refine Or.inr (Or.inl ⟨byteAt s i, hb, ?_, ?_⟩)
    · unfold piece
      rw [h6, if_neg (by simp)]
      unfold escS
      rw [ByteArray.data_append, ByteArray.data_append, Array.toList_append, Array.toList_append]
    · rw [ext_list, byteAt_l s i hi]
      have hl : i < s.data.toList.length := by rw [← Lib.size_eq]; exact hi
      rw [List.drop_eq_getElem_cons hl, List.getD_eq_getElem?_getD, List.getElem?_eq_getElem hl]
      simp
theorem encL_first (r : Nat) (hs : isSign r) (h92 : r ≠ 92) : ∃ c l, encL r = c :: l ∧ c ≠ 92 := by
  have hs2 := hs.2.2
  have hs1 := hs.2.1
  unfold encL encN
  rw [if_neg (by omega)]
  have key : ∀ x : Nat, x < 256 → x ≠ 92 → UInt8.ofNat x ≠ 92 := by
    intro x hx hn he
    have := congrArg UInt8.toNat he
    rw [UInt8.toNat_ofNat', Nat.mod_eq_of_lt (by omega)] at this
    exact hn this
  split
  · exact ⟨_, _, rfl, key r (by omega) h92⟩
  · split
    · exact ⟨_, _, rfl, key _ (by omega) (by omega)⟩
    · split
      · exact ⟨_, _, rfl, key _ (by omega) (by omega)⟩
      · exact ⟨_, _, rfl, key _ (by omega) (by omega)⟩
theorem bytes_cat (r : Nat) (X : List UInt8) : (bytesOf (encN r) ++ (⟨X.toArray⟩ : ByteArray)) = ⟨(encL r ++ X).toArray⟩ := by
  apply bytes_ext
  rw [ByteArray.data_append, Array.toList_append]
  rfl
theorem encL_split (r q : Nat) (hr : isSign r) (hq : isSign q) (X Y : List UInt8) (h : encL r ++ X = encL q ++ Y) : r = q ∧ X = Y := by
  have h1 := (enc_first r hr ⟨X.toArray⟩).2
  have h2 := (enc_first q hq ⟨Y.toArray⟩).2
  rw [bytes_cat, h] at h1
  rw [bytes_cat, h1] at h2
  obtain rfl : r = q := congrArg Prod.fst h2
  exact ⟨rfl, List.append_cancel_left h⟩
/-- no shown item is the beginning of another one; each tells its bytes -/
theorem form_split {L I M J X Y : List UInt8} (h1 : Form L I) (h2 : Form M J) (h : L ++ X = M ++ Y) : I = J ∧ X = Y := by
  rcases h1 with ⟨rfl, rfl⟩ | ⟨u, hu, rfl, rfl⟩ | ⟨r, hr, _, _, r92, rfl, rfl⟩
  · rcases h2 with ⟨rfl, rfl⟩ | ⟨v, hv, rfl, rfl⟩ | ⟨q, hq, _, _, q92, rfl, rfl⟩
    · simp at h; exact ⟨rfl, h⟩
    · simp at h
    · obtain ⟨c, l, e, hc⟩ := encL_first q hq q92
      rw [e] at h
      simp at h
      exact absurd h.1.symm hc
  · rcases h2 with ⟨rfl, rfl⟩ | ⟨v, hv, rfl, rfl⟩ | ⟨q, hq, _, _, q92, rfl, rfl⟩
    · simp at h
    · simp only [List.append_assoc, List.cons_append, List.nil_append, List.cons.injEq, true_and] at h
      obtain ⟨e1, e2⟩ := split125 _ _ X Y (hexL_ok 2 u (by omega)).1 (hexL_ok 2 v (by omega)).1 h
      obtain rfl := hexL_inj hu hv e1
      exact ⟨rfl, e2⟩
    · obtain ⟨c, l, e, hc⟩ := encL_first q hq q92
      rw [e] at h
      simp at h
      exact absurd h.1.symm hc
  · rcases h2 with ⟨rfl, rfl⟩ | ⟨v, hv, rfl, rfl⟩ | ⟨q, hq, _, _, q92, rfl, rfl⟩
    · obtain ⟨c, l, e, hc⟩ := encL_first r hr r92
      rw [e] at h
      simp at h
      exact absurd h.1 hc
    · obtain ⟨c, l, e, hc⟩ := encL_first r hr r92
      rw [e] at h
      simp at h
      exact absurd h.1 hc
    · obtain ⟨rfl, e2⟩ := encL_split r q hr hq X Y h
      exact ⟨rfl, e2⟩
theorem form_ne {L I : List UInt8} (h : Form L I) : L ≠ [] := by
  rcases h with ⟨rfl, _⟩ | ⟨u, _, rfl, _⟩ | ⟨r, hr, _, _, r92, rfl, _⟩
  · simp
  · simp
  · obtain ⟨c, l, e, _⟩ := encL_first r hr r92
    rw [e]; simp
/-- what is shown of the items from a place on -/
def shownF (s : ByteArray) (q : Nat) : Nat → List UInt8
  | 0 => []
  | k + 1 => (piece s q).data.toList ++ shownF s (q + wid s q) k
theorem posF_front (s : ByteArray) (q k : Nat) : posF s q (k + 1) = posF s (q + wid s q) k := by
  induction k with
  | zero => rfl
  | succ k ih =>
    show posF s q (k + 1) + wid s (posF s q (k + 1)) = posF s (q + wid s q) k + wid s (posF s (q + wid s q) k)
    rw [ih]
theorem shownF_back (s : ByteArray) (q k : Nat) : shownF s q (k + 1) = shownF s q k ++ (piece s (posF s q k)).data.toList := by
  induction k generalizing q with
  | zero =>
    show (piece s q).data.toList ++ [] = [] ++ (piece s q).data.toList
    simp
  | succ k ih =>
    show (piece s q).data.toList ++ shownF s (q + wid s q) (k + 1) = ((piece s q).data.toList ++ shownF s (q + wid s q) k) ++ (piece s (posF s q (k + 1))).data.toList
    rw [ih, posF_front, List.append_assoc]
theorem shown_F (s : ByteArray) (k : Nat) : shownL s k = shownF s 0 k := by
  induction k with
  | zero => rfl
  | succ k ih =>
    rw [shownF_back, ← ih, posF_zero]
    rfl
theorem shownF_inj (a b : ByteArray) : ∀ (d e p q : Nat), posF a p d = a.size → posF b q e = b.size → shownF a p d = shownF b q e → a.data.toList.drop p = b.data.toList.drop q := by
  intro d
  induction d with
  | zero =>
    intro e p q h1 h2 h
    have hp : p = a.size := h1
    cases e with
    | zero =>
      have hq : q = b.size := h2
      rw [hp, hq, List.drop_of_length_le (by rw [← Lib.size_eq]; exact Nat.le_refl _), List.drop_of_length_le (by rw [← Lib.size_eq]; exact Nat.le_refl _)]
    | succ e =>
      have hq : q < b.size := by have := posF_lt b q e; have := posF_ge b q e; omega
      have hn := form_ne (piece_form b q hq)
      have h' : [] = (piece b q).data.toList ++ shownF b (q + wid b q) e := h
      exact absurd (List.append_eq_nil_iff.1 h'.symm).1 hn
  | succ d ih =>
    intro e p q h1 h2 h
    have hp : p < a.size := by have := posF_lt a p d; have := posF_ge a p d; omega
    have fp := piece_form a p hp
    cases e with
    | zero =>
      have h' : (piece a p).data.toList ++ shownF a (p + wid a p) d = [] := h
      exact absurd (List.append_eq_nil_iff.1 h').1 (form_ne fp)
    | succ e =>
      have hq : q < b.size := by have := posF_lt b q e; have := posF_ge b q e; omega
      obtain ⟨e1, e2⟩ := form_split fp (piece_form b q hq) h
      rw [posF_front] at h1 h2
      have := ih e _ _ h1 h2 e2
      rw [← List.take_append_drop (wid a p) (a.data.toList.drop p), ← List.take_append_drop (wid b q) (b.data.toList.drop q), e1, List.drop_drop, List.drop_drop, this]
theorem shown_inj (a b : ByteArray) (m n : Nat) (hm : pos a m = a.size) (hn : pos b n = b.size) (h : shownL a m = shownL b n) : a = b := by
  apply bytes_ext
  rw [shown_F, shown_F] at h
  have := shownF_inj a b m n 0 0 (by rw [posF_zero]; exact hm) (by rw [posF_zero]; exact hn) h
  rwa [List.drop_zero, List.drop_zero] at this
/-- a byte that may be shown -/
def okB (c : UInt8) : Prop := 32 ≤ c.toNat ∧ c.toNat ≠ 127
theorem form_ok {L I : List UInt8} (h : Form L I) : ∀ c ∈ L, okB c := by
  rcases h with ⟨rfl, _⟩ | ⟨u, hu, rfl, _⟩ | ⟨r, hr, h32, h127, _, rfl, _⟩
  · intro c hc
    simp at hc
    subst hc
    unfold okB; decide
  · intro c hc
    simp only [List.mem_append, List.mem_cons, List.not_mem_nil, or_false] at hc
    rcases hc with ((rfl | rfl | rfl) | hc) | rfl
    · unfold okB; decide
    · unfold okB; decide
    · unfold okB; decide
    · have := (hexL_ok 2 u (by omega)).1 c hc
      unfold isDig at this
      unfold okB
      omega
    · unfold okB; decide
  · intro c hc
    unfold encL at hc
    rw [List.mem_map] at hc
    obtain ⟨x, hx, rfl⟩ := hc
    have hlt := encN_lt r x hx
    have hs1 := hr.2.1
    unfold okB
    rw [UInt8.toNat_ofNat', Nat.mod_eq_of_lt (by omega)]
    unfold encN at hx
    split at hx
    · simp at hx
    · split at hx
      · simp at hx; omega
      · split at hx
        · simp at hx; omega
        · split at hx
          · simp at hx; omega
          · simp at hx; omega
theorem shown_ok (s : ByteArray) (k : Nat) (h : ∀ j, j < k → pos s j < s.size) : ∀ c ∈ shownL s k, okB c := by
  induction k with
  | zero => intro c hc; cases hc
  | succ k ih =>
    intro c hc
    unfold shownL at hc
    rw [List.mem_append] at hc
    rcases hc with hc | hc
    · exact ih (fun j hj => h j (by omega)) c hc
    · exact form_ok (piece_form s _ (h k (Nat.lt_succ_self k))) c hc
theorem right_sign (r : Nat) (hr : isSign r) (X : List UInt8) : rightB ⟨(encL r ++ X).toArray⟩ = rightB ⟨X.toArray⟩ := by
  obtain ⟨m, hm⟩ := count_some ⟨X.toArray⟩
  rw [← bytes_cat]
  exact right_enc r hr _ m hm
theorem right_low (D X : List UInt8) (h : ∀ c ∈ D, c.toNat < 128) : rightB ⟨(D ++ X).toArray⟩ = rightB ⟨X.toArray⟩ := by
  induction D with
  | nil => rfl
  | cons c D ih =>
    have hc := h c (by simp)
    have h1 := right_sign c.toNat ⟨by omega, by omega, by omega⟩ (D ++ X)
    rw [encL_low _ hc, UInt8.ofNat_toNat] at h1
    exact h1.trans (ih (fun d hd => h d (by simp [hd])))
theorem right_form {L I : List UInt8} (h : Form L I) (X : List UInt8) : rightB ⟨(L ++ X).toArray⟩ = rightB ⟨X.toArray⟩ := by
  rcases h with ⟨rfl, _⟩ | ⟨u, hu, rfl, _⟩ | ⟨r, hr, _, _, _, rfl, _⟩
  · exact right_low _ X (by intro c hc; simp at hc; subst hc; decide)
  · refine right_low _ X ?_
    intro c hc
    simp only [List.mem_append, List.mem_cons, List.not_mem_nil, or_false] at hc
    rcases hc with ((rfl | rfl | rfl) | hc) | rfl
    · decide
    · decide
    · decide
    · have := (hexL_ok 2 u (by omega)).1 c hc
      unfold isDig at this
      omega
    · decide
  · exact right_sign r hr X
theorem shownF_right (s : ByteArray) : ∀ (k q : Nat), (∀ j, j < k → posF s q j < s.size) → rightB ⟨(shownF s q k).toArray⟩ = true := by
  intro k
  induction k with
  | zero => intro q _; rfl
  | succ k ih =>
    intro q h
    have hf := right_form (piece_form s q (h 0 (by omega))) (shownF s (q + wid s q) k)
    refine hf.trans (ih _ ?_)
    intro j hj
    rw [← posF_front]
    exact h (j + 1) (by omega)
theorem shown_right (s : ByteArray) (n : Nat) (hn : pos s n = s.size) : rightB (txt (shownL s n)) = true := by
  rw [shown_F]
  exact shownF_right s n 0 (fun j hj => by rw [posF_zero]; exact (pos_below s hn).1 hj)
end Go.Proofs.YtpmgccjhflcoiaaDoor
