/-
  Contract of Of of package bits. No condition beyond those that each theorem states.
-/
import Derived.Test.YtccccbkllplojaaDoorAnd
import Derived.Test.YtccccbkllplojaaDoorRList
namespace Go.Proofs.YtccccbkllplojaaDoor
open Go.RowKit
set_option linter.unusedSimpArgs false
set_option linter.unusedVariables false

structure Nn (w : World) (a : Option Addr) (n cap : Nat) (l : List Int) : Prop where
  len : Hid (l.length = n)
  capLe : n ≤ cap
  nil : a = none → cap = 0
  at_ : ∀ i, i < n → ∃ b off, a = some ⟨b, off, none⟩ ∧ w.cell? ⟨b, off + i, none⟩ = some (.int .i64 (l.getD i 0))
theorem igetD_lt (l : List Int) (i : Nat) (h : i < l.length) : l.getD i 0 = l[i] := by
  simp [List.getD_eq_getElem?_getD, List.getElem?_eq_getElem h]
theorem Nums.nn {w : World} {v : Value} {l : List Int} (h : Nums w v l) : ∃ a n cap, v = .slice a n cap ∧ Nn w a n cap l := by
  obtain ⟨a, cap, rfl, h1, h2, h3⟩ := h
  refine ⟨a, _, cap, rfl, rfl, h1, h2, fun i hi => ?_⟩
  rw [igetD_lt l i hi]
  exact h3 i hi
theorem Nn.below {w w' : World} {a : Option Addr} {n cap : Nat} {l : List Int} (h : Nn w a n cap l) (hb : Below w.heap.size w w') : Nn w' a n cap l := by
  refine ⟨h.len, h.capLe, h.nil, fun i hi => ?_⟩
  obtain ⟨b, off, e, hc⟩ := h.at_ i hi
  exact ⟨b, off, e, (hb.cell (cell_lt hc)).trans hc⟩
theorem mem_take_succ (l : List Int) (q : Nat) (h : q < l.length) (x : Int) : x ∈ l.take (q + 1) ↔ x ∈ l.take q ∨ x = l.getD q 0 := by
  rw [igetD_lt l q h, List.take_add_one, List.getElem?_eq_getElem h, List.mem_append]
  simp
theorem has_set (t : List Nat) (m k : Nat) (hm : m / 64 < t.length) : has (t.set (m / 64) (t.getD (m / 64) 0 ||| 2 ^ (m % 64))) k = (has t k || decide (k = m)) := by
  unfold has
  rw [getD_set t _ _ _ hm]
  by_cases h : k / 64 = m / 64
  · rw [if_pos h, Nat.testBit_or, Nat.testBit_two_pow, h]
    congr 1
    simp only [decide_eq_decide]
    omega
  · rw [if_neg h, decide_eq_false (fun e => h (by rw [e])), Bool.or_false]
theorem shl_one (r : Nat) (hr : r < 64) : IntKind.u64.wrap (1 * 2 ^ r) = ((2 ^ r : Nat) : Int) := by
  have hp : 0 < 2 ^ r := Nat.two_pow_pos r
  have hp2 : 2 ^ r ≤ 2 ^ 63 := Nat.pow_le_pow_right (by omega) (by omega)
  have e : (2 : Int) ^ r = ((2 ^ r : Nat) : Int) := by simp
  rw [e]
  generalize 2 ^ r = p at *
  rw [IntKind.wrap_u64]
  omega
theorem set_fit {t : List Nat} (hf : Fit t) (q x : Nat) (hx : x < 18446744073709551616) : Fit (t.set q x) := by
  intro y hy
  rcases List.mem_or_eq_of_mem_set hy with h | rfl
  · exact hf y h
  · exact hx
theorem or_bit_lt (x r : Nat) (hx : x < 18446744073709551616) (hr : r < 64) : x ||| 2 ^ r < 18446744073709551616 :=
  Nat.or_lt_two_pow (n := 64) hx (Nat.pow_lt_pow_right (by omega) hr)

/-- the greatest number that may be in a set -/
structure Top (l : List Int) (top : Int) : Prop where
  lo : -1 ≤ top
  hi : top < 65536
  all : ∀ x ∈ l, 0 ≤ x → x < 65536 → x ≤ top
  is : top = -1 ∨ top ∈ l

set_option maxRecDepth 100000 in
theorem of_ok (w : World) (v : Value) (l : List Int) (hv : Nums w v l) (hl : l.length ≤ 100000) :
    Calls Tryd.prog 9 #[v] w fun e w' => ∃ v' t, e = .returned v' ∧ Own w.heap.size w' v' t ∧ t.length ≤ 1024 ∧ Tidy t ∧ Fit t ∧ (∀ m : Nat, has t m = true ↔ ((m : Int) ∈ l ∧ m < 65536)) ∧ Below w.heap.size w w' := by
  obtain ⟨i0, hi, hz0, hz1, hz2⟩ := info_parts info41
  obtain ⟨a, n, cap, rfl, h1⟩ := Nums.nn hv
  have hn : Hid (n ≤ 100000) := by have := h1.len.out; exact (show n ≤ 100000 by omega)
  have hn63 : (n : Int) ≤ 9223372036854775806 := by have := hn.out; omega
  have hln := h1.len
  clear hv hl
  go_enter Tryd.func9, Tryd.ntmps9
  go_upto_block 0 with fail
  go_cut [3] (fun s3 wc => ∃ top : Int, s3 = .int .i64 top ∧ Top l top ∧ wc = w)
  case first =>
    go_wp2_with fail
    go_loopg [3, 11] n (fun g s3 n0 W => ∃ (q : Nat) (top : Int), n0 = .int .i64 q ∧ s3 = .int .i64 top ∧ g + q = n ∧ Top (l.take q) top ∧ W = w)
    case atStart => exact ⟨0, -1, rfl, rfl, by omega, ⟨by omega, by omega, by simp, Or.inl rfl⟩, rfl⟩
    case round =>
      obtain ⟨q, top, rfl, rfl, hq, ht, rfl⟩ := hrel
      by_cases hqn : q < n
      · obtain ⟨b1, o1, rfl, hc⟩ := h1.at_ q hqn
        have hm := may_ok (l.getD q 0) wr
        have hmem := mem_take_succ l q (by have := hln.out; omega)
        by_cases hmay : 0 ≤ l.getD q 0 ∧ l.getD q 0 < 65536
        · rw [decide_eq_true hmay] at hm
          have hlo := ht.lo
          have hhi := ht.hi
          by_cases hgt : top < l.getD q 0
          · have hT : Hid (Top (l.take (q + 1)) (l.getD q 0)) := by
              refine ⟨by omega, hmay.2, fun x hx h0 h1 => ?_, Or.inr ((hmem _).2 (Or.inr rfl))⟩
              rcases (hmem x).1 hx with h | rfl
              · have := ht.all x h h0 h1; omega
              · exact Int.le_refl _
            clear ht hmem
            generalize l.getD q 0 = x at hc hm hT hgt hmay
            go_wp2_with fail
            refine hm.mono ?_
            rintro e w' ⟨rfl, rfl⟩
            clear hm
            go_wp2_with fail
            go_roundg (gk - 1)
            case measure => omega
            case rel => exact ⟨q + 1, x, by go_num, rfl, by omega, hT.out, rfl⟩
          · have hT : Hid (Top (l.take (q + 1)) top) := by
              refine ⟨hlo, hhi, fun x hx h0 h1 => ?_, ?_⟩
              · rcases (hmem x).1 hx with h | rfl
                · exact ht.all x h h0 h1
                · omega
              · rcases ht.is with h | h
                · exact Or.inl h
                · exact Or.inr ((hmem _).2 (Or.inl h))
            clear ht hmem
            generalize l.getD q 0 = x at hc hm hT hgt hmay
            go_wp2_with fail
            refine hm.mono ?_
            rintro e w' ⟨rfl, rfl⟩
            clear hm
            by_cases heq : x = top
            · subst heq
              go_wp2_with fail
              go_roundg (gk - 1)
              case measure => omega
              case rel => exact ⟨q + 1, x, by go_num, rfl, by omega, hT.out, rfl⟩
            · have hlt : x < top := by omega
              go_wp2_with fail
              go_roundg (gk - 1)
              case measure => omega
              case rel => exact ⟨q + 1, top, by go_num, rfl, by omega, hT.out, rfl⟩
        · rw [decide_eq_false hmay] at hm
          have hT : Hid (Top (l.take (q + 1)) top) := by
            refine ⟨ht.lo, ht.hi, fun x hx h0 h1 => ?_, ?_⟩
            · rcases (hmem x).1 hx with h | rfl
              · exact ht.all x h h0 h1
              · exact absurd ⟨h0, h1⟩ hmay
            · rcases ht.is with h | h
              · exact Or.inl h
              · exact Or.inr ((hmem _).2 (Or.inl h))
          clear ht hmem hmay
          generalize l.getD q 0 = x at hc hm
          go_wp2_with fail
          refine hm.mono ?_
          rintro e w' ⟨rfl, rfl⟩
          clear hm
          go_wp2_with fail
          go_roundg (gk - 1)
          case measure => omega
          case rel => exact ⟨q + 1, top, by go_num, rfl, by omega, hT.out, rfl⟩
      · obtain rfl : q = n := by omega
        rw [List.take_of_length_le (by rw [hln.out]; exact Nat.le_refl _)] at ht
        have HT := (show Hid _ from ht)
        clear ht
        go_wp2_with fail
        go_meet
        case rel => exact ⟨top, rfl, HT.out, rfl⟩
  case rest =>
    obtain ⟨top, rfl, HT, rfl⟩ := hcut
    have hlo := HT.lo
    have hhi := HT.hi
    obtain ⟨N, hN⟩ : ∃ N : Nat, (top + 64) / 64 = (N : Int) := ⟨((top + 64) / 64).toNat, by omega⟩
    have hN1 : N ≤ 1024 := by omega
    have HN := (show Hid ((top + 64) / 64 = (N : Int)) from hN)
    have HT := (show Hid _ from HT)
    go_wp2_with (at_make; refine wpList_make_full _ rfl _ _ 23 rfl wc.heap.size 41 i0 (.int .u64 0) 1 Tryd.underlying23 hi hz0 hz1 _ _ _ _ N rfl rfl HN.out HN.out (by rw [hz2]; omega) (by unfold maxLen; omega) (Nat.le_refl _) ?_; intro w1 hown1 hgrow1; rw [words_made] at hown1)
    have hb1 : Below wc.heap.size wc w1 := (Below.refl _ _).grown hgrow1 (Nat.le_refl _) (fun k hk => by cases hk)
    clear hgrow1 hN
    have hb0 : wc.heap.size ≤ w1.heap.size := hb1.size
    go_wp2_with fail
    go_loopg [27] n (fun g n0 W => ∃ (q : Nat) (t : List Nat), n0 = .int .i64 q ∧ g + q = n ∧ t.length = N ∧ W.ownsRow wc.heap.size 41 1 (.slice (some ⟨wc.heap.size, 0, none⟩) N N) N (t.map word) ∧ Fit t ∧ Hid (∀ m : Nat, has t m = true ↔ ((m : Int) ∈ l.take q ∧ m < 65536)) ∧ Below wc.heap.size wc W)
    case atStart =>
      refine ⟨0, List.replicate N 0, rfl, by omega, by simp, hown1, fun x hx => ?_, fun m => ?_, hb1⟩
      · have := (List.mem_replicate.1 hx).2; omega
      · simp only [has, List.getD_eq_getElem?_getD, List.getElem?_replicate]
        split <;> simp
    case round =>
      clear hown1 hb1
      obtain ⟨q, t, rfl, hq, htl, hown, hfit, Hhas, hb⟩ := hrel
      by_cases hqn : q < n
      · obtain ⟨b1, o1, rfl, hc⟩ := (h1.below hb).at_ q hqn
        have hm := may_ok (l.getD q 0) wr
        have hmem := mem_take_succ l q (by have := hln.out; omega)
        by_cases hmay : 0 ≤ l.getD q 0 ∧ l.getD q 0 < 65536
        · rw [decide_eq_true hmay] at hm
          have hin : l.getD q 0 ∈ l := by rw [igetD_lt l q (by have := hln.out; omega)]; exact List.getElem_mem _
          have hle : l.getD q 0 ≤ top := HT.out.all _ hin hmay.1 hmay.2
          have Hmem := (show Hid _ from hmem)
          clear hmem hin
          generalize l.getD q 0 = x at hc hm Hmem hmay hle
          obtain ⟨m, rfl⟩ : ∃ m : Nat, x = m := ⟨x.toNat, by omega⟩
          have hmN : m / 64 < N := by have := HN.out; omega
          have hcell := row_cell hown htl (m / 64) hmN
          have hfz := World.ownsRow.frozenAt hown (m / 64)
          have hx := hfit.getD (m / 64)
          have hp := shl_one (m % 64) (by omega)
          rw [Int.one_mul] at hp
          have hor := bits_or_u64_nat (t.getD (m / 64) 0) (2 ^ (m % 64)) hx (Nat.pow_lt_pow_right (n := 64) (by omega) (by omega))
          have Hhas' : Hid (∀ k : Nat, has (t.set (m / 64) (t.getD (m / 64) 0 ||| 2 ^ (m % 64))) k = true ↔ ((k : Int) ∈ l.take (q + 1) ∧ k < 65536)) := by
            intro k
            rw [has_set t m k (by omega), Hmem.out, Bool.or_eq_true, Hhas.out k, decide_eq_true_eq]
            constructor
            · rintro (⟨h1, h2⟩ | rfl)
              · exact ⟨Or.inl h1, h2⟩
              · exact ⟨Or.inr rfl, by omega⟩
            · rintro ⟨h1 | h1, h2⟩
              · exact Or.inl ⟨h1, h2⟩
              · exact Or.inr (by omega)
          have hfit' := set_fit hfit (m / 64) _ (or_bit_lt _ (m % 64) hx (by omega))
          have htl' : (t.set (m / 64) (t.getD (m / 64) 0 ||| 2 ^ (m % 64))).length = N := by rw [List.length_set]; exact htl
          have hst := fun (W : World) (h : W.ownsRow wc.heap.size 41 1 (.slice (some ⟨wc.heap.size, 0, none⟩) N N) N (t.map word)) => row_set h (m / 64) (t.getD (m / 64) 0 ||| 2 ^ (m % 64))
          generalize t.set (m / 64) (t.getD (m / 64) 0 ||| 2 ^ (m % 64)) = t' at Hhas' hfit' htl' hst
          generalize t.getD (m / 64) 0 = y at hcell hor hst
          generalize y ||| 2 ^ (m % 64) = z at hor hst
          generalize (2 : Nat) ^ (m % 64) = p at hor hp
          have HS := (show Hid _ from And.intro hst (And.intro hown hb))
          clear hst hown hb hfit htl Hhas hx Hmem
          go_wp2_with fail
          refine hm.mono ?_
          rintro e w' ⟨rfl, rfl⟩
          clear hm
          go_wp2_with fail
          go_region
          all_goals
            go_wp2_with fail
            go_roundg (gk - 1)
            case measure => omega
            case rel => exact ⟨q + 1, t', by go_num, by omega, htl', HS.out.1 _ HS.out.2.1, hfit', Hhas', (HS.out.2.2.setCell (Nat.le_refl _) _).drew⟩
        · rw [decide_eq_false hmay] at hm
          have Hhas' : Hid (∀ k : Nat, has t k = true ↔ ((k : Int) ∈ l.take (q + 1) ∧ k < 65536)) := by
            intro k
            rw [hmem, Hhas.out k]
            constructor
            · rintro ⟨h1, h2⟩
              exact ⟨Or.inl h1, h2⟩
            · rintro ⟨h1 | h1, h2⟩
              · exact ⟨h1, h2⟩
              · exact absurd ⟨by omega, by omega⟩ hmay
          clear hmem hmay
          generalize l.getD q 0 = x at hc hm
          go_wp2_with fail
          refine hm.mono ?_
          rintro e w' ⟨rfl, rfl⟩
          clear hm
          go_wp2_with fail
          go_roundg (gk - 1)
          case measure => omega
          case rel => exact ⟨q + 1, t, by go_num, by omega, htl, hown, hfit, Hhas', hb⟩
      · obtain rfl : q = n := by omega
        have Hh2 : Hid (∀ m : Nat, has t m = true ↔ ((m : Int) ∈ l ∧ m < 65536)) := by
          intro m
          rw [Hhas.out m, List.take_of_length_le (by rw [hln.out]; exact Nat.le_refl _)]
        clear Hhas
        go_wp2_with fail
        go_ret
        refine ⟨_, t, rfl, by unfold Own; rw [htl]; exact hown, by omega, ?_, hfit, Hh2.out, hb⟩
        rcases HT.out.is with h | h
        · left; have := HN.out; omega
        · have h0 : top = -1 ∨ 0 ≤ top := by omega
          rcases h0 with h0 | h0
          · left; have := HN.out; omega
          · right
            obtain ⟨m, rfl⟩ : ∃ m : Nat, top = m := ⟨top.toNat, by omega⟩
            have hm : has t m = true := (Hh2.out m).2 ⟨h, by omega⟩
            have he : t.length - 1 = m / 64 := by have := HN.out; omega
            rw [he]
            intro h0
            unfold has at hm
            rw [h0] at hm
            simp at hm
end Go.Proofs.YtccccbkllplojaaDoor
