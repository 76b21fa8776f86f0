/-
  The walk of StackOwn: it returns true, and nothing that was there has turned. No condition beyond what a slice of puts that came in gives.
-/
import Derived.Test.YtlnhganinomaaaaWorks
import Derived.StillTailTactics
import Derived.Deep.CutBlock
namespace Go.Proofs.Ytlnhganinomaaaa
open Go.RowKit Go.Maps
set_option linter.unusedSimpArgs false
set_option linter.unusedVariables false

theorem links_count (j : Nat) (us : List (List Int)) : (linksFrom j us).length = (us.map List.length).sum := by
  induction us generalizing j with
  | nil => rfl
  | cons l r ih => simp [linksFrom, ih]
theorem sum_bound {us : List (List Int)} {N : Nat} (h : ∀ l ∈ us, l.length ≤ N) : (us.map List.length).sum ≤ us.length * N := by
  induction us with
  | nil => simp
  | cons l r ih =>
    have h1 := h l (by simp)
    have h2 := ih (fun x hx => h x (by simp [hx]))
    simp only [List.map_cons, List.sum_cons, List.length_cons, Nat.succ_mul]
    omega
theorem linksOf_bound {N : Nat} {pl : List (Int × Int)} {us : List (List Int)} (hI : Inv N pl us) : (linksOf us).length ≤ (N + 1) * N := by
  unfold linksOf
  rw [links_count]
  have h1 := sum_bound hI.rsize
  have h2 := Nat.mul_le_mul_right N (show us.length ≤ N + 1 by have := hI.len; have := hI.size; omega)
  omega
/-- what a put adds -/
theorem PutRes.adds {pl pl' : List (Int × Int)} {us us' : List (List Int)} {a b up er : Int} {node : Nat} {fresh link : Bool} (h : PutRes pl us a b up node fresh link er pl' us') :
    pl'.length = pl.length + (if fresh then 1 else 0) ∧ (linksOf us').length = (linksOf us).length + (if link then 1 else 0) ∧ ((er = 0) ∨ (er = 2 ∧ fresh = false ∧ link = false)) := by
  rcases h with ⟨rfl, pl1, us1, hn, rfl, hl⟩ | ⟨rfl, _, rfl, rfl, rfl, rfl, rfl⟩
  · have e1 : pl'.length = pl.length + (if fresh then 1 else 0) ∧ (linksOf us1).length = (linksOf us).length := by
      rcases hn with ⟨e, _, rfl, rfl, rfl⟩ | ⟨e, _, _, _, rfl, rfl⟩
      · have : fresh = true := by simpa using e
        subst this
        exact ⟨by simp, by rw [links_nil]⟩
      · have : fresh = false := by simpa using e
        subst this
        exact ⟨by simp, rfl⟩
    refine ⟨e1.1, ?_, Or.inl rfl⟩
    rcases hl with ⟨rfl, hn, hm, rfl⟩ | ⟨rfl, hn, hm, rfl⟩
    · simpa using e1.2
    · rw [← (links_set' hn up).length_eq, List.length_append, e1.2]
      simp
  · exact ⟨by simp, by simp, Or.inr ⟨rfl, rfl, rfl⟩⟩

theorem drew_below' (B : Nat) (w : World) : Below B w w.drew := (Below.refl _ _).drew

set_option maxRecDepth 100000 in
set_option maxHeartbeats 1600000 in
theorem own_walk (a0 : Option Addr) (len cap b off : Nat) (P0 P1 P2 : Nat → Int) (m0 m1 m2 : Int) (hm0 : i64ok m0) (hm1 : i64ok m1) (w : World) (ha : 0 < len → a0 = some ⟨b, off, none⟩)
    (hc : ∀ i, i < len → w.cell? ⟨b, off + i * 3, none⟩ = some (.int .i64 (P0 i)) ∧ w.cell? ⟨b, off + i * 3 + 1, none⟩ = some (.int .i64 (P1 i)) ∧ w.cell? ⟨b, off + i * 3 + 2, none⟩ = some (.int .i64 (P2 i)))
    (hb : 0 < len → b < w.heap.size) (hok : ∀ i, i < len → i64ok (P0 i) ∧ i64ok (P1 i) ∧ i64ok (P2 i)) :
    Calls Try.prog 4 #[.slice a0 len cap, .agg #[.int .i64 m0, .int .i64 m1, .int .i64 m2]] w fun e w' => e = .returned (.bool true) ∧ Below w.heap.size w w' := by
  have hnew := new_any (w.alloc (.cells #[.int .i64 m0, .int .i64 m1, .int .i64 m2] 29))
  have hbw : Below w.heap.size w (w.alloc (.cells #[.int .i64 m0, .int .i64 m1, .int .i64 m2] 29)) := (Below.refl _ _).alloc (Nat.le_refl _) _
  have hpb : (w.alloc (.cells #[.int .i64 m0, .int .i64 m1, .int .i64 m2] 29)).heap[w.heap.size]? = some (.cells #[.int .i64 m0, .int .i64 m1, .int .i64 m2] 29 (0, 0)) := blk_new _ _
  go_enter Try.func4, Try.ntmps4
  go_wp2_with fail
  generalize hp : w.heap.size = p at hpb ⊢
  have Hp := (show Hid _ from hp)
  clear hp
  generalize w.alloc (.cells #[.int .i64 m0, .int .i64 m1, .int .i64 m2] 29) = W1 at hnew hbw hpb ⊢
  refine hnew.mono ?_
  rintro e w1 ⟨rfl, bs1, hs1, hb1⟩
  clear hnew
  generalize W1.heap.size + 4 = s at hs1 ⊢
  have hbW : Below W1.heap.size W1 w1 := hb1
  go_upto_block 0 with fail
  go_cut [6] (fun s6 wr => ∃ (j : Nat) (pl : List (Int × Int)) (us : List (List Int)) (bs : List Nat), s6 = .int .i64 j ∧ Stk wr W1.heap.size s pl us bs ∧ Inv 60 pl us ∧ Below W1.heap.size W1 wr)
  case first =>
    go_wp2_with fail
    go_loopg [6] (min len 60) (fun g i wr => ∃ (j : Nat) (pl : List (Int × Int)) (us : List (List Int)) (bs : List Nat), i = .int .i64 j ∧ j ≤ len ∧ j ≤ 60 ∧ min len 60 ≤ j + g ∧ Stk wr W1.heap.size s pl us bs ∧ Inv j pl us ∧ Below W1.heap.size W1 wr)
    case atStart => exact ⟨0, _, _, bs1, rfl, by omega, by omega, by omega, hs1, inv_new, hb1⟩
    case round =>
      obtain ⟨j, pl, us, bs, rfl, hj, hj6, hg, hs, hI, hB⟩ := hrel
      clear hs1 hb1
      by_cases hjl : j < min len 60
      · obtain rfl := ha (by omega)
        have hbl := hb (by omega)
        have hB' := hbw.trans (hB.mono hbw.size)
        have cj := hc j (by omega)
        have okj := hok j (by omega)
        have d0 : wr.cell? ⟨b, off + j * 3, none⟩ = some (.int .i64 (P0 j)) := (hB'.cell hbl).trans cj.1
        have d1 : wr.cell? ⟨b, off + j * 3 + 1, none⟩ = some (.int .i64 (P1 j)) := (hB'.cell hbl).trans cj.2.1
        have d2 : wr.cell? ⟨b, off + j * 3 + 2, none⟩ = some (.int .i64 (P2 j)) := (hB'.cell hbl).trans cj.2.2
        have hput := put_any (w := wr.drew) (hs.below (C := wr.heap.size) (Nat.le_refl _) (Below.refl _ _).drew) hI (by omega) hB.size (P0 j) (P1 j) (P2 j) okj.1 okj.2.1
        have hj1 : (j : Int) < len := by omega
        have hj2 : (j : Int) < 60 := by omega
        clear cj okj hc hok ha hpb
        generalize P0 j = p0 at d0 hput
        generalize P1 j = p1 at d1 hput
        generalize P2 j = p2 at d2 hput
        go_upto_region 5 with fail
        go_still_tail 16, (by kernel_rfl)
        change wpList _ _ _ _ _ wr.drew
        go_wp2_with fail
        refine hput.mono ?_
        rintro e w2 ⟨node, fresh, link, er, pl', us', bs', rfl, _, hs2, hI2, hB2⟩
        clear hput d0 d1 d2
        go_wp2_with fail
        go_roundg (gk - 1)
        case measure => omega
        case rel => exact ⟨j + 1, pl', us', bs', by go_num, by omega, by omega, by omega, hs2, hI2, hB.trans ((drew_below' _ _).trans hB2)⟩
      · rcases Nat.lt_or_ge j len with hjj | hjj
        · have hj4 : ¬ ((j : Int) < 60) := by omega
          have hj5 : (j : Int) < len := by omega
          go_wp2_with fail
          go_meet
          case rel => exact ⟨j, pl, us, bs, rfl, hs, hI.mono (by omega), hB⟩
        · have hj5 : ¬ (j : Int) < len := by omega
          go_wp2_with fail
          go_meet
          case rel => exact ⟨j, pl, us, bs, rfl, hs, hI.mono (by omega), hB⟩
  case rest =>
    obtain ⟨j, pl, us, bs, rfl, hs, hI, hB⟩ := hcut
    clear hs1 hb1 hc hok ha hb
    have hps := hI.size
    have hlb := linksOf_bound hI
    have kc := clone_any hs hI (by omega)
    go_wp2_with fail
    refine kc.mono ?_
    rintro e w2 ⟨s', bs', rfl, hs', hb2⟩
    clear kc
    have hs2 := hs.below (Nat.le_refl _) hb2
    have hp2 : w2.heap[p]? = some (.cells #[.int .i64 m0, .int .i64 m1, .int .i64 m2] 29 (0, 0)) := (hb2.block p (Nat.lt_of_lt_of_le (blk_lt hpb) hB.size)).trans ((hB.block p (blk_lt hpb)).trans hpb)
    have k1 := long_any hs2
    have k2 := links_any hs2
    have k3 := put_any hs' hI (by omega) hb2.size m0 m1 m2 hm0 hm1
    go_wp2_with fail
    refine k1.mono ?_
    rintro e w5 ⟨rfl, rfl⟩
    go_wp2_with fail
    refine k2.mono ?_
    rintro e w5 ⟨rfl, rfl⟩
    clear k1 k2
    have p0 : w2.cell? ⟨p, 0, none⟩ = some (.int .i64 m0) := blk_cell hp2 rfl
    have p1 : w2.cell? ⟨p, 1, none⟩ = some (.int .i64 m1) := blk_cell hp2 rfl
    have p2 : w2.cell? ⟨p, 2, none⟩ = some (.int .i64 m2) := blk_cell hp2 rfl
    go_wp2_with fail
    refine k3.mono ?_
    rintro e w3 ⟨node, fresh, link, er, pl', us', bs3, rfl, hres, hs3, hI3, hb3⟩
    clear k3 p0 p1 p2
    obtain ⟨e1, e2, e3⟩ := hres.adds
    have hs4 := hs.below (Nat.le_refl _) (hb2.trans hb3)
    have hp3 : w3.heap[p]? = some (.cells #[.int .i64 m0, .int .i64 m1, .int .i64 m2] 29 (0, 0)) := (hb3.block p (Nat.lt_of_lt_of_le (blk_lt hpb) hB.size)).trans hp2
    have hB3 : Below w.heap.size w w3 := (hbw.trans (hB.mono hbw.size)).trans ((hb2.trans hb3).mono (Nat.le_trans hbw.size hB.size))
    have k1 := long_any hs4
    have k2 := links_any hs4
    have k3 := long_any hs3
    have k4 := links_any hs3
    clear hs' hs2 hs hs4 hs3 hres hb2 hb3 hp2 hpb
    generalize (linksOf us').length = kl' at e2 k4
    generalize (linksOf us).length = kl at e2 k2 hlb
    generalize pl'.length = n' at e1 k3
    generalize pl.length = n at e1 k1 hps
    go_upto_region 9 with fail
    go_cut [108] (fun s108 W => s108 = .bool false ∧ W = w3)
    case first =>
      go_wp2_with fail
      refine k1.mono ?_
      rintro e w5 ⟨rfl, rfl⟩
      go_wp2_with fail
      refine k2.mono ?_
      rintro e w5 ⟨rfl, rfl⟩
      have hge : ¬ ((n' : Int) < n) := by cases fresh <;> simp at e1 <;> omega
      go_wp2_with fail
      refine k3.mono ?_
      rintro e w5 ⟨rfl, rfl⟩
      have hfr : decide ((n : Int) < n') = fresh := by cases fresh <;> simp at e1 ⊢ <;> omega
      have hlk : decide ((kl : Int) < kl') = link := by cases link <;> simp at e2 ⊢ <;> omega
      clear e1 e2
      cases fresh
      · have hn : ¬ ((n : Int) < n') := by simpa using hfr
        go_wp2_with fail
        refine k3.mono ?_
        rintro e w5 ⟨rfl, rfl⟩
        cases link
        · have hn2 : ¬ ((kl : Int) < kl') := by simpa using hlk
          go_wp2_with fail
          refine k4.mono ?_
          rintro e w5 ⟨rfl, rfl⟩
          rcases e3 with rfl | ⟨rfl, _, _⟩
          · go_wp2_with fail
            go_meet
            case rel => exact ⟨by first | rfl | (simp; done) | (simp; omega), rfl⟩
          · go_wp2_with fail
            go_meet
            case rel => exact ⟨by first | rfl | (simp; done) | (simp; omega), rfl⟩
        · have hn2 : (kl : Int) < kl' := by simpa using hlk
          obtain rfl : er = 0 := by
            rcases e3 with e | ⟨_, _, e⟩
            · exact e
            · cases e
          go_wp2_with fail
          refine k4.mono ?_
          rintro e w5 ⟨rfl, rfl⟩
          go_wp2_with fail
          go_meet
          case rel => exact ⟨by first | rfl | (simp; done) | (simp; omega), rfl⟩
      · have hn : (n : Int) < n' := by simpa using hfr
        obtain rfl : er = 0 := by
          rcases e3 with e | ⟨_, e, _⟩
          · exact e
          · cases e
        go_wp2_with fail
        refine k3.mono ?_
        rintro e w5 ⟨rfl, rfl⟩
        cases link
        · have hn2 : ¬ ((kl : Int) < kl') := by simpa using hlk
          go_wp2_with fail
          refine k4.mono ?_
          rintro e w5 ⟨rfl, rfl⟩
          go_wp2_with fail
          go_meet
          case rel => exact ⟨by first | rfl | (simp; done) | (simp; omega), rfl⟩
        · have hn2 : (kl : Int) < kl' := by simpa using hlk
          go_wp2_with fail
          refine k4.mono ?_
          rintro e w5 ⟨rfl, rfl⟩
          go_wp2_with fail
          go_meet
          case rel => exact ⟨by first | rfl | (simp; done) | (simp; omega), rfl⟩
    case rest =>
      obtain ⟨rfl, rfl⟩ := hcut
      clear k1 k2 k3 k4 e1 e2 e3 hlb
      go_wp2_with fail
      go_loopg [14] 2 (fun g i W => ∃ q : Nat, i = .int .i64 q ∧ q ≤ 2 ∧ 2 ≤ q + g ∧ Below w.heap.size w W ∧ W.heap[p]? = some (.cells #[.int .i64 m0, .int .i64 m1, .int .i64 m2] 29 (0, 0)))
      case atStart => exact ⟨0, rfl, by omega, by omega, hB3, hp3⟩
      case round =>
        obtain ⟨q, rfl, hq, hg, hB4, hp4⟩ := hrel
        clear hB3 hp3
        obtain rfl | rfl | rfl : q = 0 ∨ q = 1 ∨ q = 2 := by omega
        · skip
          have hno : NoSt (wr.alloc (.cells #[.slice none 0 0, .slice none 0 0, .map none, .map none] 43)) (.pointer (some ⟨wr.heap.size, 0, none⟩)) := Or.inr ⟨_, rfl, blk_new _ _⟩
          have hB5 : Below w.heap.size w (wr.alloc (.cells #[.slice none 0 0, .slice none 0 0, .map none, .map none] 43)) := hB4.trans (((Below.refl _ _).alloc (Nat.le_refl _) _).mono hB4.size)
          have hp5 : (wr.alloc (.cells #[.slice none 0 0, .slice none 0 0, .map none, .map none] 43)).heap[p]? = some (.cells #[.int .i64 m0, .int .i64 m1, .int .i64 m2] 29 (0, 0)) := (blk_old (blk_lt hp4)).trans hp4
          go_upto_region 17 with fail
          generalize wr.alloc (.cells #[.slice none 0 0, .slice none 0 0, .map none, .map none] 43) = W5 at hno hB5 hp5 ⊢
          have p0 : W5.cell? ⟨p, 0, none⟩ = some (.int .i64 m0) := blk_cell hp5 rfl
          have p1 : W5.cell? ⟨p, 1, none⟩ = some (.int .i64 m1) := blk_cell hp5 rfl
          have p2 : W5.cell? ⟨p, 2, none⟩ = some (.int .i64 m2) := blk_cell hp5 rfl
          have k1 := no_put hno m0 m1 m2
          have k2 := no_long hno
          have k3 := no_links hno
          have k4 := no_ups hno
          have k5 := no_ret hno
          have k6 := no_at hno
          have k7 := no_find hno m0 m1
          have k8 := no_clone hno
          clear hno
          go_wp2_with fail
          refine k1.mono ?_
          rintro e w5 ⟨rfl, rfl⟩
          clear k1
          go_wp2_with fail
          refine k2.mono ?_
          rintro e w5 ⟨rfl, rfl⟩
          clear k2
          go_wp2_with fail
          refine k3.mono ?_
          rintro e w5 ⟨rfl, rfl⟩
          clear k3
          go_wp2_with fail
          refine k4.mono ?_
          rintro e w5 ⟨rfl, rfl⟩
          clear k4
          go_wp2_with fail
          refine k5.mono ?_
          rintro e w5 ⟨rfl, rfl⟩
          clear k5
          go_wp2_with fail
          refine k6.mono ?_
          rintro e w5 ⟨rfl, rfl⟩
          clear k6
          go_wp2_with fail
          refine k7.mono ?_
          rintro e w5 ⟨rfl, rfl⟩
          clear k7
          go_wp2_with fail
          refine k8.mono ?_
          rintro e w5 ⟨rfl, rfl⟩
          clear k8
          clear p0 p1 p2
          go_wp2_with fail
          go_roundg (gk - 1)
          case measure => omega
          case rel => exact ⟨1, by go_num, by omega, by omega, hB5, hp5⟩
        · skip
          have hno : NoSt (wr.alloc (.cells #[.slice none 0 0, .slice none 0 0, .map none, .map none] 43)) (.pointer none) := Or.inl rfl
          have hB5 : Below w.heap.size w (wr.alloc (.cells #[.slice none 0 0, .slice none 0 0, .map none, .map none] 43)) := hB4.trans (((Below.refl _ _).alloc (Nat.le_refl _) _).mono hB4.size)
          have hp5 : (wr.alloc (.cells #[.slice none 0 0, .slice none 0 0, .map none, .map none] 43)).heap[p]? = some (.cells #[.int .i64 m0, .int .i64 m1, .int .i64 m2] 29 (0, 0)) := (blk_old (blk_lt hp4)).trans hp4
          go_upto_region 17 with fail
          generalize wr.alloc (.cells #[.slice none 0 0, .slice none 0 0, .map none, .map none] 43) = W5 at hno hB5 hp5 ⊢
          have p0 : W5.cell? ⟨p, 0, none⟩ = some (.int .i64 m0) := blk_cell hp5 rfl
          have p1 : W5.cell? ⟨p, 1, none⟩ = some (.int .i64 m1) := blk_cell hp5 rfl
          have p2 : W5.cell? ⟨p, 2, none⟩ = some (.int .i64 m2) := blk_cell hp5 rfl
          have k1 := no_put hno m0 m1 m2
          have k2 := no_long hno
          have k3 := no_links hno
          have k4 := no_ups hno
          have k5 := no_ret hno
          have k6 := no_at hno
          have k7 := no_find hno m0 m1
          have k8 := no_clone hno
          clear hno
          go_wp2_with fail
          refine k1.mono ?_
          rintro e w5 ⟨rfl, rfl⟩
          clear k1
          go_wp2_with fail
          refine k2.mono ?_
          rintro e w5 ⟨rfl, rfl⟩
          clear k2
          go_wp2_with fail
          refine k3.mono ?_
          rintro e w5 ⟨rfl, rfl⟩
          clear k3
          go_wp2_with fail
          refine k4.mono ?_
          rintro e w5 ⟨rfl, rfl⟩
          clear k4
          go_wp2_with fail
          refine k5.mono ?_
          rintro e w5 ⟨rfl, rfl⟩
          clear k5
          go_wp2_with fail
          refine k6.mono ?_
          rintro e w5 ⟨rfl, rfl⟩
          clear k6
          go_wp2_with fail
          refine k7.mono ?_
          rintro e w5 ⟨rfl, rfl⟩
          clear k7
          go_wp2_with fail
          refine k8.mono ?_
          rintro e w5 ⟨rfl, rfl⟩
          clear k8
          clear p0 p1 p2
          go_wp2_with fail
          go_roundg (gk - 1)
          case measure => omega
          case rel => exact ⟨2, by go_num, by omega, by omega, hB5, hp5⟩
        · have k9 := works_ok wr
          go_wp2_with fail
          refine k9.mono ?_
          rintro e w5 ⟨rfl, hb5⟩
          go_wp2_with fail
          go_ret
          exact ⟨rfl, hB4.trans (hb5.mono hB4.size)⟩
end Go.Proofs.Ytlnhganinomaaaa
