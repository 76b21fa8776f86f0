/-
  The walk of EditCommutes. No condition beyond those that each theorem states.
-/
import Derived.Test.YtpmgccjhflcoiaaDoorSplice
import Derived.Test.YtpmgccjhflcoiaaDoorMoved
namespace Go.Proofs.YtpmgccjhflcoiaaDoor
open Go.RowKit
set_option linter.unusedSimpArgs false
set_option linter.unusedVariables false

/-- two edits in memory, one behind the other, all else below as it was -/
def Two (w : World) (a c : Int) (p : ByteArray) (b d : Int) (q : ByteArray) (W : World) : Prop :=
  Below w.heap.size w W ∧ W.heap[w.heap.size]? = some (.cells #[.int .i64 a, .int .i64 c, .string p] 23 (0, 0)) ∧ W.heap[w.heap.size + 1]? = some (.cells #[.int .i64 b, .int .i64 d, .string q] 23 (0, 0))
theorem Two.later {w : World} {a c b d : Int} {p q : ByteArray} {W W' : World} (h : Two w a c p b d q W) (hb : Below W.heap.size W W') : Two w a c p b d q W' :=
  ⟨h.1.trans (hb.mono h.1.size), (hb.block _ (blk_lt h.2.1)).trans h.2.1, (hb.block _ (blk_lt h.2.2)).trans h.2.2⟩
theorem Two.new (w : World) (a c b d : Int) (p q : ByteArray) : Two w a c p b d q ((w.alloc (.cells #[.int .i64 a, .int .i64 c, .string p] 23)).alloc (.cells #[.int .i64 b, .int .i64 d, .string q] 23)) := by
  refine ⟨((Below.refl _ _).alloc (Nat.le_refl _) _).alloc (by simp) _, ?_, ?_⟩
  · rw [blk_old (by simp)]; exact blk_new _ _
  · have := blk_new (w.alloc (.cells #[.int .i64 a, .int .i64 c, .string p] 23)) (.cells #[.int .i64 b, .int .i64 d, .string q] 23)
    rw [show (w.alloc (.cells #[.int .i64 a, .int .i64 c, .string p] 23)).heap.size = w.heap.size + 1 from by simp] at this
    exact this
theorem Two.drewN {w : World} {a c b d : Int} {p q : ByteArray} {W : World} (h : Two w a c p b d q W) (n : Nat) : Two w a c p b d q (W.drewN n) :=
  h.later (drewN_below _ _ _)
theorem Two.cells {w : World} {a c b d : Int} {p q : ByteArray} {W : World} (h : Two w a c p b d q W) :
    W.cell? ⟨w.heap.size, 0, none⟩ = some (.int .i64 a) ∧ W.cell? ⟨w.heap.size, 1, none⟩ = some (.int .i64 c) ∧ W.cell? ⟨w.heap.size, 2, none⟩ = some (.string p) ∧
    W.cell? ⟨w.heap.size + 1, 0, none⟩ = some (.int .i64 b) ∧ W.cell? ⟨w.heap.size + 1, 1, none⟩ = some (.int .i64 d) ∧ W.cell? ⟨w.heap.size + 1, 2, none⟩ = some (.string q) :=
  ⟨blk_cell h.2.1 rfl, blk_cell h.2.1 rfl, blk_cell h.2.1 rfl, blk_cell h.2.2 rfl, blk_cell h.2.2 rfl, blk_cell h.2.2 rfl⟩
/-- the text that Apply tells -/
def left (s : ByteArray) (a c : Int) (put : ByteArray) : ByteArray := if mayN s a c put = 0 then applied s a.toNat c.toNat put else ⟨#[]⟩
theorem apply_any (s : ByteArray) (a c : Int) (put : ByteArray) (hs : s.size ≤ 100000) (hp : put.size ≤ 100000) (ha : -9223372036854775808 ≤ a ∧ a ≤ 9223372036854775807) (hc : -9223372036854775808 ≤ c ∧ c ≤ 9223372036854775807) (w : World) (hT : Tabs w) :
    Calls Tryd.prog 14 #[.string s, .agg #[.int .i64 a, .int .i64 c, .string put]] w fun e w' => e = .returned (.tuple #[.string (left s a c put), .int .i64 (mayN s a c put)]) ∧ Below w.heap.size w w' := by
  unfold left
  by_cases hm : mayN s a c put = 0
  · have hz := mayN_zero hm
    obtain ⟨a, rfl⟩ : ∃ n : Nat, a = n := ⟨a.toNat, by omega⟩
    obtain ⟨c, rfl⟩ : ∃ n : Nat, c = n := ⟨c.toNat, by omega⟩
    rw [if_pos hm, hm, Int.toNat_natCast, Int.toNat_natCast]
    exact apply_yes s a c put hs hp w hT hm
  · rw [if_neg hm]
    exact apply_no s a c put hs hp ha hc w hT hm
theorem left_yes {s : ByteArray} {a c : Nat} {put : ByteArray} (h : mayN s a c put = 0) : left s a c put = applied s a c put := by
  unfold left
  rw [if_pos h, Int.toNat_natCast, Int.toNat_natCast]
theorem left_size (s : ByteArray) (a c : Int) (put : ByteArray) (hs : s.size ≤ 1000) (hp : put.size ≤ 1000) : (left s a c put).size ≤ 2000 := by
  unfold left
  split
  · rename_i h
    have hz := mayN_zero h
    rw [app_size s a.toNat c.toNat put (by omega)]
    omega
  · show 0 ≤ 2000; omega
/-- what the drawn statement of EditCommutes loads -/
theorem six_later {n : Nat} {a c b d : Int} {p q : ByteArray} {W W' : World} (hb : Below W.heap.size W W')
    (h : W.cell? ⟨n, 0, none⟩ = some (.int .i64 a) ∧ W.cell? ⟨n, 1, none⟩ = some (.int .i64 c) ∧ W.cell? ⟨n, 2, none⟩ = some (.string p) ∧ W.cell? ⟨n + 1, 0, none⟩ = some (.int .i64 b) ∧ W.cell? ⟨n + 1, 1, none⟩ = some (.int .i64 d) ∧ W.cell? ⟨n + 1, 2, none⟩ = some (.string q)) :
    W'.cell? ⟨n, 0, none⟩ = some (.int .i64 a) ∧ W'.cell? ⟨n, 1, none⟩ = some (.int .i64 c) ∧ W'.cell? ⟨n, 2, none⟩ = some (.string p) ∧ W'.cell? ⟨n + 1, 0, none⟩ = some (.int .i64 b) ∧ W'.cell? ⟨n + 1, 1, none⟩ = some (.int .i64 d) ∧ W'.cell? ⟨n + 1, 2, none⟩ = some (.string q) :=
  ⟨later_cell hb h.1, later_cell hb h.2.1, later_cell hb h.2.2.1, later_cell hb h.2.2.2.1, later_cell hb h.2.2.2.2.1, later_cell hb h.2.2.2.2.2⟩
def I64 (a : Int) : Prop := -9223372036854775808 ≤ a ∧ a ≤ 9223372036854775807
/-- what the walk needs of the world of the law -/
structure Kit (w : World) (a c : Int) (p : ByteArray) (b d : Int) (q : ByteArray) : Prop where
  tabs : ∀ W, Below w.heap.size w W → Tabs W
  works : ∀ W, Below w.heap.size w W → Calls Tryd.prog 16 #[] W fun e w' => e = .returned (.bool true) ∧ Below W.heap.size W w'

set_option maxRecDepth 100000 in
theorem comm_big (s : ByteArray) (a c : Int) (p : ByteArray) (b d : Int) (q : ByteArray) (w : World) (hs : s.size ≤ 9223372036854775807) (hp : p.size ≤ 9223372036854775807) (hq : q.size ≤ 9223372036854775807) (h : 1000 < s.size ∨ 1000 < p.size ∨ 1000 < q.size) :
    Calls Tryd.prog 10 #[.string s, .agg #[.int .i64 a, .int .i64 c, .string p], .agg #[.int .i64 b, .int .i64 d, .string q]] w fun e w' => e = .returned (.bool true) ∧ Below w.heap.size w w' := by
  have h0 := (Two.new w a c b d p q).1
  rcases (show (1000 : Int) < s.size ∨ (¬ (1000 : Int) < s.size ∧ (1000 : Int) < p.size) ∨ (¬ (1000 : Int) < s.size ∧ ¬ (1000 : Int) < p.size ∧ (1000 : Int) < q.size) by omega) with h1 | ⟨h1, h2⟩ | ⟨h1, h2, h3⟩
  all_goals
    clear h
    go_enter Tryd.func10, Tryd.ntmps10
    go_wp2_with fail
    go_ret
    exact ⟨rfl, h0⟩
set_option maxRecDepth 100000 in
theorem comm_out (s : ByteArray) (a c : Int) (p : ByteArray) (b d : Int) (q : ByteArray) (w : World) (hT : Tabs w) (hs : s.size ≤ 1000) (hp : p.size ≤ 1000) (hq : q.size ≤ 1000) (ha : I64 a) (hc : I64 c) (hb : I64 b) (hd : I64 d)
    (h : ¬ mayN s a c p = 0 ∨ (mayN s a c p = 0 ∧ ¬ mayN s b d q = 0) ∨ (mayN s a c p = 0 ∧ mayN s b d q = 0 ∧ b ≤ a + c)) :
    Calls Tryd.prog 10 #[.string s, .agg #[.int .i64 a, .int .i64 c, .string p], .agg #[.int .i64 b, .int .i64 d, .string q]] w fun e w' => e = .returned (.bool true) ∧ Below w.heap.size w w' := by
  have H0 := Two.new w a c b d p q
  have HT := (show Hid (∀ W, Below w.heap.size w W → Tabs W) from fun W h => Utf8Tabs_below hT h)
  have hwork := (show Hid (∀ W, Below w.heap.size w W → Calls Tryd.prog 16 #[] W fun e w' => e = .returned (.bool true) ∧ Below W.heap.size W w') from fun W h => works2_ok W (HT.out W h))
  have CA := (show Hid (∀ W, Below w.heap.size w W → Calls Tryd.prog 14 #[.string s, .agg #[.int .i64 a, .int .i64 c, .string p]] W fun e w' => e = .returned (.tuple #[.string (left s a c p), .int .i64 (mayN s a c p)]) ∧ Below W.heap.size W w') from
    fun W h => apply_any s a c p (by omega) (by omega) ha hc W (HT.out W h))
  have CB := (show Hid (∀ W, Below w.heap.size w W → Calls Tryd.prog 14 #[.string s, .agg #[.int .i64 b, .int .i64 d, .string q]] W fun e w' => e = .returned (.tuple #[.string (left s b d q), .int .i64 (mayN s b d q)]) ∧ Below W.heap.size W w') from
    fun W h => apply_any s b d q (by omega) (by omega) hb hd W (HT.out W h))
  have hs' : ¬ (1000 : Int) < s.size := by omega
  have hp' : ¬ (1000 : Int) < p.size := by omega
  have hq' : ¬ (1000 : Int) < q.size := by omega
  have hac : mayN s a c p = 0 → 0 ≤ a ∧ 0 ≤ c ∧ a + c ≤ s.size := fun h => by have := mayN_zero h; omega
  have Hac := (show Hid _ from hac)
  clear hT hac
  generalize mayN s a c p = e1 at *
  generalize mayN s b d q = e2 at *
  generalize left s a c p = x at *
  generalize left s b d q = y at *
  rcases h with h | ⟨h, h2⟩ | ⟨h, h2, h3⟩
  · go_enter Tryd.func10, Tryd.ntmps10
    go_wp2_with fail
    refine (CA.out _ H0.1).mono ?_
    rintro e w1 ⟨rfl, hb1⟩
    have H1 := H0.later hb1
    obtain ⟨d0, d1, d2, d3, d4, d5⟩ := H1.cells
    clear hb1
    go_wp2_with fail
    refine (CB.out _ H1.1).mono ?_
    rintro e w2 ⟨rfl, hb2⟩
    have H2 := H1.later hb2
    clear hb2 d0 d1 d2 d3 d4 d5
    go_wp2_with fail
    refine (hwork.out _ H2.1).mono ?_
    rintro e w3 ⟨rfl, hb3⟩
    have H3 := H2.later hb3
    clear hb3
    go_wp2_with fail
    go_ret
    exact ⟨rfl, H3.1⟩
  · subst h
    go_enter Tryd.func10, Tryd.ntmps10
    go_wp2_with fail
    refine (CA.out _ H0.1).mono ?_
    rintro e w1 ⟨rfl, hb1⟩
    have H1 := H0.later hb1
    obtain ⟨d0, d1, d2, d3, d4, d5⟩ := H1.cells
    clear hb1
    go_wp2_with fail
    refine (CB.out _ H1.1).mono ?_
    rintro e w2 ⟨rfl, hb2⟩
    have H2 := H1.later hb2
    clear hb2 d0 d1 d2 d3 d4 d5
    go_wp2_with fail
    refine (hwork.out _ H2.1).mono ?_
    rintro e w3 ⟨rfl, hb3⟩
    have H3 := H2.later hb3
    clear hb3
    go_wp2_with fail
    go_ret
    exact ⟨rfl, H3.1⟩
  · subst h h2
    obtain ⟨z1, z2, z3⟩ := Hac.out rfl
    have zw : IntKind.i64.wrap (a + c) = a + c := IntWalk.i64_in _ (by omega)
    have hs2 : (s.size : Int) ≤ 1000 := by omega
    go_enter Tryd.func10, Tryd.ntmps10
    go_wp2_with fail
    refine (CA.out _ H0.1).mono ?_
    rintro e w1 ⟨rfl, hb1⟩
    have H1 := H0.later hb1
    obtain ⟨d0, d1, d2, d3, d4, d5⟩ := H1.cells
    clear hb1
    go_wp2_with fail
    refine (CB.out _ H1.1).mono ?_
    rintro e w2 ⟨rfl, hb2⟩
    have H2 := H1.later hb2
    clear hb2 d0 d1 d2 d3 d4 d5
    obtain ⟨d0, d1, d2, d3, d4, d5⟩ := H2.cells
    go_wp2_with fail
    refine (hwork.out _ H2.1).mono ?_
    rintro e w3 ⟨rfl, hb3⟩
    have H3 := H2.later hb3
    clear hb3
    go_wp2_with fail
    go_ret
    exact ⟨rfl, H3.1⟩
set_option maxRecDepth 100000 in
set_option maxHeartbeats 1000000 in
theorem comm_in (s : ByteArray) (a c : Nat) (p : ByteArray) (b d : Nat) (q : ByteArray) (w : World) (hT : Tabs w) (hs : s.size ≤ 1000) (hp : p.size ≤ 1000) (hq : q.size ≤ 1000)
    (h1 : mayN s a c p = 0) (h2 : mayN s b d q = 0) (h : a + c < b) :
    Calls Tryd.prog 10 #[.string s, .agg #[.int .i64 a, .int .i64 c, .string p], .agg #[.int .i64 b, .int .i64 d, .string q]] w fun e w' => e = .returned (.bool true) ∧ Below w.heap.size w w' := by
  have H0 := Two.new w a c b d p q
  obtain ⟨k1, _, _⟩ := may_carets h1
  obtain ⟨k2, _, _⟩ := may_carets h2
  have sz1 := app_size s a c p k1
  have sz2 := app_size s b d q k2
  have HT := (show Hid (∀ W, Below w.heap.size w W → Tabs W) from fun W h => Utf8Tabs_below hT h)
  have hwork := (show Hid (∀ W, Below w.heap.size w W → Calls Tryd.prog 16 #[] W fun e w' => e = .returned (.bool true) ∧ Below W.heap.size W w') from fun W h => works2_ok W (HT.out W h))
  have CA := (show Hid (∀ W, Below w.heap.size w W → Calls Tryd.prog 14 #[.string s, .agg #[.int .i64 a, .int .i64 c, .string p]] W fun e w' => e = .returned (.tuple #[.string (applied s a c p), .int .i64 0]) ∧ Below W.heap.size W w') from
    fun W h => apply_yes s a c p (by omega) (by omega) W (HT.out W h) h1)
  have CB := (show Hid (∀ W, Below w.heap.size w W → Calls Tryd.prog 14 #[.string s, .agg #[.int .i64 b, .int .i64 d, .string q]] W fun e w' => e = .returned (.tuple #[.string (applied s b d q), .int .i64 0]) ∧ Below W.heap.size W w') from
    fun W h => apply_yes s b d q (by omega) (by omega) W (HT.out W h) h2)
  have CM := (show Hid (∀ W, Calls Tryd.prog 35 #[.agg #[.int .i64 a, .int .i64 c, .string p], .int .i64 b] W fun e w' => e = .returned (.int .i64 (b - c + p.size : Nat)) ∧ Below W.heap.size W w') from fun W => by
    have := moved_ok a c b p (by omega) (by omega) (by omega) (by omega) W
    rw [show movedN a c p.size b = b - c + p.size from by unfold movedN; rw [if_neg (by omega), if_neg (by omega)]] at this
    exact this)
  have CP := (show Hid (∀ W, Below w.heap.size w W → Calls Tryd.prog 14 #[.string (applied s a c p), .agg #[.int .i64 (b - c + p.size : Nat), .int .i64 d, .string q]] W fun e w' => e = .returned (.tuple #[.string (left (applied s a c p) (b - c + p.size : Nat) d q), .int .i64 (mayN (applied s a c p) (b - c + p.size : Nat) d q)]) ∧ Below W.heap.size W w') from
    fun W h => apply_any _ _ _ _ (by omega) (by omega) (by omega) (by omega) W (HT.out W h))
  have CQ := (show Hid (∀ W, Below w.heap.size w W → Calls Tryd.prog 14 #[.string (applied s b d q), .agg #[.int .i64 a, .int .i64 c, .string p]] W fun e w' => e = .returned (.tuple #[.string (left (applied s b d q) a c p), .int .i64 (mayN (applied s b d q) a c p)]) ∧ Below W.heap.size W w') from
    fun W h => apply_any _ _ _ _ (by omega) (by omega) (by omega) (by omega) W (HT.out W h))
  have RS := (show Hid (∀ W, Below w.heap.size w W → Calls Tryd.prog 36 #[.string s] W fun e w' => e = .returned (.bool (rightB s)) ∧ Below W.heap.size W w') from fun W h => right_ok s W (by omega) (HT.out W h))
  have RP := (show Hid (∀ W, Below w.heap.size w W → Calls Tryd.prog 36 #[.string p] W fun e w' => e = .returned (.bool (rightB p)) ∧ Below W.heap.size W w') from fun W h => right_ok p W (by omega) (HT.out W h))
  have RQ := (show Hid (∀ W, Below w.heap.size w W → Calls Tryd.prog 36 #[.string q] W fun e w' => e = .returned (.bool (rightB q)) ∧ Below W.heap.size W w') from fun W h => right_ok q W (by omega) (HT.out W h))
  have KEY := (show Hid (rightB s = true → mayN (applied s a c p) (b - c + p.size : Nat) d q = 0 ∧ mayN (applied s b d q) a c p = 0) from fun hr => right_both s a c b d p q hr h1 h2 h hs hp hq)
  have EQ := (show Hid (mayN (applied s a c p) (b - c + p.size : Nat) d q = 0 → mayN (applied s b d q) a c p = 0 → left (applied s a c p) (b - c + p.size : Nat) d q = left (applied s b d q) a c p) from fun e1 e2 => by
    rw [left_yes e1, left_yes e2, app_commute s a c b d p q (by omega) k2])
  have hs' : ¬ (1000 : Int) < s.size := by omega
  have hp' : ¬ (1000 : Int) < p.size := by omega
  have hq' : ¬ (1000 : Int) < q.size := by omega
  have hab : ¬ (b : Int) ≤ (a : Int) + (c : Int) := by omega
  clear hT h1 h2 sz1 sz2
  generalize mayN (applied s a c p) (b - c + p.size : Nat) d q = g at *
  generalize mayN (applied s b d q) a c p = g' at *
  generalize left (applied s a c p) (b - c + p.size : Nat) d q = P at *
  generalize left (applied s b d q) a c p = Q at *
  generalize applied s a c p = x at *
  generalize applied s b d q = y at *
  generalize rightB s = rs at *
  generalize rightB p = rp at *
  generalize rightB q = rq at *
  generalize b - c + p.size = m at *
  go_enter Tryd.func10, Tryd.ntmps10
  go_wp2_with fail
  refine (CA.out _ H0.1).mono ?_
  rintro e w1 ⟨rfl, hb1⟩
  have H1 := H0.later hb1
  obtain ⟨d0, d1, d2, d3, d4, d5⟩ := H1.cells
  clear hb1
  go_wp2_with fail
  refine (CB.out _ H1.1).mono ?_
  rintro e w2 ⟨rfl, hb2⟩
  have H2 := H1.later hb2
  clear hb2 d0 d1 d2 d3 d4 d5
  obtain ⟨d0, d1, d2, d3, d4, d5⟩ := H2.cells
  clear H0 H1 CA CB
  go_wp2_with fail
  go_region_held3 (fun W => W.cell? ⟨w.heap.size, 0, none⟩ = some (.int .i64 (a : Int)) ∧ W.cell? ⟨w.heap.size, 1, none⟩ = some (.int .i64 (c : Int)) ∧ W.cell? ⟨w.heap.size, 2, none⟩ = some (.string p) ∧ W.cell? ⟨w.heap.size + 1, 0, none⟩ = some (.int .i64 (b : Int)) ∧ W.cell? ⟨w.heap.size + 1, 1, none⟩ = some (.int .i64 (d : Int)) ∧ W.cell? ⟨w.heap.size + 1, 2, none⟩ = some (.string q)) (first | assumption | (exact six_later (by assumption) (by assumption)) | go_keep) (first | (go_at_call 35; refine (CM.out _).mono ?_; rintro e w3 ⟨rfl, hb3⟩; have H3 : Two w a c p b d q w3 := (by first | exact H2.later hb3 | exact (H2.drewN 1).later hb3)) | (go_at_call 14; refine (CP.out _ (by first | exact H3.1 | exact (H3.drewN 1).1)).mono ?_; rintro e w4 ⟨rfl, hb4⟩; have H4 : Two w a c p b d q w4 := (by first | exact H3.later hb4 | exact (H3.drewN 1).later hb4)))
  have HH4 : Two w a c p b d q w4 := by assumption
  clear hb3 hb4 d0 d1 d2 d3 d4 d5
  obtain ⟨d0, d1, d2, d3, d4, d5⟩ := HH4.cells
  clear CM CP
  have hcases : (g = 0 ∧ g' = 0 ∧ P = Q ∧ rs = false) ∨ (g = 0 ∧ g' = 0 ∧ P = Q ∧ rs = true ∧ rp = false) ∨ (g = 0 ∧ g' = 0 ∧ P = Q ∧ rs = true ∧ rp = true ∧ rq = false) ∨ (g = 0 ∧ g' = 0 ∧ P = Q ∧ rs = true ∧ rp = true ∧ rq = true) ∨ (rs = false ∧ ¬ g = 0) ∨ (rs = false ∧ g = 0 ∧ ¬ g' = 0) := by
    by_cases hg : g = 0 ∧ g' = 0
    · have := EQ.out hg.1 hg.2
      cases rs <;> cases rp <;> cases rq <;> simp [hg.1, hg.2, this]
    · cases rs
      · by_cases e : g = 0
        · exact Or.inr (Or.inr (Or.inr (Or.inr (Or.inr ⟨rfl, e, fun e2 => hg ⟨e, e2⟩⟩))))
        · exact Or.inr (Or.inr (Or.inr (Or.inr (Or.inl ⟨rfl, e⟩))))
      · exact absurd (KEY.out rfl) hg
  clear KEY EQ
  rcases hcases with ⟨rfl, rfl, rfl, rfl⟩ | ⟨rfl, rfl, rfl, rfl, rfl⟩ | ⟨rfl, rfl, rfl, rfl, rfl, rfl⟩ | ⟨rfl, rfl, rfl, rfl, rfl, rfl⟩ | ⟨rfl, hg⟩ | ⟨rfl, rfl, hg⟩
  · skip
    go_wp2_with fail
    refine (CQ.out _ H4.1).mono ?_
    rintro e w5 ⟨rfl, hb5⟩
    have H5 := H4.later hb5
    clear hb5 d0 d1 d2 d3 d4 d5
    obtain ⟨d0, d1, d2, d3, d4, d5⟩ := H5.cells
    go_wp2_with fail
    refine (RS.out _ H5.1).mono ?_
    rintro e w6 ⟨rfl, hb6⟩
    have H6 := H5.later hb6
    clear hb6 d0 d1 d2 d3 d4 d5
    obtain ⟨d0, d1, d2, d3, d4, d5⟩ := H6.cells
    go_wp2_with fail
    refine (hwork.out _ H6.1).mono ?_
    rintro e w7 ⟨rfl, hb7⟩
    have H7 := H6.later hb7
    clear hb7 d0 d1 d2 d3 d4 d5
    obtain ⟨d0, d1, d2, d3, d4, d5⟩ := H7.cells
    go_wp2_with fail
    go_ret
    exact ⟨rfl, H7.1⟩
  · skip
    go_wp2_with fail
    refine (CQ.out _ H4.1).mono ?_
    rintro e w5 ⟨rfl, hb5⟩
    have H5 := H4.later hb5
    clear hb5 d0 d1 d2 d3 d4 d5
    obtain ⟨d0, d1, d2, d3, d4, d5⟩ := H5.cells
    go_wp2_with fail
    refine (RS.out _ H5.1).mono ?_
    rintro e w6 ⟨rfl, hb6⟩
    have H6 := H5.later hb6
    clear hb6 d0 d1 d2 d3 d4 d5
    obtain ⟨d0, d1, d2, d3, d4, d5⟩ := H6.cells
    go_wp2_with fail
    refine (RP.out _ H6.1).mono ?_
    rintro e w7 ⟨rfl, hb7⟩
    have H7 := H6.later hb7
    clear hb7 d0 d1 d2 d3 d4 d5
    obtain ⟨d0, d1, d2, d3, d4, d5⟩ := H7.cells
    go_wp2_with fail
    refine (hwork.out _ H7.1).mono ?_
    rintro e w8 ⟨rfl, hb8⟩
    have H8 := H7.later hb8
    clear hb8 d0 d1 d2 d3 d4 d5
    obtain ⟨d0, d1, d2, d3, d4, d5⟩ := H8.cells
    go_wp2_with fail
    go_ret
    exact ⟨rfl, H8.1⟩
  · skip
    go_wp2_with fail
    refine (CQ.out _ H4.1).mono ?_
    rintro e w5 ⟨rfl, hb5⟩
    have H5 := H4.later hb5
    clear hb5 d0 d1 d2 d3 d4 d5
    obtain ⟨d0, d1, d2, d3, d4, d5⟩ := H5.cells
    go_wp2_with fail
    refine (RS.out _ H5.1).mono ?_
    rintro e w6 ⟨rfl, hb6⟩
    have H6 := H5.later hb6
    clear hb6 d0 d1 d2 d3 d4 d5
    obtain ⟨d0, d1, d2, d3, d4, d5⟩ := H6.cells
    go_wp2_with fail
    refine (RP.out _ H6.1).mono ?_
    rintro e w7 ⟨rfl, hb7⟩
    have H7 := H6.later hb7
    clear hb7 d0 d1 d2 d3 d4 d5
    obtain ⟨d0, d1, d2, d3, d4, d5⟩ := H7.cells
    go_wp2_with fail
    refine (RQ.out _ H7.1).mono ?_
    rintro e w8 ⟨rfl, hb8⟩
    have H8 := H7.later hb8
    clear hb8 d0 d1 d2 d3 d4 d5
    obtain ⟨d0, d1, d2, d3, d4, d5⟩ := H8.cells
    go_wp2_with fail
    refine (hwork.out _ H8.1).mono ?_
    rintro e w9 ⟨rfl, hb9⟩
    have H9 := H8.later hb9
    clear hb9 d0 d1 d2 d3 d4 d5
    obtain ⟨d0, d1, d2, d3, d4, d5⟩ := H9.cells
    go_wp2_with fail
    go_ret
    exact ⟨rfl, H9.1⟩
  · skip
    go_wp2_with fail
    refine (CQ.out _ H4.1).mono ?_
    rintro e w5 ⟨rfl, hb5⟩
    have H5 := H4.later hb5
    clear hb5 d0 d1 d2 d3 d4 d5
    obtain ⟨d0, d1, d2, d3, d4, d5⟩ := H5.cells
    go_wp2_with fail
    refine (RS.out _ H5.1).mono ?_
    rintro e w6 ⟨rfl, hb6⟩
    have H6 := H5.later hb6
    clear hb6 d0 d1 d2 d3 d4 d5
    obtain ⟨d0, d1, d2, d3, d4, d5⟩ := H6.cells
    go_wp2_with fail
    refine (RP.out _ H6.1).mono ?_
    rintro e w7 ⟨rfl, hb7⟩
    have H7 := H6.later hb7
    clear hb7 d0 d1 d2 d3 d4 d5
    obtain ⟨d0, d1, d2, d3, d4, d5⟩ := H7.cells
    go_wp2_with fail
    refine (RQ.out _ H7.1).mono ?_
    rintro e w8 ⟨rfl, hb8⟩
    have H8 := H7.later hb8
    clear hb8 d0 d1 d2 d3 d4 d5
    obtain ⟨d0, d1, d2, d3, d4, d5⟩ := H8.cells
    go_wp2_with fail
    refine (hwork.out _ H8.1).mono ?_
    rintro e w9 ⟨rfl, hb9⟩
    have H9 := H8.later hb9
    clear hb9 d0 d1 d2 d3 d4 d5
    obtain ⟨d0, d1, d2, d3, d4, d5⟩ := H9.cells
    go_wp2_with fail
    go_ret
    exact ⟨rfl, H9.1⟩
  · skip
    go_wp2_with fail
    refine (CQ.out _ H4.1).mono ?_
    rintro e w5 ⟨rfl, hb5⟩
    have H5 := H4.later hb5
    clear hb5 d0 d1 d2 d3 d4 d5
    obtain ⟨d0, d1, d2, d3, d4, d5⟩ := H5.cells
    go_wp2_with fail
    refine (RS.out _ H5.1).mono ?_
    rintro e w6 ⟨rfl, hb6⟩
    have H6 := H5.later hb6
    clear hb6 d0 d1 d2 d3 d4 d5
    obtain ⟨d0, d1, d2, d3, d4, d5⟩ := H6.cells
    go_wp2_with fail
    refine (hwork.out _ H6.1).mono ?_
    rintro e w7 ⟨rfl, hb7⟩
    have H7 := H6.later hb7
    clear hb7 d0 d1 d2 d3 d4 d5
    obtain ⟨d0, d1, d2, d3, d4, d5⟩ := H7.cells
    go_wp2_with fail
    go_ret
    exact ⟨rfl, H7.1⟩
  · skip
    go_wp2_with fail
    refine (CQ.out _ H4.1).mono ?_
    rintro e w5 ⟨rfl, hb5⟩
    have H5 := H4.later hb5
    clear hb5 d0 d1 d2 d3 d4 d5
    obtain ⟨d0, d1, d2, d3, d4, d5⟩ := H5.cells
    go_wp2_with fail
    refine (RS.out _ H5.1).mono ?_
    rintro e w6 ⟨rfl, hb6⟩
    have H6 := H5.later hb6
    clear hb6 d0 d1 d2 d3 d4 d5
    obtain ⟨d0, d1, d2, d3, d4, d5⟩ := H6.cells
    go_wp2_with fail
    refine (hwork.out _ H6.1).mono ?_
    rintro e w7 ⟨rfl, hb7⟩
    have H7 := H6.later hb7
    clear hb7 d0 d1 d2 d3 d4 d5
    obtain ⟨d0, d1, d2, d3, d4, d5⟩ := H7.cells
    go_wp2_with fail
    go_ret
    exact ⟨rfl, H7.1⟩
theorem editCommutes_walk (s : ByteArray) (a c : Int) (p : ByteArray) (b d : Int) (q : ByteArray) (w : World) (hT : Tabs w) (hs : s.size ≤ 9223372036854775807) (ha : -9223372036854775808 ≤ a ∧ a ≤ 9223372036854775807) (hc : -9223372036854775808 ≤ c ∧ c ≤ 9223372036854775807) (hp : p.size ≤ 9223372036854775807) (hb : -9223372036854775808 ≤ b ∧ b ≤ 9223372036854775807) (hd : -9223372036854775808 ≤ d ∧ d ≤ 9223372036854775807) (hq : q.size ≤ 9223372036854775807) :
    Calls Tryd.prog 10 #[.string s, .agg #[.int .i64 a, .int .i64 c, .string p], .agg #[.int .i64 b, .int .i64 d, .string q]] w fun e w' => e = .returned (.bool true) ∧ Below w.heap.size w w' := by
  by_cases h1 : 1000 < s.size ∨ 1000 < p.size ∨ 1000 < q.size
  · exact comm_big s a c p b d q w hs hp hq h1
  by_cases h2 : mayN s a c p = 0 ∧ mayN s b d q = 0 ∧ a + c < b
  · obtain ⟨h3, h4, h5⟩ := h2
    have z1 := mayN_zero h3
    have z2 := mayN_zero h4
    obtain ⟨a, rfl⟩ : ∃ n : Nat, a = n := ⟨a.toNat, by omega⟩
    obtain ⟨c, rfl⟩ : ∃ n : Nat, c = n := ⟨c.toNat, by omega⟩
    obtain ⟨b, rfl⟩ : ∃ n : Nat, b = n := ⟨b.toNat, by omega⟩
    obtain ⟨d, rfl⟩ : ∃ n : Nat, d = n := ⟨d.toNat, by omega⟩
    exact comm_in s a c p b d q w hT (by omega) (by omega) (by omega) h3 h4 (by omega)
  · refine comm_out s a c p b d q w hT (by omega) (by omega) (by omega) ha hc hb hd ?_
    by_cases h3 : mayN s a c p = 0
    · by_cases h4 : mayN s b d q = 0
      · exact Or.inr (Or.inr ⟨h3, h4, by
          rcases Int.lt_or_le (a + c) b with h5 | h5
          · exact absurd ⟨h3, h4, h5⟩ h2
          · exact h5⟩)
      · exact Or.inr (Or.inl ⟨h3, h4⟩)
    · exact Or.inl h3
end Go.Proofs.YtpmgccjhflcoiaaDoor
