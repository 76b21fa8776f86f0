/-
  The walk of CacheLatest: it returns true, and nothing that was there has turned. No condition beyond what a slice of texts that came in gives.
-/
import Derived.Test.YtkapilomliicdaaWorks
import Derived.Test.YtkapilomliicdaaFirsts
import Derived.Test.YtkapilomliicdaaNobodyWalk
namespace Go.Proofs.Ytkapilomliicdaa
open Go.RowKit Go.Maps
set_option linter.unusedSimpArgs false
set_option linter.unusedVariables false

theorem put_latest {w : World} {B c m R : Nat} {s0 s1 s2 : Int} {L : List Ent} (h : CS w B c m R L s0 s1 s2) (hR : R ≤ 4096) (r : List ByteArray) (hr : L.map Ent.k = (firsts r).take R) (hL : r.length ≤ 100)
    (k : ByteArray) (hk : k.size ≤ maxLen) (n : Int) (hBw : B ≤ w.heap.size) :
    Calls Try.prog 6 #[.pointer (some ⟨c, 0, none⟩), .string k, .int .i64 n] w fun e w' => e = .returned (.tuple #[]) ∧
      ∃ L' s2', CS w' B c m R L' s0 s1 s2' ∧ L'.map Ent.k = (firsts (k :: r)).take R ∧ (∀ x ∈ L', (x.k = k ∧ x.n = n) ∨ ∃ y ∈ L, y.k = x.k ∧ y.n = x.n) ∧ Below B w w' := by
  have hlen : L.length ≤ R := by
    have := congrArg List.length hr
    simp at this
    omega
  rcases Nat.eq_zero_or_pos R with rfl | hpos
  · have hL0 : L = [] := by simpa using hlen
    subst hL0
    refine (put_noroom h k n).mono ?_
    rintro e w' ⟨rfl, rfl⟩
    exact ⟨rfl, [], s2, h, by simp, by simp, Below.refl _ _⟩
  · rcases h.look k hk with ⟨hn, hl⟩ | ⟨xs, x, ys, rfl, rfl, hl⟩
    · refine (put_miss h hpos hR hlen k hk n hn hBw hl).mono ?_
      rintro e w' ⟨rfl, b, hcs, hB⟩
      refine ⟨rfl, _, _, hcs, ?_, ?_, hB⟩
      · rw [← (put_firsts R hpos k r).2 (by rw [← hr]; exact hn), ← hr]
        simp [List.map_take]
      · intro x hx
        rcases List.mem_cons.1 hx with rfl | hx
        · exact Or.inl ⟨rfl, rfl⟩
        · exact Or.inr ⟨x, List.mem_of_mem_take hx, rfl, rfl⟩
    · refine (put_hit h hpos n hl).mono ?_
      rintro e w' ⟨rfl, hcs, hB⟩
      refine ⟨rfl, _, _, hcs, ?_, ?_, hB⟩
      · rw [← (put_firsts R hpos x.k r).1 (by rw [← hr]; simp), ← hr]
        have hn := h.keys
        simp only [List.map_append, List.map_cons, List.nodup_append, List.nodup_cons, List.mem_cons] at hn
        simp only [List.map_cons, List.map_append, List.filter_append]
        congr 1
        rw [List.filter_cons, if_neg (by simp)]
        congr 1
        · symm
          rw [List.filter_eq_self]
          intro y hy
          simpa using hn.2.2 y hy x.k (Or.inl rfl)
        · symm
          rw [List.filter_eq_self]
          intro y hy
          have : y ≠ x.k := fun e => hn.2.1.1 (e ▸ hy)
          simpa using this
      · intro y hy
        rcases List.mem_cons.1 hy with rfl | hy
        · exact Or.inl ⟨rfl, rfl⟩
        · refine Or.inr ⟨y, ?_, rfl, rfl⟩
          rcases List.mem_append.1 hy with h | h <;> simp [h]

/-- strings that the call owns -/
def OS (w : World) (base : Nat) (v : Value) (l : List ByteArray) : Prop := w.ownsRow base 9 1 v l.length (l.map Value.string)

theorem OS.shape {w : World} {base : Nat} {v : Value} {l : List ByteArray} (h : OS w base v l) : ∃ a cap, v = .slice a l.length cap ∧ ∀ i, (hi : i < l.length) → ∃ g, a = some ⟨g, 0, none⟩ ∧ w.cell? ⟨g, i, none⟩ = some (.string l[i]) := by
  rcases h.2 with ⟨rfl, h0⟩ | ⟨g, cap, cur, rfl, hr⟩
  · exact ⟨none, 0, by rw [h0], fun i hi => by omega⟩
  · refine ⟨_, _, rfl, fun i hi => ⟨g, rfl, ?_⟩⟩
    have := World.ownsRow.cellAt h i (by omega)
    rw [this]
    simp [hi]

theorem OS.keep {w w' : World} {base : Nat} {v : Value} {l : List ByteArray} (h : OS w base v l) (hb : ∀ g, base ≤ g → g < w.heap.size → v.ownBlock = some g → w'.heap[g]? = w.heap[g]?) : OS w' base v l := by
  refine ⟨h.1, ?_⟩
  rcases h.2 with h2 | ⟨g, cap, cur, rfl, hg, hh, r⟩
  · exact Or.inl h2
  · exact Or.inr ⟨g, cap, cur, rfl, hg, (hb g hg (blk_lt hh) rfl).trans hh, r⟩

theorem OS.block {w : World} {base : Nat} {v : Value} {l : List ByteArray} (h : OS w base v l) {g : Nat} (hg : v.ownBlock = some g) : base ≤ g ∧ g < w.heap.size := by
  rcases h.2 with ⟨rfl, _⟩ | ⟨g', cap, cur, rfl, hg', hh, r⟩
  · cases hg
  · simp [Value.ownBlock] at hg
    subst hg
    exact ⟨hg', blk_lt hh⟩

theorem Eqv.cell {w w' : World} (h : Eqv w w') (a : Addr) : w'.cell? a = w.cell? a := by simp [World.cell?, h.heap]
theorem Eqv.trans {a b c : World} (h : Eqv a b) (k : Eqv b c) : Eqv a c := ⟨k.heap.trans h.heap, k.os.trans h.os, k.tape.trans h.tape, k.output.trans h.output⟩

theorem drewN_eqv (w : World) (n : Nat) : Eqv w (w.drewN n) := by
  induction n with
  | zero => exact Eqv.refl _
  | succ n ih => exact ⟨ih.heap, ih.os, ih.tape, ih.output⟩
theorem drewN_below (B : Nat) (w : World) (n : Nat) : Below B w (w.drewN n) := (drewN_eqv w n).below B

theorem teq {a b : ByteArray} (h : a = b) : (a.toList == b.toList) = true := by subst h; simp
theorem tne {a b : ByteArray} (h : a ≠ b) : (a.toList == b.toList) = false := by
  rw [beq_eq_false_iff_ne, ByteArray.toList_eq, ByteArray.toList_eq]
  exact fun e => h (WideShapes.bytes_inj e)

def names (ss : Nat → ByteArray) (n : Nat) : List ByteArray := (List.range n).map ss
theorem names_succ (ss : Nat → ByteArray) (n : Nat) : (names ss (n + 1)).reverse = ss n :: (names ss n).reverse := by
  simp [names, List.range_succ]
theorem names_length (ss : Nat → ByteArray) (n : Nat) : (names ss n).length = n := by simp [names]

set_option maxRecDepth 100000 in
set_option maxHeartbeats 1600000 in
theorem latest_walk (room : Int) (hroom : (Lit.int .i64 room).wf = true) (a0 : Option Addr) (len cap b off : Nat) (ss : Nat → ByteArray) (w : World) (ha : 0 < len → a0 = some ⟨b, off, none⟩)
    (hc : ∀ i, i < len → w.cell? ⟨b, off + i, none⟩ = some (.string (ss i))) (hb : 0 < len → b < w.heap.size) (hss : ∀ i, i < len → (ss i).size ≤ maxLen) :
    Calls Try.prog 3 #[.int .i64 room, .slice a0 len cap] w fun e w' => e = .returned (.bool true) ∧ Below w.heap.size w w' := by
  by_cases hlen : 60 < len
  · go_enter Try.func3, Try.ntmps3
    go_wp2
    go_ret
    exact ⟨rfl, Below.refl _ _⟩
  · have hl60 : len ≤ 60 := by omega
    obtain ⟨R, hRr, hR⟩ : ∃ R : Nat, max 0 (min room 4096) = (R : Int) ∧ R ≤ 4096 := ⟨(max 0 (min room 4096)).toNat, by omega, by omega⟩
    have hnew := new_cs room w
    rw [hRr] at hnew
    have HR := (show Hid _ from hRr)
    clear hRr
    go_enter Try.func3, Try.ntmps3
    go_wp2_with fail
    refine hnew.mono ?_
    rintro e w1 ⟨rfl, h1, hB1⟩
    clear hnew
    generalize w.heap.size + 1 = c at h1 ⊢
    go_wp2_with fail
    go_loopg [6] len (fun g i wr => ∃ (j : Nat) (L : List Ent) (s2 : Int), i = .int .i64 j ∧ j ≤ len ∧ len ≤ j + g ∧ CS wr w.heap.size c w.heap.size R L 0 0 s2 ∧ L.map Ent.k = (firsts (names ss j).reverse).take R ∧
      (∀ x ∈ L, ∃ q, q < j ∧ x.n = (q : Int) ∧ ss q = x.k) ∧ Below w.heap.size w wr)
    case atStart => exact ⟨0, [], 0, rfl, by omega, by omega, h1, by simp [names, firsts], by simp, hB1⟩
    case round =>
      obtain ⟨j, L, s2, rfl, hj, hg, h2, hLk, hLn, hB2⟩ := hrel
      by_cases hjl : j < len
      · obtain rfl := ha (by omega)
        have hbl := hb (by omega)
        have cj : wr.cell? ⟨b, off + j, none⟩ = some (.string (ss j)) := (hB2.cell hbl).trans (hc j hjl)
        have hput := put_latest h2 hR _ hLk (by simp [names_length]; omega) (ss j) (hss j hjl) j hB2.size
        have HL := (show Hid _ from And.intro hLk hLn)
        clear hLk hLn ha
        go_wp2_with (go_at_call 6; refine hput.mono ?_; rintro e w2 ⟨rfl, L', s2', h3, hLk', hLn', hB3⟩; have HL' := (show Hid _ from And.intro hLk' hLn'); clear hLk' hLn')
        go_roundg (gk - 1)
        case measure => omega
        case rel =>
          refine ⟨j + 1, L', s2', by go_num, by omega, by omega, h3, ?_, ?_, hB2.trans hB3⟩
          · rw [names_succ]; exact HL'.out.1
          · intro x hx
            rcases HL'.out.2 x hx with ⟨e1, e2⟩ | ⟨y, hy, e1, e2⟩
            · exact ⟨j, by omega, e2, e1.symm⟩
            · obtain ⟨q, q1, q2, q3⟩ := HL.out.2 y hy
              exact ⟨q, by omega, by rw [← e2]; exact q2, by rw [← e1]; exact q3⟩
      · obtain rfl : len = j := by omega
        have HL := (show Hid _ from And.intro hLk hLn)
        clear hLk hLn
        go_wp2_with fail
        obtain ⟨wo, rfl⟩ : ∃ wo : World, wo = wr := ⟨_, rfl⟩
        obtain ⟨i0, hi, hz0, hz1, hz2⟩ := info_parts info9
        have hwo := hB2.size
        go_loopg [7, 8] len (fun g v i wr => ∃ (x : Int) (q : Nat) (acc : List ByteArray), i = .int .i64 x ∧ Hid (x = (q : Int) - 1) ∧ q ≤ len ∧ q ≤ g ∧ OS wr wo.heap.size v acc ∧
          Hid (acc ++ notIn acc (firsts (names ss q).reverse) = firsts (names ss len).reverse) ∧ (acc.length : Int) ≤ max 0 room ∧ Below wo.heap.size wo wr)
        case atStart => exact ⟨_, len, [], rfl, rfl, by omega, by omega, ⟨rfl, Or.inl ⟨rfl, rfl⟩⟩, by simp [Hid, notIn], by simp; omega, Below.refl _ _⟩
        case round =>
          obtain ⟨x, q, acc, rfl, Hx, hq, hqg, hown, Hacc, haccr, hB3⟩ := hrel
          obtain ⟨av, vcap, rfl, hvat⟩ := hown.shape
          have hacc60 : acc.length ≤ len := by
            have e := congrArg List.length Hacc.out
            have := firsts_length (names ss len).reverse
            simp only [List.length_append, List.length_reverse, names_length] at e this
            omega
          by_cases hcont : 0 ≤ x ∧ (acc.length : Int) < room
          · obtain ⟨hx0, hroomlt⟩ := hcont
            obtain ⟨p, rfl⟩ := Int.eq_ofNat_of_zero_le hx0
            obtain rfl : q = p + 1 := by have := Hx.out; omega
            obtain rfl := ha (by omega)
            have hbl := hb (by omega)
            clear ha
            have hs3 := hB3.size
            go_wp2_with fail
            obtain ⟨wm, rfl⟩ : ∃ wm : World, wm = wr := ⟨_, rfl⟩
            go_loopg [9, 10] acc.length (fun g d k wi => ∃ (kk : Nat) (dd : Bool), d = .bool dd ∧ k = .int .i64 kk ∧ kk ≤ acc.length ∧ acc.length ≤ kk + g ∧ Hid (dd = true ↔ ss p ∈ acc.take kk) ∧ Eqv wm wi)
            case atStart => exact ⟨0, false, rfl, rfl, by omega, by omega, by simp [Hid], Eqv.refl _⟩
            case round =>
              obtain ⟨kk, dd, rfl, rfl, hkk, hkg, Hdd, hE⟩ := hrel
              by_cases hklt : kk < acc.length
              · obtain ⟨g, rfl, hcg⟩ := hvat kk hklt
                have cg : wr.cell? ⟨g, kk, none⟩ = some (.string acc[kk]) := (hE.cell _).trans hcg
                have cp : wr.cell? ⟨b, off + p, none⟩ = some (.string (ss p)) := (hE.cell _).trans (((hB2.trans (hB3.mono hwo)).cell hbl).trans (hc p (by omega)))
                have htk : acc.take (kk + 1) = acc.take kk ++ [acc[kk]] := by rw [List.take_succ_eq_append_getElem hklt]
                have Htk := (show Hid _ from htk)
                clear htk hcg hvat
                generalize hak : acc[kk] = ak at cg Htk
                have Hak := (show Hid _ from hak)
                clear hak
                cases dd with
                | true =>
                  go_wp2
                  go_quiet (fail)
                  go_wp2
                  go_roundg (gk - 1)
                  case measure => omega
                  case rel =>
                    refine ⟨kk + 1, true, rfl, by go_num, by omega, by omega, ?_, ?_⟩
                    · have := Hdd.out
                      simp only [true_iff] at this
                      simp only [Hid, true_iff, Htk.out]
                      exact List.mem_append_left _ this
                    · exact hE.trans ⟨rfl, rfl, rfl, rfl⟩
                | false =>
                  by_cases hq2 : ak = ss p
                  · have hq3 := teq hq2
                    have Hq2 := (show Hid _ from hq2)
                    clear hq2
                    go_wp2
                    go_quiet (fail)
                    go_wp2
                    go_roundg (gk - 1)
                    case measure => omega
                    case rel =>
                      refine ⟨kk + 1, true, rfl, by go_num, by omega, by omega, ?_, ?_⟩
                      · simp only [Hid, true_iff, Htk.out, Hq2.out]
                        simp
                      · exact hE.trans ⟨rfl, rfl, rfl, rfl⟩
                  · have hq3 := tne hq2
                    have Hq2 := (show Hid _ from hq2)
                    clear hq2
                    go_wp2
                    go_quiet (fail)
                    go_wp2
                    go_roundg (gk - 1)
                    case measure => omega
                    case rel =>
                      refine ⟨kk + 1, false, rfl, by go_num, by omega, by omega, ?_, ?_⟩
                      · have := Hdd.out
                        simp only [Bool.false_eq_true, false_iff] at this
                        simp only [Hid, Bool.false_eq_true, false_iff, Htk.out, List.mem_append, List.mem_singleton, not_or]
                        exact ⟨this, fun e => Hq2.out e.symm⟩
                      · exact hE.trans ⟨rfl, rfl, rfl, rfl⟩
              · obtain rfl : kk = acc.length := by omega
                have hdd := Hdd.out
                rw [List.take_length] at hdd
                have hstep := firsts_step acc (ss p) (names ss p).reverse
                rw [← names_succ, Hacc.out] at hstep
                cases dd with
                | true =>
                  simp only [true_iff] at hdd
                  rw [if_pos hdd] at hstep
                  have Hst := (show Hid _ from hstep)
                  clear hstep hdd Hacc Hdd Hx
                  go_wp2_with fail
                  go_roundg p
                  case measure => omega
                  case rel =>
                    refine ⟨_, p, acc, rfl, rfl, by omega, by omega, ?_, Hst.out.symm, haccr, hB3.trans (hE.below _)⟩
                    exact hown.keep (fun g _ _ _ => by rw [hE.heap])
                | false =>
                  simp only [Bool.false_eq_true, false_iff] at hdd
                  rw [if_neg hdd] at hstep
                  have Hst := (show Hid _ from hstep)
                  clear hstep hdd Hacc Hdd Hx
                  have hown' : OS wr wo.heap.size (.slice av acc.length vcap) acc := hown.keep (fun g _ _ _ => by rw [hE.heap])
                  have cp : wr.cell? ⟨b, off + p, none⟩ = some (.string (ss p)) := (hE.cell _).trans (((hB2.trans (hB3.mono hwo)).cell hbl).trans (hc p (by omega)))
                  have hs3' : wo.heap.size ≤ wr.heap.size := by rw [hE.heap]; exact hs3
                  have hb3 := hB3.trans (hE.below wo.heap.size)
                  clear hvat hown
                  go_wp2_with (at_builtin; refine wpList_append_own _ rfl _ _ 22 rfl wo.heap.size 9 i0 (.string ⟨#[]⟩) 1 16 Try.underlying22 hi hz0 hz1 hz2 rfl (by decide) _ _ _ rfl (World.ownsRow.alloc hown' _) ⟨wr.heap.size, 0, none⟩ 1 1 [.string (ss p)] rfl rfl (cell_one_new _ _ _) (one_string _) (by unfold maxLen; omega) (by omega) (by simp; omega) ?_; intro v' w5 hown5 hgrow5 _)
                  go_roundg p
                  case measure => omega
                  case rel =>
                    refine ⟨_, p, acc ++ [ss p], rfl, rfl, by omega, by omega, ?_, Hst.out.symm, by simp; omega, ?_⟩
                    · simpa [OS] using hown5
                    · exact (hb3.alloc hs3' _).grown hgrow5 (by simp; omega) (fun k hk => (OS.block hown' (g := k) hk).1)
          · have hsame : acc = L.map Ent.k := by
              have e1 := HL.out.1
              have e2 := HR.out
              have e3 := Hacc.out
              have e4 := Hx.out
              have e5 := firsts_length (names ss len).reverse
              simp only [List.length_reverse, names_length] at e5
              rw [e1]
              by_cases hx0 : 0 ≤ x
              · have hge : room ≤ acc.length := by
                  have : ¬ ((acc.length : Int) < room) := fun h => hcont ⟨hx0, h⟩
                  omega
                rw [← e3] at e5 ⊢
                rw [List.length_append] at e5
                rw [List.take_append_of_le_length (by omega), List.take_of_length_le (by omega)]
              · have hq0 : q = 0 := by omega
                subst hq0
                have : notIn acc (firsts (names ss 0).reverse) = [] := by simp [names, firsts, notIn]
                rw [this, List.append_nil] at e3
                rw [← e3] at e5 ⊢
                rw [List.take_of_length_le (by omega)]
            subst hsame
            have hcs3 := h2.below hB3
            have hkeys := keys_cs hcs3 (by simp only [List.length_map] at hacc60; omega)
            have hLn := HL.out.2
            have hLb : ∀ b ∈ c :: w.heap.size :: L.map Ent.b, b < wo.heap.size := h2.lt
            have hgo : (decide (0 ≤ x) = false) ∨ (decide (0 ≤ x) = true ∧ decide ((L.length : Int) < room) = false) := by
              by_cases hx0 : 0 ≤ x
              · right
                refine ⟨by simpa using hx0, ?_⟩
                have : ¬ (((L.map Ent.k).length : Int) < room) := fun h => hcont ⟨hx0, h⟩
                simpa using this
              · left; simpa using hx0
            have hl60' : (L.length : Int) ≤ 60 := by simp only [List.length_map] at hacc60; omega
            clear hcont Hx Hacc HL HR hacc60 haccr
            rcases hgo with hg1 | ⟨hg1, hg2⟩
            all_goals
              go_wp2_with (go_at_call 7; refine hkeys.mono ?_; rintro e w4 ⟨lv, rfl, hlv, hB4⟩; obtain ⟨la, lc, rfl⟩ := keys_len hlv; clear hkeys)
              have hs34 := hB4.size
              have hsz4 := hB3.size
              have hOSw : OS w4 wo.heap.size (.slice av (L.map Ent.k).length vcap) (L.map Ent.k) := hown.keep (fun g _ hg _ => hB4.block g hg)
              have hOSl : OS w4 wr.heap.size (.slice la (L.map Ent.k).length lc) (L.map Ent.k) := by
                simp only [OS, List.map_map, List.length_map]
                exact hlv
              have hcs4 := hcs3.below hB4
              have hb4 := (hB2.trans (hB3.mono hwo)).trans (hB4.mono (by omega))
              obtain ⟨av', vcap', ev, hvat'⟩ := hOSw.shape
              obtain ⟨la', lc', el, hlat⟩ := hOSl.shape
              simp only [Value.slice.injEq] at ev el
              obtain ⟨rfl, _, rfl⟩ := ev
              obtain ⟨rfl, _, rfl⟩ := el
              have hwb : ∀ g, av = some ⟨g, 0, none⟩ → g < w4.heap.size ∧ g ∉ c :: L.map Ent.b := by
                intro g hg
                have := hOSw.block (g := g) (by rw [hg]; rfl)
                exact ⟨this.2, fun hm => by have := hLb g (by simp only [List.mem_cons] at hm ⊢; rcases hm with h | h <;> simp [h]); omega⟩
              have hlb : ∀ g, la = some ⟨g, 0, none⟩ → g < w4.heap.size ∧ g ∉ c :: L.map Ent.b := by
                intro g hg
                have := hOSl.block (g := g) (by rw [hg]; rfl)
                exact ⟨this.2, fun hm => by have := hLb g (by simp only [List.mem_cons] at hm ⊢; rcases hm with h | h <;> simp [h]); omega⟩
              clear hvat hown hlv hOSw hOSl hcs3 hB4 hB3
              go_loopg [12] L.length (fun g i wi => ∃ (j : Nat) (L' : List Ent) (t0 : Int), i = .int .i64 j ∧ j ≤ L.length ∧ L.length ≤ j + g ∧ CS wi w.heap.size c w.heap.size R L' t0 0 s2 ∧ L'.Perm L ∧
                Hid (∀ b, b < w4.heap.size → b ∉ c :: L.map Ent.b → wi.heap[b]? = w4.heap[b]?) ∧ Below w.heap.size w wi)
              case atStart => exact ⟨0, L, 0, rfl, by omega, by omega, hcs4, List.Perm.refl _, fun _ _ _ => rfl, hb4⟩
              case round =>
                obtain ⟨j, L', t0, rfl, hj5, hg5, hcs5, hperm, Hfr, hB5⟩ := hrel
                by_cases hjl5 : j < L.length
                · obtain ⟨gw, rfl, hcw⟩ := hvat' j (by simpa using hjl5)
                  obtain ⟨gl, rfl, hcl⟩ := hlat j (by simpa using hjl5)
                  rw [List.getElem_map] at hcw hcl
                  obtain ⟨y, hy⟩ : ∃ y, y = L[j] := ⟨_, rfl⟩
                  rw [← hy] at hcw hcl
                  have hyL : y ∈ L := by rw [hy]; exact List.getElem_mem _
                  clear hy
                  obtain ⟨xs, ys, rfl⟩ := List.append_of_mem (hperm.mem_iff.2 hyL)
                  obtain ⟨q5, hq5, hyn, hyk⟩ := hLn y hyL
                  obtain rfl := ha (by omega)
                  have hbl := hb (by omega)
                  have hget := get_fr hcs5 (look_yes hcs5)
                  rw [hyn] at hget
                  have hw5 := hwb gw rfl
                  have hl5 := hlb gl rfl
                  have cl1 : wr.cell? ⟨gl, j, none⟩ = some (.string y.k) := (World.cell?_of_block (Hfr.out gl hl5.1 hl5.2)).trans hcl
                  have hbne : ∀ g, g ∉ c :: L.map Ent.b → g ≠ c ∧ g ∉ (xs ++ y :: ys).map Ent.b := fun g hg => ⟨fun e => hg (by simp [e]), fun h => hg (List.mem_cons_of_mem _ ((hperm.map Ent.b).mem_iff.1 h))⟩
                  clear hcl hvat' hlat ha
                  go_wp2_with fail
                  refine hget.mono ?_
                  rintro e w6 ⟨rfl, hcs6, hB6, hfr6⟩
                  have HF := (show Hid _ from And.intro Hfr (And.intro hfr6 (And.intro hperm (And.intro hB5 hB6))))
                  have cl2 : w6.cell? ⟨gl, j, none⟩ = some (.string y.k) := (World.cell?_of_block (hfr6 gl (hbne gl hl5.2).1 (hbne gl hl5.2).2)).trans cl1
                  have cw2 : w6.cell? ⟨gw, j, none⟩ = some (.string y.k) := ((World.cell?_of_block (hfr6 gw (hbne gw hw5.2).1 (hbne gw hw5.2).2)).trans (World.cell?_of_block (Hfr.out gw hw5.1 hw5.2))).trans hcw
                  have ck : w6.cell? ⟨b, off + q5, none⟩ = some (.string y.k) := (((hB5.trans hB6).cell hbl).trans (hc q5 hq5)).trans (by rw [hyk])
                  have hyy : (y.k.toList == y.k.toList) = true := by simp
                  clear hget hcw cl1 hfr6 hperm hB5 hB6 Hfr hyk hbne hw5 hl5 hwb hlb hyn
                  have hwr : IntKind.i64.wrap ((len : Int) - 1) = (len : Int) - 1 := IntWalk.i64_in _ (by omega)
                  have hmin : ¬ ((len : Int) - 1 < (q5 : Int)) := by omega
                  go_wp2_with fail
                  rcases Nat.eq_zero_or_pos q5 with rfl | hpos
                  · have ck0 : w6.cell? ⟨b, off, none⟩ = some (.string y.k) := by simpa using ck
                    have hmin0 : ¬ ((len : Int) - 1 < 0) := by omega
                    clear ck hmin
                    go_quiet (fail)
                    go_wp2_with fail
                    obtain ⟨f1, f2, f3, f4, f5⟩ := HF.out
                    go_roundg (gk - 1)
                    case measure => omega
                    case rel =>
                      refine ⟨j + 1, _, _, by go_num, by omega, by omega, hcs6.below ?_, List.perm_middle.symm.trans f3, ?_, (f4.trans f5).trans ?_⟩
                      · exact drewN_below _ _ _
                      · intro g hg1 hg2
                        have e1 : g ≠ c := fun e => hg2 (by simp [e])
                        have e2 : g ∉ (xs ++ y :: ys).map Ent.b := fun h => hg2 (List.mem_cons_of_mem _ ((f3.map Ent.b).mem_iff.1 h))
                        have : (w6.drewN nq).heap = w6.heap := (drewN_eqv w6 nq).heap
                        rw [this]
                        exact (f2 g e1 e2).trans (f1.out g hg1 hg2)
                      · exact drewN_below _ _ _
                  · have hpos' : (0 : Int) < (q5 : Int) := by omega
                    go_quiet (fail)
                    go_wp2_with fail
                    obtain ⟨f1, f2, f3, f4, f5⟩ := HF.out
                    go_roundg (gk - 1)
                    case measure => omega
                    case rel =>
                      refine ⟨j + 1, _, _, by go_num, by omega, by omega, hcs6.below ?_, List.perm_middle.symm.trans f3, ?_, (f4.trans f5).trans ?_⟩
                      · exact drewN_below _ _ _
                      · intro g hg1 hg2
                        have e1 : g ≠ c := fun e => hg2 (by simp [e])
                        have e2 : g ∉ (xs ++ y :: ys).map Ent.b := fun h => hg2 (List.mem_cons_of_mem _ ((f3.map Ent.b).mem_iff.1 h))
                        have : (w6.drewN nq).heap = w6.heap := (drewN_eqv w6 nq).heap
                        rw [this]
                        exact (f2 g e1 e2).trans (f1.out g hg1 hg2)
                      · exact drewN_below _ _ _
                · clear hvat' hlat hwb hlb
                  go_wp2_with (go_at_call 9; refine (works_any _).mono ?_; rintro e w7 ⟨rfl, hB7⟩)
                  go_ret
                  exact ⟨rfl, hB5.trans (hB7.mono hB5.size)⟩
end Go.Proofs.Ytkapilomliicdaa
