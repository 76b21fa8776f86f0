/-
  Contract of Show of package utf. No condition beyond those that each theorem states.
-/
import Derived.Test.YtpmgccjhflcoiaaDoorFmt
namespace Go.Proofs.YtpmgccjhflcoiaaDoor
open Go.RowKit
set_option linter.unusedSimpArgs false
set_option linter.unusedVariables false

theorem byte_get1 (s : ByteArray) (i : Nat) (h : i < s.size) : byteAt s i = (s[i]'h).toNat := by
  unfold byteAt; rw [Utf8W.get!_of_lt s i h]
/-- how an item is shown -/
def piece (s : ByteArray) (i : Nat) : ByteArray :=
  if okAt s i then (if (dec s i).1 = 92 then ⟨#[92, 92]⟩ else if 32 ≤ (dec s i).1 ∧ (dec s i).1 ≠ 127 then s.extract i (i + (dec s i).2) else escS (dec s i).1) else escS (byteAt s i)
/-- how the first items are shown -/
def shownL (s : ByteArray) : Nat → List UInt8
  | 0 => []
  | k + 1 => shownL s k ++ (piece s (pos s k)).data.toList
theorem esc_size (u : Nat) (h : u ≤ 1114111) : (escS u).size ≤ 11 := by
  have := hexL_len 6 u (by omega)
  have hz : (⟨(hexL u).toArray⟩ : ByteArray).size = (hexL u).length := List.size_toArray
  unfold escS
  rw [ByteArray.size_append, ByteArray.size_append, hz]
  show 3 + _ + 1 ≤ 11
  omega
theorem piece_size (s : ByteArray) (i : Nat) : (piece s i).size ≤ 11 := by
  have hd := dec_bounds s i
  unfold piece
  split
  · split
    · show 2 ≤ 11; omega
    · split
      · rw [ByteArray.size_extract]; omega
      · exact esc_size _ hd.1
  · exact esc_size _ (by have := byteAt_lt s i; omega)
theorem shown_len (s : ByteArray) (k : Nat) : (shownL s k).length ≤ 11 * k := by
  induction k with
  | zero => exact Nat.le_refl _
  | succ k ih =>
    have := piece_size s (pos s k)
    unfold shownL
    rw [List.length_append, ← Lib.size_eq]
    omega
theorem bld_later {B b : Nat} {l : List UInt8} {W W' : World} (h : BldF B b l W) (hb : Below W.heap.size W W') : BldF B b l W' := by
  have hg : W.grownBy W' none := ⟨hb.os, hb.tape, hb.output, hb.size, fun k hk _ => hb.block k hk⟩
  rcases h with ⟨h1, v, h2, h3, h4⟩ | ⟨h1, v, h2, h3, h4⟩
  · refine Or.inl ⟨h1, v, (hb.block b (blk_lt h2)).trans h2, h3.kept hg ?_, h4⟩
    cases hv : v.ownBlock with
    | none => exact Or.inl rfl
    | some g => exact Or.inr (by simp)
  · refine Or.inr ⟨h1, v, (hb.block b (blk_lt h2)).trans h2, h3.kept hg ?_, h4⟩
    cases hv : v.ownBlock with
    | none => exact Or.inl rfl
    | some g => exact Or.inr (by simp)
theorem bld_new (w : World) : BldF w.heap.size w.heap.size [] (w.alloc (.cells #[.pointer none, .slice none 0 0] 70)) :=
  Or.inl ⟨Nat.le_refl _, .slice none 0 0, blk_new _ _, World.ownsRow_nil _ _ _ _, by simp [Value.ownBlock]⟩
/-- what the loop of Show has in memory: the builder and the item that is shown -/
def Shw (w : World) (l : List UInt8) (n : Nat) (a z r : Int) (ok : Bool) (W : World) : Prop :=
  BldF w.heap.size w.heap.size l W ∧ Below w.heap.size w W ∧ n ≠ w.heap.size ∧ W.heap[n]? = some (.cells #[.int .i64 a, .int .i64 z, .int .i32 r, .bool ok] 35 (0, 0))
theorem Shw.cells {w W : World} {l : List UInt8} {n : Nat} {a z r : Int} {ok : Bool} (h : Shw w l n a z r ok W) :
    W.cell? ⟨n, 1, none⟩ = some (.int .i64 z) ∧ W.cell? ⟨n, 2, none⟩ = some (.int .i32 r) ∧ W.cell? ⟨n, 3, none⟩ = some (.bool ok) := ⟨blk_cell h.2.2.2 rfl, blk_cell h.2.2.2 rfl, blk_cell h.2.2.2 rfl⟩
theorem Shw.later {w W W' : World} {l : List UInt8} {n : Nat} {a z r : Int} {ok : Bool} (h : Shw w l n a z r ok W) (hb : Below W.heap.size W W') : Shw w l n a z r ok W' :=
  ⟨bld_later h.1 hb, h.2.1.trans (hb.mono h.2.1.size), h.2.2.1, (hb.block n (blk_lt h.2.2.2)).trans h.2.2.2⟩
theorem Shw.new {w W : World} {l : List UInt8} (hb : BldF w.heap.size w.heap.size l W) (hB : Below w.heap.size w W) (hlt : w.heap.size < W.heap.size) (a z r : Int) (ok : Bool) : Shw w l W.heap.size a z r ok (W.alloc (.cells #[.int .i64 a, .int .i64 z, .int .i32 r, .bool ok] 35)) :=
  ⟨bld_later hb ((Below.refl _ _).alloc (Nat.le_refl _) _), hB.alloc hB.size _, by omega, blk_new _ _⟩
theorem Shw.write {w W W' : World} {l : List UInt8} {n : Nat} {a z r : Int} {ok : Bool} (h : Shw w l n a z r ok W) {t : ByteArray} (h1 : BldU w.heap.size w.heap.size (l ++ t.data.toList) W') (h2 : Below w.heap.size W W') (h3 : KeptF w.heap.size W W') : Shw w (l ++ t.data.toList) n a z r ok W' :=
  ⟨Or.inr h1, h.2.1.trans h2, h.2.2.1, h3 n _ _ _ h.2.2.1 (by decide) h.2.2.2⟩
theorem bld_lt {B b : Nat} {l : List UInt8} {W : World} (h : BldF B b l W) : b < W.heap.size := by
  rcases h with ⟨_, v, h2, _⟩ | ⟨_, v, h2, _⟩
  · exact blk_lt h2
  · exact blk_lt h2
def ShowSays (s : ByteArray) (w : World) (e : Ending) (w' : World) : Prop := ∃ n : Nat, e = .returned (.string ⟨(shownL s n).toArray⟩) ∧ pos s n = s.size ∧ Below w.heap.size w w'
set_option maxRecDepth 100000 in
set_option maxHeartbeats 1000000 in
theorem show_ok (s : ByteArray) (hs : s.size ≤ 1000000) (w : World) (hT : Tabs w) (hD : Deb w) : Calls Tryd.prog 20 #[.string s] w (ShowSays s w) := by
  have HT := (show Hid (∀ W, Below w.heap.size w W → Tabs W ∧ Deb W) from fun W h => ⟨Utf8Tabs_below hT h, hD.below h⟩)
  have hb0 : Below w.heap.size w (w.alloc (.cells #[.pointer none, .slice none 0 0] 70)) := (Below.refl _ _).alloc (Nat.le_refl _) _
  have h0 := bld_new w
  have HW := (show Hid (∀ l t W, BldF w.heap.size w.heap.size l W → Below w.heap.size w W → l.length + t.size ≤ 100000000 → Calls Tryd.prog 41 #[.pointer (some ⟨w.heap.size, 0, none⟩), .string t] W fun e w' => e = .returned (.tuple #[.int .i64 t.size, .nilIface]) ∧ BldU w.heap.size w.heap.size (l ++ t.data.toList) w' ∧ Below w.heap.size W w' ∧ KeptF w.heap.size W w') from
    fun l t W h1 h2 h3 => write_ok w.heap.size w.heap.size l t W h1 h3 h2.size)
  have HNU := (show Hid (∀ (u : Nat) W, u ≤ 1114111 → Below w.heap.size w W → Calls Tryd.prog 42 #[.int .i64 u] W fun e w' => e = .returned (.string (escS u)) ∧ Below W.heap.size W w') from fun u W h1 h2 => number_ok u h1 W (HT.out W h2).2)
  clear hT hD
  go_enter Tryd.func20, Tryd.ntmps20
  go_wp2_with fail
  go_loopg [4] s.size (fun g s4 W => ∃ k : Nat, s4 = .int .i64 (pos s k : Nat) ∧ pos s k ≤ s.size ∧ k ≤ pos s k ∧ s.size ≤ g + pos s k ∧ BldF w.heap.size w.heap.size (shownL s k) W ∧ Below w.heap.size w W)
  case atStart => exact ⟨0, rfl, by show 0 ≤ _; omega, by show 0 ≤ 0; omega, by show _ ≤ _ + 0; omega, h0, hb0⟩
  case round =>
    clear h0 hb0
    obtain ⟨k, rfl, hle, hkp, hg, hbd, hb⟩ := hrel
    by_cases hin : pos s k < s.size
    · have ha := at_in s (pos s k) hin hs wr (HT.out wr hb).1
      have hlen := shown_len s k
      have hps := piece_size s (pos s k)
      have hpc : piece s (pos s k) = if okAt s (pos s k) then (if (dec s (pos s k)).1 = 92 then ⟨#[92, 92]⟩ else if 32 ≤ (dec s (pos s k)).1 ∧ (dec s (pos s k)).1 ≠ 127 then s.extract (pos s k) (pos s k + (dec s (pos s k)).2) else escS (dec s (pos s k)).1) else escS (byteAt s (pos s k)) := rfl
      have HSN := (show Hid (shownL s (k + 1) = shownL s k ++ (piece s (pos s k)).data.toList) from rfl)
      have Hnx := (show Hid (pos s (k + 1) = pos s k + wid s (pos s k)) from rfl)
      have hwid : wid s (pos s k) = if okAt s (pos s k) then (dec s (pos s k)).2 else 1 := rfl
      have hw := wid_pos s (pos s k)
      have hwi := wid_in s (pos s k) hin
      have Hkn := Lib.hid (pos_ge s (k + 1))
      have hbt := byte_get1 s (pos s k) hin
      have hblt := byteAt_lt s (pos s k)
      obtain ⟨b1, b2, b3⟩ := dec_bounds s (pos s k)
      unfold itemAt at ha
      generalize pos s k = q at *
      generalize wid s q = z at *
      generalize piece s q = P at *
      have hin' : (q : Int) < (s.size : Int) := by omega
      have HL := Lib.hid (show (shownL s k).length + P.size ≤ 100000000 from by omega)
      cases hok : okAt s q with
      | false =>
        rw [hok, if_neg (by simp)] at ha hpc hwid
        subst hpc hwid
        clear hok b1 b2 b3 hlen hps
        unfold itemV at ha
        go_wp2_with fail
        refine ha.mono ?_
        rintro e w2 ⟨rfl, hb2⟩
        have hS := Shw.new (bld_later hbd hb2) (hb.trans (hb2.mono hb.size)) (Nat.lt_of_lt_of_le (bld_lt hbd) hb2.size) (q : Int) 1 65533 false
        obtain ⟨c1, c2, c3⟩ := hS.cells
        clear ha hb2
        rw [hbt] at HSN HL hblt
        clear hbt
        go_wp2_with fail
        refine (HNU.out (s[q]'hin).toNat _ (by omega) hS.2.1).mono ?_
        rintro e w3 ⟨rfl, hb3⟩
        have hS2 := hS.later hb3
        clear hb3 hS c1 c2 c3
        obtain ⟨c1, c2, c3⟩ := hS2.cells
        go_wp2_with fail
        refine (HW.out _ (escS (s[q]'hin).toNat) _ hS2.1 hS2.2.1 HL.out).mono ?_
        rintro e w4 ⟨rfl, hu, hbu, hku⟩
        have hS3 := hS2.write hu hbu hku
        obtain ⟨c1, c2, c3⟩ := hS3.cells
        clear hu hbu hku hS2
        go_wp2_with fail
        go_roundg (gk - 1)
        case measure => omega
        case rel => exact ⟨k + 1, by rw [Hnx.out]; go_num, by rw [Hnx.out]; exact hwi, Hkn.out, by rw [Hnx.out]; omega, by rw [HSN.out]; exact hS3.1, hS3.2.1⟩
      | true =>
        rw [hok, if_pos rfl] at ha hpc hwid
        rw [← hwid] at ha
        have hzd : (dec s q).2 = z := hwid.symm
        rw [hzd] at hpc
        clear hwid hzd b2 b3
        generalize (dec s q).1 = r at *
        by_cases h92 : r = 92
        · subst h92
          rw [if_pos rfl] at hpc
          subst hpc
          clear hok hbt hblt hlen hps
          unfold itemV at ha
          go_wp2_with fail
          refine ha.mono ?_
          rintro e w2 ⟨rfl, hb2⟩
          have hS := Shw.new (bld_later hbd hb2) (hb.trans (hb2.mono hb.size)) (Nat.lt_of_lt_of_le (bld_lt hbd) hb2.size) (q : Int) (z : Int) 92 true
          obtain ⟨c1, c2, c3⟩ := hS.cells
          clear ha hb2
          go_wp2_with fail
          have hS2 := hS
          clear hS
          refine (HW.out _ ⟨#[92, 92]⟩ _ hS2.1 hS2.2.1 HL.out).mono ?_
          rintro e w4 ⟨rfl, hu, hbu, hku⟩
          have hS3 := hS2.write hu hbu hku
          obtain ⟨c1, c2, c3⟩ := hS3.cells
          clear hu hbu hku hS2
          go_wp2_with fail
          go_roundg (gk - 1)
          case measure => omega
          case rel => exact ⟨k + 1, by rw [Hnx.out]; go_num, by rw [Hnx.out]; exact hwi, Hkn.out, by rw [Hnx.out]; omega, by rw [HSN.out]; exact hS3.1, hS3.2.1⟩
        · rw [if_neg h92] at hpc
          have e92 : ((r : Int) == 92) = false := by simp; omega
          by_cases hpr : 32 ≤ r ∧ r ≠ 127
          · rw [if_pos hpr] at hpc
            subst hpc
            have e32 : (32 : Int) ≤ (r : Int) := by omega
            have e127 : ((r : Int) != 127) = true := by simp; omega
            have e127b : ((r : Int) == 127) = false := by simp; omega
            have hqz : (q : Int) + (z : Int) ≤ (s.size : Int) := by omega
            clear hpr
            clear hok hbt hblt hlen hps
            unfold itemV at ha
            go_wp2_with fail
            refine ha.mono ?_
            rintro e w2 ⟨rfl, hb2⟩
            have hS := Shw.new (bld_later hbd hb2) (hb.trans (hb2.mono hb.size)) (Nat.lt_of_lt_of_le (bld_lt hbd) hb2.size) (q : Int) (z : Int) (r : Int) true
            obtain ⟨c1, c2, c3⟩ := hS.cells
            clear ha hb2
            go_wp2_with fail
            have hS2 := hS
            clear hS
            refine (HW.out _ (s.extract q (q + z)) _ hS2.1 hS2.2.1 HL.out).mono ?_
            rintro e w4 ⟨rfl, hu, hbu, hku⟩
            have hS3 := hS2.write hu hbu hku
            obtain ⟨c1, c2, c3⟩ := hS3.cells
            clear hu hbu hku hS2
            go_wp2_with fail
            go_roundg (gk - 1)
            case measure => omega
            case rel => exact ⟨k + 1, by rw [Hnx.out]; go_num, by rw [Hnx.out]; exact hwi, Hkn.out, by rw [Hnx.out]; omega, by rw [HSN.out]; exact hS3.1, hS3.2.1⟩
          · rw [if_neg hpr] at hpc
            subst hpc
            rcases (show r < 32 ∨ r = 127 by omega) with hlow | rfl
            · have e32 : ¬ (32 : Int) ≤ (r : Int) := by omega
              have e32b : decide ((32 : Int) ≤ (r : Int)) = false := by simp; omega
              have e32c : decide (32 ≤ r) = false := by simp; omega
              clear hpr
              clear hok hbt hblt hlen hps
              unfold itemV at ha
              go_wp2_with fail
              refine ha.mono ?_
              rintro e w2 ⟨rfl, hb2⟩
              have hS := Shw.new (bld_later hbd hb2) (hb.trans (hb2.mono hb.size)) (Nat.lt_of_lt_of_le (bld_lt hbd) hb2.size) (q : Int) (z : Int) (r : Int) true
              obtain ⟨c1, c2, c3⟩ := hS.cells
              clear ha hb2
              go_wp2_with fail
              refine (HNU.out r _ (by omega) hS.2.1).mono ?_
              rintro e w3 ⟨rfl, hb3⟩
              have hS2 := hS.later hb3
              clear hb3 hS c1 c2 c3
              obtain ⟨c1, c2, c3⟩ := hS2.cells
              go_wp2_with fail
              refine (HW.out _ (escS r) _ hS2.1 hS2.2.1 HL.out).mono ?_
              rintro e w4 ⟨rfl, hu, hbu, hku⟩
              have hS3 := hS2.write hu hbu hku
              obtain ⟨c1, c2, c3⟩ := hS3.cells
              clear hu hbu hku hS2
              go_wp2_with fail
              go_roundg (gk - 1)
              case measure => omega
              case rel => exact ⟨k + 1, by rw [Hnx.out]; go_num, by rw [Hnx.out]; exact hwi, Hkn.out, by rw [Hnx.out]; omega, by rw [HSN.out]; exact hS3.1, hS3.2.1⟩
            · clear hpr
              clear hok hbt hblt hlen hps
              unfold itemV at ha
              go_wp2_with fail
              refine ha.mono ?_
              rintro e w2 ⟨rfl, hb2⟩
              have hS := Shw.new (bld_later hbd hb2) (hb.trans (hb2.mono hb.size)) (Nat.lt_of_lt_of_le (bld_lt hbd) hb2.size) (q : Int) (z : Int) 127 true
              obtain ⟨c1, c2, c3⟩ := hS.cells
              clear ha hb2
              go_wp2_with fail
              refine (HNU.out 127 _ (by omega) hS.2.1).mono ?_
              rintro e w3 ⟨rfl, hb3⟩
              have hS2 := hS.later hb3
              clear hb3 hS c1 c2 c3
              obtain ⟨c1, c2, c3⟩ := hS2.cells
              go_wp2_with fail
              refine (HW.out _ (escS 127) _ hS2.1 hS2.2.1 HL.out).mono ?_
              rintro e w4 ⟨rfl, hu, hbu, hku⟩
              have hS3 := hS2.write hu hbu hku
              obtain ⟨c1, c2, c3⟩ := hS3.cells
              clear hu hbu hku hS2
              go_wp2_with fail
              go_roundg (gk - 1)
              case measure => omega
              case rel => exact ⟨k + 1, by rw [Hnx.out]; go_num, by rw [Hnx.out]; exact hwi, Hkn.out, by rw [Hnx.out]; omega, by rw [HSN.out]; exact hS3.1, hS3.2.1⟩
    · obtain hq : pos s k = s.size := by omega
      have hin' : ¬ ((s.size : Int) < (s.size : Int)) := by omega
      have HQ := Lib.hid hq
      have hstr := Lib.hid (Tryd.Builder_String_any w.heap.size w.heap.size (shownL s k) wr hbd hb.size)
      rw [hq]
      clear hin hle hkp hg hq
      go_wp2_with fail
      refine hstr.out.mono ?_
      rintro e w2 ⟨rfl, hb2⟩
      have hbb := hb.trans hb2
      clear hb2
      go_wp2_with fail
      go_ret
      exact ⟨k, rfl, HQ.out, hbb⟩
end Go.Proofs.YtpmgccjhflcoiaaDoor
