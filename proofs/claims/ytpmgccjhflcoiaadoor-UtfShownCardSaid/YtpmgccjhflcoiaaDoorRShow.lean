/-
  Contracts of the answer's Hex and Show. No condition beyond those that each theorem states.
-/
import Derived.Test.YtpmgccjhflcoiaaDoorShow
namespace Go.Proofs.YtpmgccjhflcoiaaDoor
open Go.RowKit
set_option linter.unusedSimpArgs false
set_option linter.unusedVariables false

abbrev D16 : ByteArray := ⟨#[48, 49, 50, 51, 52, 53, 54, 55, 56, 57, 97, 98, 99, 100, 101, 102]⟩
theorem d16_cut (d : Nat) (hd : d < 16) : D16.extract d (d + 1) = ⟨#[hexd d]⟩ := by
  rcases (show d = 0 ∨ d = 1 ∨ d = 2 ∨ d = 3 ∨ d = 4 ∨ d = 5 ∨ d = 6 ∨ d = 7 ∨ d = 8 ∨ d = 9 ∨ d = 10 ∨ d = 11 ∨ d = 12 ∨ d = 13 ∨ d = 14 ∨ d = 15 by omega) with rfl | rfl | rfl | rfl | rfl | rfl | rfl | rfl | rfl | rfl | rfl | rfl | rfl | rfl | rfl | rfl
  all_goals decide +kernel
theorem hexS_join (u : Nat) (h : ¬ u < 16) : (⟨(hexL u).toArray⟩ : ByteArray) = ⟨(hexL (u / 16)).toArray⟩ ++ ⟨#[hexd (u % 16)]⟩ := by
  rw [hexL_high u h]
  apply ByteArray.ext
  rw [ByteArray.data_append]
  apply Array.toList_inj.1
  simp
theorem hex_size (u : Nat) (h : u ≤ 1114111) : (⟨(hexL u).toArray⟩ : ByteArray).size ≤ 7 := by
  have := hexL_len 6 u (by omega)
  have hz : (⟨(hexL u).toArray⟩ : ByteArray).size = (hexL u).length := List.size_toArray
  omega
theorem hex_ok (m : Nat) : ∀ (u : Nat), u < 16 ^ m → u ≤ 1114111 → ∀ (w : World), Calls Tryd.prog 44 #[.int .i64 u] w fun e w' => e = .returned (.string ⟨(hexL u).toArray⟩) ∧ w = w' := by
  induction m with
  | zero =>
    intro u h hu w
    have hu0 : u = 0 := by omega
    subst hu0
    have h16 : hexL 0 = [48] := by rw [hexL_low 0 (by omega)]; rfl
    rw [h16]
    have hsl : ∀ W : World, (Instr.slice 9 (.string D16) (some (.int .i64 0)) (some (.int .i64 1)) none).run Tryd.prog W = .ok (.string ⟨#[48]⟩) W := fun W => by kernel_rfl
    go_enter Tryd.func44, Tryd.ntmps44
    go_wp2_with fail
    go_ret
    exact ⟨rfl, rfl⟩
  | succ m ih =>
    intro u h hu w
    have hd : u % 16 < 16 := Nat.mod_lt _ (by omega)
    have hcut := d16_cut (u % 16) hd
    have hcast : ((u % 16 : Nat) : Int) = (u : Int) % 16 := by omega
    have hsl : ∀ W : World, (Instr.slice 9 (.string D16) (some (.int .i64 ((u : Int) % 16))) (some (.int .i64 ((u : Int) % 16 + 1))) none).run Tryd.prog W = .ok (.string ⟨#[hexd (u % 16)]⟩) W := fun W => by
      rw [run_slice_string (P := Tryd.prog) W 9 D16 .i64 .i64 ((u : Int) % 16) ((u : Int) % 16 + 1) Tryd.underlying9 (by omega) (by omega) (by show _ ≤ (16 : Int); omega)]
      rw [show ((u : Int) % 16).toNat = u % 16 from by omega, show ((u : Int) % 16 + 1).toNat = u % 16 + 1 from by omega, hcut]
    by_cases h16 : u < 16
    · have hlow : (⟨(hexL u).toArray⟩ : ByteArray) = ⟨#[hexd (u % 16)]⟩ := by rw [hexL_low u h16, Nat.mod_eq_of_lt h16]
      rw [hlow]
      have h16' : (u : Int) < 16 := by omega
      clear hcut hlow ih
      generalize hexd (u % 16) = dg at *
      go_enter Tryd.func44, Tryd.ntmps44
      go_wp2_with fail
      go_ret
      exact ⟨rfl, rfl⟩
    · have hj := hexS_join u h16
      rw [hj]
      have hsz := hex_size (u / 16) (by omega)
      have c := ih (u / 16) (by rw [Nat.pow_succ] at h; omega) (by omega) w
      rw [show ((u / 16 : Nat) : Int) = (u : Int) / 16 from by omega] at c
      have h16' : ¬ (u : Int) < 16 := by omega
      clear hcut hj ih h
      generalize hexd (u % 16) = dg at *
      generalize (⟨(hexL (u / 16)).toArray⟩ : ByteArray) = t at *
      have z1 : ¬ 9223372036854775807 < t.size + 1 := by omega
      go_enter Tryd.func44, Tryd.ntmps44
      go_wp2_with fail
      refine c.mono ?_
      rintro e w' ⟨rfl, rfl⟩
      clear c
      go_wp2_with fail
      go_ret
      exact ⟨rfl, rfl⟩
/-- the bytes of a text that has been put together, as a text -/
def txt (l : List UInt8) : ByteArray := ⟨l.toArray⟩
theorem txt_add (l : List UInt8) (t : ByteArray) : txt l ++ t = txt (l ++ t.data.toList) := by
  apply ByteArray.ext
  rw [ByteArray.data_append]
  apply Array.toList_inj.1
  unfold txt
  simp
theorem txt_size (l : List UInt8) : (txt l).size = l.length := List.size_toArray
theorem txt_add3 (l : List UInt8) (u : Nat) : txt l ++ ⟨#[92, 117, 123]⟩ ++ ⟨(hexL u).toArray⟩ ++ ⟨#[125]⟩ = txt (l ++ (escS u).data.toList) := by
  rw [← txt_add]
  unfold escS
  apply ByteArray.ext
  simp only [ByteArray.data_append, Array.append_assoc]
def RShowSays (s : ByteArray) (w : World) (e : Ending) (w' : World) : Prop := ∃ n : Nat, e = .returned (.string (txt (shownL s n))) ∧ pos s n = s.size ∧ Below w.heap.size w w'
set_option maxRecDepth 100000 in
set_option maxHeartbeats 1000000 in
theorem rshow_ok (s : ByteArray) (hs : s.size ≤ 1000000) (w : World) : Calls Tryd.prog 21 #[.string s] w (RShowSays s w) := by
  go_enter Tryd.func21, Tryd.ntmps21
  go_wp2_with fail
  go_loopg [3, 4, 5] s.size (fun g s3 s4 s5 W => ∃ k : Nat, s3 = .string (txt (shownL s k)) ∧ s4 = .int .i64 (pos s k : Nat) ∧ pos s k ≤ s.size ∧ k ≤ pos s k ∧ s.size ≤ g + pos s k ∧ Below w.heap.size w W)
  case atStart => exact ⟨0, rfl, rfl, by show 0 ≤ _; omega, by show 0 ≤ 0; omega, by show _ ≤ _ + 0; omega, Below.refl _ _⟩
  case round =>
    obtain ⟨k, rfl, rfl, hle, hkp, hg, hb⟩ := hrel
    by_cases hin : pos s k < s.size
    · have ha := rat_dec s (pos s k) hin hs wr
      have hlen := shown_len s k
      have hps := piece_size s (pos s k)
      have hpc : piece s (pos s k) = if okAt s (pos s k) then (if (dec s (pos s k)).1 = 92 then ⟨#[92, 92]⟩ else if 32 ≤ (dec s (pos s k)).1 ∧ (dec s (pos s k)).1 ≠ 127 then s.extract (pos s k) (pos s k + (dec s (pos s k)).2) else escS (dec s (pos s k)).1) else escS (byteAt s (pos s k)) := rfl
      have HSN := (show Hid (shownL s (k + 1) = shownL s k ++ (piece s (pos s k)).data.toList) from rfl)
      have Hnx := (show Hid (pos s (k + 1) = pos s k + wid s (pos s k)) from rfl)
      have hwid : wid s (pos s k) = if okAt s (pos s k) then (dec s (pos s k)).2 else 1 := rfl
      have hrv : runeAt s (pos s k) = if okAt s (pos s k) then ((dec s (pos s k)).1 : Int) else -1 := rfl
      have hw := wid_pos s (pos s k)
      have hwi := wid_in s (pos s k) hin
      have Hkn := Lib.hid (pos_ge s (k + 1))
      have hbt := byte_get1 s (pos s k) hin
      have hblt := byteAt_lt s (pos s k)
      obtain ⟨b1, b2, b3⟩ := dec_bounds s (pos s k)
      generalize pos s k = q at *
      generalize wid s q = z at *
      generalize piece s q = P at *
      generalize runeAt s q = rv at *
      have hin' : (q : Int) < (s.size : Int) := by omega
      have hts := txt_size (shownL s k)
      have HTA := Lib.hid (txt_add (shownL s k))
      have HT3 := Lib.hid (txt_add3 (shownL s k))
      generalize hT : txt (shownL s k) = T at *
      have hTs : T.size ≤ 11 * k := by omega
      have HTT := Lib.hid hT
      clear hT hts hlen
      cases hok : okAt s q with
      | false =>
        rw [hok, if_neg (by simp)] at hpc hwid hrv
        subst hpc hwid hrv
        clear hok b1 b2 b3
        rw [hbt] at HSN hblt
        clear hbt
        have hhx := hex_ok 6 (s[q]'hin).toNat (by omega) (by omega)
        have hhs := hex_size (s[q]'hin).toNat (by omega)
        have H3 := Lib.hid (HT3.out (s[q]'hin).toNat)
        generalize (⟨(hexL (s[q]'hin).toNat).toArray⟩ : ByteArray) = t at *
        have y1 : ¬ 9223372036854775807 < T.size + 3 := by omega
        have y2 : ¬ 9223372036854775807 < T.size + 3 + t.size := by omega
        have y3 : ¬ 9223372036854775807 < T.size + 3 + t.size + 1 := by omega
        clear hps
        go_wp2_with fail
        refine ha.mono ?_
        rintro e w2 ⟨rfl, hb2⟩
        have HB2 := Lib.hid (hb.trans (hb2.mono hb.size))
        clear ha hb2
        go_wp2_with fail
        refine (hhx _).mono ?_
        rintro e w' ⟨rfl, rfl⟩
        go_wp2_with fail
        go_roundg (gk - 1)
        case measure => omega
        case rel => exact ⟨k + 1, by rw [HSN.out, ← H3.out], by rw [Hnx.out]; go_num, by rw [Hnx.out]; exact hwi, Hkn.out, by rw [Hnx.out]; omega, HB2.out⟩
      | true =>
        rw [hok, if_pos rfl] at hpc hwid hrv
        have hzd : (dec s q).2 = z := hwid.symm
        rw [hzd] at hpc
        clear hwid hzd b2 b3 hok hbt hblt
        generalize (dec s q).1 = r at *
        subst hrv
        by_cases h92 : r = 92
        · subst h92
          rw [if_pos rfl] at hpc
          subst hpc
          have y1 : ¬ 9223372036854775807 < T.size + 2 := by omega
          have H3 := Lib.hid (HTA.out ⟨#[92, 92]⟩)
          clear HT3
          go_wp2_with fail
          refine ha.mono ?_
          rintro e w2 ⟨rfl, hb2⟩
          have HB2 := Lib.hid (hb.trans (hb2.mono hb.size))
          clear ha hb2
          go_wp2_with fail
          go_roundg (gk - 1)
          case measure => omega
          case rel => exact ⟨k + 1, by rw [HSN.out, ← H3.out], by rw [Hnx.out]; go_num, by rw [Hnx.out]; exact hwi, Hkn.out, by rw [Hnx.out]; omega, HB2.out⟩
        · rw [if_neg h92] at hpc
          have e92 : ((r : Int) == 92) = false := by simp; omega
          by_cases hpr : 32 ≤ r ∧ r ≠ 127
          · rw [if_pos hpr] at hpc
            subst hpc
            have e32 : (32 : Int) ≤ (r : Int) := by omega
            have e127 : ((r : Int) != 127) = true := by simp; omega
            have e127b : ((r : Int) == 127) = false := by simp; omega
            have hqz : (q : Int) + (z : Int) ≤ (s.size : Int) := by omega
            have y1 : ¬ 9223372036854775807 < T.size + (s.extract q (q + z)).size := by omega
            have y2 : ¬ 9223372036854775807 < T.size + (min (q + z) s.size - q) := by omega
            clear hpr hps
            have H3 := Lib.hid (HTA.out (s.extract q (q + z)))
            clear HT3
            go_wp2_with fail
            refine ha.mono ?_
            rintro e w2 ⟨rfl, hb2⟩
            have HB2 := Lib.hid (hb.trans (hb2.mono hb.size))
            clear ha hb2
            go_wp2_with fail
            go_roundg (gk - 1)
            case measure => omega
            case rel => exact ⟨k + 1, by rw [HSN.out, ← H3.out], by rw [Hnx.out]; go_num, by rw [Hnx.out]; exact hwi, Hkn.out, by rw [Hnx.out]; omega, HB2.out⟩
          · rw [if_neg hpr] at hpc
            subst hpc
            have e0 : ¬ (r : Int) < 0 := by omega
            rcases (show r < 32 ∨ r = 127 by omega) with hlow | rfl
            · have e32 : ¬ (32 : Int) ≤ (r : Int) := by omega
              have e32b : decide ((32 : Int) ≤ (r : Int)) = false := by simp; omega
              have e32c : decide (32 ≤ r) = false := by simp; omega
              clear hpr
              have hhx := hex_ok 6 r (by omega) (by omega)
              have hhs := hex_size r (by omega)
              have H3 := Lib.hid (HT3.out r)
              generalize (⟨(hexL r).toArray⟩ : ByteArray) = t at *
              have y1 : ¬ 9223372036854775807 < T.size + 3 := by omega
              have y2 : ¬ 9223372036854775807 < T.size + 3 + t.size := by omega
              have y3 : ¬ 9223372036854775807 < T.size + 3 + t.size + 1 := by omega
              clear hps
              go_wp2_with fail
              refine ha.mono ?_
              rintro e w2 ⟨rfl, hb2⟩
              have HB2 := Lib.hid (hb.trans (hb2.mono hb.size))
              clear ha hb2
              go_wp2_with fail
              refine (hhx _).mono ?_
              rintro e w' ⟨rfl, rfl⟩
              go_wp2_with fail
              go_roundg (gk - 1)
              case measure => omega
              case rel => exact ⟨k + 1, by rw [HSN.out, ← H3.out], by rw [Hnx.out]; go_num, by rw [Hnx.out]; exact hwi, Hkn.out, by rw [Hnx.out]; omega, HB2.out⟩
            · clear hpr
              have hhx := hex_ok 6 127 (by omega) (by omega)
              have hhs := hex_size 127 (by omega)
              have H3 := Lib.hid (HT3.out 127)
              generalize (⟨(hexL 127).toArray⟩ : ByteArray) = t at *
              have y1 : ¬ 9223372036854775807 < T.size + 3 := by omega
              have y2 : ¬ 9223372036854775807 < T.size + 3 + t.size := by omega
              have y3 : ¬ 9223372036854775807 < T.size + 3 + t.size + 1 := by omega
              clear hps
              go_wp2_with fail
              refine ha.mono ?_
              rintro e w2 ⟨rfl, hb2⟩
              have HB2 := Lib.hid (hb.trans (hb2.mono hb.size))
              clear ha hb2
              go_wp2_with fail
              refine (hhx _).mono ?_
              rintro e w' ⟨rfl, rfl⟩
              go_wp2_with fail
              go_roundg (gk - 1)
              case measure => omega
              case rel => exact ⟨k + 1, by rw [HSN.out, ← H3.out], by rw [Hnx.out]; go_num, by rw [Hnx.out]; exact hwi, Hkn.out, by rw [Hnx.out]; omega, HB2.out⟩
    · obtain hq : pos s k = s.size := by omega
      have hin' : ¬ ((s.size : Int) < (s.size : Int)) := by omega
      have HQ := Lib.hid hq
      rw [hq]
      clear hin hle hkp hg hq
      go_wp2_with fail
      go_ret
      exact ⟨k, rfl, HQ.out, hb⟩
end Go.Proofs.YtpmgccjhflcoiaaDoor
