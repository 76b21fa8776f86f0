/-
  Contract of the answer's Encode. No condition beyond those that each theorem states.
-/
import Derived.Test.YtpmgccjhflcoiaaDoorAt
import Derived.Laws.IdiomStrings
namespace Go.Proofs.YtpmgccjhflcoiaaDoor
open Go.RowKit
set_option linter.unusedSimpArgs false
set_option linter.unusedVariables false

/-- a sign's bytes, by the document -/
def encN (r : Nat) : List Nat :=
  if 1114111 < r ∨ (55296 ≤ r ∧ r ≤ 57343) then [] else
  if r < 128 then [r] else
  if r < 2048 then [192 + r / 64, 128 + r % 64] else
  if r < 65536 then [224 + r / 4096, 128 + r / 64 % 64, 128 + r % 64] else
  [240 + r / 262144, 128 + r / 4096 % 64, 128 + r / 64 % 64, 128 + r % 64]
def bytesOf (l : List Nat) : ByteArray := ⟨(l.map UInt8.ofNat).toArray⟩
theorem conv_lit (W : World) (l : List Nat) (hl : ∀ x ∈ l, x < 256) : (convert 65 9 (.slice (some ⟨W.heap.size, 0, none⟩) l.length l.length)).run Tryd.prog (W.alloc (.cells (l.map fun x : Nat => Value.int .u8 (x : Int)).toArray 5)) = .ok (.string (bytesOf l)) (W.alloc (.cells (l.map fun x : Nat => Value.int .u8 (x : Int)).toArray 5)) := by
  have h := run_convert_bytes_back (P := Tryd.prog) (W.alloc (.cells (l.map fun x : Nat => Value.int .u8 (x : Int)).toArray 5)) 65 9 5 ⟨W.heap.size, 0, none⟩ l.length (l.map UInt8.ofNat) Tryd.underlying65 Tryd.underlying5 Tryd.underlying9 (by
    intro j hj
    have hj' : j < l.length := by simpa using hj
    have ha : (⟨W.heap.size, 0, none⟩ : Addr).add j = ⟨W.heap.size, j, none⟩ := by
      unfold Addr.add
      split
      · rename_i h0; subst h0; rfl
      · simp
    rw [ha, blk_cell (blk_new W _) (v := .int .u8 (l[j] : Nat)) (by simp [hj'])]
    have := hl _ (List.getElem_mem hj')
    simp only [List.getElem_map, UInt8.toNat_ofNat']
    rw [Nat.mod_eq_of_lt this])
  rw [List.length_map] at h
  exact h

set_option maxRecDepth 100000 in
theorem renc_1 (r : Nat) (h : r < 128) (w : World) : Calls Tryd.prog 18 #[.int .i64 r] w fun e w' => e = .returned (.string (bytesOf [r])) ∧ Below w.heap.size w w' := by
  have hconv : ∀ W : World, (convert 65 9 (.slice (some ⟨W.heap.size, 0, none⟩) 1 1)).run Tryd.prog (W.alloc (.cells #[.int .u8 ((r : Int))] 5)) = .ok (.string (bytesOf [r])) (W.alloc (.cells #[.int .u8 ((r : Int))] 5)) := by
    intro W
    have h := conv_lit W [r] (by intro x hx; simp at hx; omega)
    simpa using h
  generalize hB : bytesOf [r] = B at *
  clear hB
  go_enter Tryd.func18, Tryd.ntmps18
  go_wp2_with fail
  all_goals
    go_ret
    exact ⟨rfl, (Below.refl _ _).alloc (Nat.le_refl _) _⟩
set_option maxRecDepth 100000 in
theorem renc_2 (r : Nat) (h0 : 128 ≤ r) (h : r < 2048) (w : World) : Calls Tryd.prog 18 #[.int .i64 r] w fun e w' => e = .returned (.string (bytesOf [192 + r / 64, 128 + r % 64])) ∧ Below w.heap.size w w' := by
  have hconv : ∀ W : World, (convert 65 9 (.slice (some ⟨W.heap.size, 0, none⟩) 2 2)).run Tryd.prog (W.alloc (.cells #[.int .u8 (192 + (r : Int) / 64), .int .u8 (128 + (r : Int) % 64)] 5)) = .ok (.string (bytesOf [192 + r / 64, 128 + r % 64])) (W.alloc (.cells #[.int .u8 (192 + (r : Int) / 64), .int .u8 (128 + (r : Int) % 64)] 5)) := by
    intro W
    have h := conv_lit W [192 + r / 64, 128 + r % 64] (by intro x hx; simp at hx; omega)
    simpa using h
  generalize hB : bytesOf [192 + r / 64, 128 + r % 64] = B at *
  clear hB
  go_enter Tryd.func18, Tryd.ntmps18
  go_wp2_with fail
  all_goals
    go_ret
    exact ⟨rfl, (Below.refl _ _).alloc (Nat.le_refl _) _⟩
set_option maxRecDepth 100000 in
theorem renc_3 (r : Nat) (h0 : 2048 ≤ r) (h : r < 65536) (h1 : ¬ (55296 ≤ r ∧ r ≤ 57343)) (w : World) : Calls Tryd.prog 18 #[.int .i64 r] w fun e w' => e = .returned (.string (bytesOf [224 + r / 4096, 128 + r / 64 % 64, 128 + r % 64])) ∧ Below w.heap.size w w' := by
  have hconv : ∀ W : World, (convert 65 9 (.slice (some ⟨W.heap.size, 0, none⟩) 3 3)).run Tryd.prog (W.alloc (.cells #[.int .u8 (224 + (r : Int) / 4096), .int .u8 (128 + (r : Int) / 64 % 64), .int .u8 (128 + (r : Int) % 64)] 5)) = .ok (.string (bytesOf [224 + r / 4096, 128 + r / 64 % 64, 128 + r % 64])) (W.alloc (.cells #[.int .u8 (224 + (r : Int) / 4096), .int .u8 (128 + (r : Int) / 64 % 64), .int .u8 (128 + (r : Int) % 64)] 5)) := by
    intro W
    have h := conv_lit W [224 + r / 4096, 128 + r / 64 % 64, 128 + r % 64] (by intro x hx; simp at hx; omega)
    simpa using h
  generalize hB : bytesOf [224 + r / 4096, 128 + r / 64 % 64, 128 + r % 64] = B at *
  clear hB
  have z0 : ¬ (r : Int) < 0 := by omega
  have z1 : ¬ (1114111 : Int) < r := by omega
  have z2 : ¬ (r : Int) < 128 := by omega
  have z3 : ¬ (r : Int) < 2048 := by omega
  have z4 : ¬ (65536 : Int) ≤ r := by omega
  rcases (show ¬ (55296 : Int) ≤ r ∨ ¬ (r : Int) ≤ 57343 from by omega) with y | y
  all_goals
    clear h0 h h1
    go_enter Tryd.func18, Tryd.ntmps18
    have HC := (show Hid _ from hconv)
    clear hconv
    go_upto_region 7 with fail
    have z5 : (r : Int) < 65536 := by omega
    have y5 : (0 : Int) ≤ r := by omega
    clear z0 z1 z2 z3 z4
    go_upto_region 8 with fail
    have hconv := HC.out
    clear HC
    go_wp2_with fail
    go_ret
    exact ⟨rfl, (Below.refl _ _).alloc (Nat.le_refl _) _⟩
set_option maxRecDepth 100000 in
theorem renc_4 (r : Nat) (h0 : 65536 ≤ r) (h : r ≤ 1114111) (w : World) : Calls Tryd.prog 18 #[.int .i64 r] w fun e w' => e = .returned (.string (bytesOf [240 + r / 262144, 128 + r / 4096 % 64, 128 + r / 64 % 64, 128 + r % 64])) ∧ Below w.heap.size w w' := by
  have hconv : ∀ W : World, (convert 65 9 (.slice (some ⟨W.heap.size, 0, none⟩) 4 4)).run Tryd.prog (W.alloc (.cells #[.int .u8 (240 + (r : Int) / 262144), .int .u8 (128 + (r : Int) / 4096 % 64), .int .u8 (128 + (r : Int) / 64 % 64), .int .u8 (128 + (r : Int) % 64)] 5)) = .ok (.string (bytesOf [240 + r / 262144, 128 + r / 4096 % 64, 128 + r / 64 % 64, 128 + r % 64])) (W.alloc (.cells #[.int .u8 (240 + (r : Int) / 262144), .int .u8 (128 + (r : Int) / 4096 % 64), .int .u8 (128 + (r : Int) / 64 % 64), .int .u8 (128 + (r : Int) % 64)] 5)) := by
    intro W
    have h := conv_lit W [240 + r / 262144, 128 + r / 4096 % 64, 128 + r / 64 % 64, 128 + r % 64] (by intro x hx; simp at hx; omega)
    simpa using h
  generalize hB : bytesOf [240 + r / 262144, 128 + r / 4096 % 64, 128 + r / 64 % 64, 128 + r % 64] = B at *
  clear hB
  have z0 : ¬ (r : Int) < 0 := by omega
  have z1 : ¬ (1114111 : Int) < r := by omega
  have z5 : ¬ (r : Int) ≤ 57343 := by omega
  have H4 := (show Hid (65536 ≤ r ∧ r ≤ 1114111) from ⟨h0, h⟩)
  clear h0 h
  have HC := (show Hid _ from hconv)
  clear hconv
  go_enter Tryd.func18, Tryd.ntmps18
  go_upto_region 3 with fail
  all_goals
    clear z0 z1 z5
    have z2 : ¬ (r : Int) < 128 := by have := H4.out; omega
    have z3 : ¬ (r : Int) < 2048 := by have := H4.out; omega
    go_upto_region 7 with fail
    clear z2 z3
    have z4 : ¬ (r : Int) < 65536 := by have := H4.out; omega
    go_upto_region 9 with fail
    clear z4
    have y6 : (r : Int) ≤ 1114111 := by have := H4.out; omega
    have y5 : (0 : Int) ≤ r := by omega
    have hconv := HC.out
    clear HC H4
    go_wp2_with fail
    go_ret
    exact ⟨rfl, (Below.refl _ _).alloc (Nat.le_refl _) _⟩
set_option maxRecDepth 100000 in
theorem renc_0 (r : Nat) (h : 1114111 < r ∨ (55296 ≤ r ∧ r ≤ 57343)) (hr : r ≤ 9223372036854775807) (w : World) : Calls Tryd.prog 18 #[.int .i64 r] w fun e w' => e = .returned (.string (bytesOf [])) ∧ Below w.heap.size w w' := by
  by_cases h1 : 1114111 < r
  · go_enter Tryd.func18, Tryd.ntmps18
    go_wp2_with fail
    all_goals
      go_ret
      exact ⟨rfl, Below.refl _ _⟩
  · have h2 : 55296 ≤ r ∧ r ≤ 57343 := by omega
    go_enter Tryd.func18, Tryd.ntmps18
    go_wp2_with fail
    all_goals
      go_ret
      exact ⟨rfl, Below.refl _ _⟩
theorem renc_ok (r : Nat) (hr : r ≤ 9223372036854775807) (w : World) : Calls Tryd.prog 18 #[.int .i64 r] w fun e w' => e = .returned (.string (bytesOf (encN r))) ∧ Below w.heap.size w w' := by
  unfold encN
  split
  · exact renc_0 r (by assumption) hr w
  · split
    · exact renc_1 r (by assumption) w
    · split
      · exact renc_2 r (by omega) (by assumption) w
      · split
        · exact renc_3 r (by omega) (by assumption) (by omega) w
        · exact renc_4 r (by omega) (by omega) w
end Go.Proofs.YtpmgccjhflcoiaaDoor
