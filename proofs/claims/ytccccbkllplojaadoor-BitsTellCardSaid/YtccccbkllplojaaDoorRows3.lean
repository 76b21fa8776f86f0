/-
  Three rows of numbers that grow beside one another. No condition beyond those that each theorem states.
-/
import Derived.Test.YtccccbkllplojaaDoorSets2
import Derived.Maps.AppendAt
namespace Go.Proofs.YtccccbkllplojaaDoor
open Go.RowKit
set_option linter.unusedSimpArgs false
set_option linter.unusedVariables false

/-- two rows lie in other blocks -/
def Apart (u v : Value) : Prop := ∀ k, u.ownBlock = some k → v.ownBlock ≠ some k
theorem Apart.symm {u v : Value} (h : Apart u v) : Apart v u := fun k h1 h2 => h k h2 h1
theorem apart_nil (v : Value) : Apart (.slice none 0 0) v := fun k h => by cases h
structure R3 (w W : World) (v1 v2 v3 : Value) (l1 l2 l3 : List Nat) : Prop where
  o1 : OwnI w.heap.size W v1 l1
  o2 : OwnI w.heap.size W v2 l2
  o3 : OwnI w.heap.size W v3 l3
  a12 : Apart v1 v2
  a13 : Apart v1 v3
  a23 : Apart v2 v3
  bel : Below w.heap.size w W
section
variable {w W W' : World} {v1 v2 v3 v' : Value} {l1 l2 l3 : List Nat} {x : Nat}
theorem R3.swap (h : R3 w W v1 v2 v3 l1 l2 l3) : R3 w W v2 v1 v3 l2 l1 l3 := ⟨h.o2, h.o1, h.o3, h.a12.symm, h.a23, h.a13, h.bel⟩
theorem R3.swap3 (h : R3 w W v1 v2 v3 l1 l2 l3) : R3 w W v3 v2 v1 l3 l2 l1 := ⟨h.o3, h.o2, h.o1, h.a23.symm, h.a13.symm, h.a12.symm, h.bel⟩
theorem R3.alloc (h : R3 w W v1 v2 v3 l1 l2 l3) (o : Obj) : R3 w (W.alloc o) v1 v2 v3 l1 l2 l3 :=
  ⟨World.ownsRow.alloc h.o1 o, World.ownsRow.alloc h.o2 o, World.ownsRow.alloc h.o3 o, h.a12, h.a13, h.a23, h.bel.alloc h.bel.size o⟩
theorem R3.below (h : R3 w W v1 v2 v3 l1 l2 l3) (hb : Below W.heap.size W W') : R3 w W' v1 v2 v3 l1 l2 l3 :=
  ⟨h.o1.below hb, h.o2.below hb, h.o3.below hb, h.a12, h.a13, h.a23, h.bel.trans (hb.mono h.bel.size)⟩
theorem apart_kept {B : Nat} {u v : Value} {l : List Nat} (h : OwnI B W v l) (hg : W.grownBy W' u.ownBlock) (ha : Apart u v) : OwnI B W' v l := by
  refine World.ownsRow.kept h hg ?_
  cases hv : v.ownBlock with
  | none => exact Or.inl rfl
  | some k => right; intro e; exact ha k e.symm hv
theorem apart_new {B : Nat} {u v : Value} {l : List Nat} (h : OwnI B W v l) (ha : Apart u v) (hat : v'.ownBlock = u.ownBlock ∨ v'.ownBlock = some W.heap.size) : Apart v' v := by
  intro k hk hv
  rcases hat with e | e
  · exact ha k (by rw [← e]; exact hk) hv
  · have := (World.ownsRow.lt h k hv).2
    rw [e] at hk
    cases hk
    omega
theorem R3.app1 (h : R3 w W v1 v2 v3 l1 l2 l3) (ho : W'.ownsRow w.heap.size 3 1 v' (l1.length + 1) (l1.map (fun x : Nat => Value.int .i64 (x : Int)) ++ [.int .i64 (x : Int)])) (hg : W.grownBy W' v1.ownBlock) (hat : v'.ownBlock = v1.ownBlock ∨ v'.ownBlock = some W.heap.size) :
    R3 w W' v' v2 v3 (l1 ++ [x]) l2 l3 :=
  ⟨by unfold OwnI; simpa using ho, apart_kept h.o2 hg h.a12, apart_kept h.o3 hg h.a13, apart_new h.o2 h.a12 hat, apart_new h.o3 h.a13 hat, h.a23, h.bel.grown hg h.bel.size (own_block h.o1)⟩
theorem R3.app2 (h : R3 w W v1 v2 v3 l1 l2 l3) (ho : W'.ownsRow w.heap.size 3 1 v' (l2.length + 1) (l2.map (fun x : Nat => Value.int .i64 (x : Int)) ++ [.int .i64 (x : Int)])) (hg : W.grownBy W' v2.ownBlock) (hat : v'.ownBlock = v2.ownBlock ∨ v'.ownBlock = some W.heap.size) :
    R3 w W' v1 v' v3 l1 (l2 ++ [x]) l3 := (h.swap.app1 ho hg hat).swap
theorem R3.app3 (h : R3 w W v1 v2 v3 l1 l2 l3) (ho : W'.ownsRow w.heap.size 3 1 v' (l3.length + 1) (l3.map (fun x : Nat => Value.int .i64 (x : Int)) ++ [.int .i64 (x : Int)])) (hg : W.grownBy W' v3.ownBlock) (hat : v'.ownBlock = v3.ownBlock ∨ v'.ownBlock = some W.heap.size) :
    R3 w W' v1 v2 v' l1 l2 (l3 ++ [x]) := (h.swap3.app1 ho hg hat).swap3
theorem R3.start (w : World) : R3 w w (.slice none 0 0) (.slice none 0 0) (.slice none 0 0) [] [] [] :=
  ⟨World.ownsRow_nil _ _ _ _, World.ownsRow_nil _ _ _ _, World.ownsRow_nil _ _ _ _, apart_nil _, apart_nil _, apart_nil _, Below.refl _ _⟩
end
/-- the numbers below q that are so, and how many there may be -/
structure Upto (q : Nat) (p : Nat → Bool) (l : List Nat) : Prop where
  mem : ∀ m, m ∈ l ↔ m < q ∧ p m = true
  len : l.length ≤ q
theorem Upto.zero (p : Nat → Bool) : Upto 0 p [] := ⟨fun m => by simp, by simp⟩
theorem Upto.yes {q : Nat} {p : Nat → Bool} {l : List Nat} (h : Upto q p l) (hp : p q = true) : Upto (q + 1) p (l ++ [q]) := by
  refine ⟨fun m => ?_, by have := h.len; simp; omega⟩
  rw [List.mem_append, h.mem]
  simp only [List.mem_singleton]
  constructor
  · rintro (⟨h1, h2⟩ | rfl)
    · exact ⟨by omega, h2⟩
    · exact ⟨by omega, hp⟩
  · rintro ⟨h1, h2⟩
    rcases Nat.lt_or_ge m q with h | h
    · exact Or.inl ⟨h, h2⟩
    · exact Or.inr (by omega)
theorem Upto.no {q : Nat} {p : Nat → Bool} {l : List Nat} (h : Upto q p l) (hp : p q = false) : Upto (q + 1) p l := by
  refine ⟨fun m => ?_, by have := h.len; omega⟩
  rw [h.mem]
  constructor
  · rintro ⟨h1, h2⟩; exact ⟨by omega, h2⟩
  · rintro ⟨h1, h2⟩
    refine ⟨?_, h2⟩
    rcases Nat.lt_or_ge m q with h | h
    · exact h
    · have : m = q := by omega
      subst this
      rw [hp] at h2; cases h2
theorem rhas_s {w : World} {u : Value} {a : List Nat} (hu : St w u a) (q : Nat) (hq : q < 65536) : Calls Tryd.prog 18 #[u, .int .i64 (q : Int)] w fun e w' => e = .returned (.bool (has a q)) ∧ w = w' := by
  have := rhas_ok w u a q hu.words hu.len hu.fit
  rwa [decide_eq_true (by omega), Bool.true_and, Int.toNat_natCast] at this
theorem cast_mem (l : List Nat) (m : Nat) : (m : Int) ∈ l.map (fun x : Nat => (x : Int)) ↔ m ∈ l := by
  rw [List.mem_map]
  constructor
  · rintro ⟨a, ha, e⟩
    have : a = m := by omega
    exact this ▸ ha
  · intro h
    exact ⟨m, h, rfl⟩
theorem rof_s {w : World} {B : Nat} {v : Value} {l : List Nat} (hv : OwnI B w v l) (hl : l.length ≤ 100000) (hr : ∀ x ∈ l, x < 65536) :
    Calls Tryd.prog 16 #[v] w fun e w' => ∃ v' t, e = .returned v' ∧ St w' v' t ∧ Tidy t ∧ Hid (∀ m : Nat, has t m = true ↔ m ∈ l) ∧ Below w.heap.size w w' := by
  refine (rof_ok w v _ hv.nums (by simpa using hl) (fun x hx => by obtain ⟨m, hm, rfl⟩ := List.mem_map.1 hx; have := hr m hm; omega)).mono ?_
  rintro e w' ⟨v', t, rfl, ho, hl, ht, hf, hh, hb⟩
  refine ⟨v', t, rfl, ⟨ho.words, hl, hf⟩, ht, fun m => ?_, hb⟩
  rw [hh]
  exact cast_mem l m
theorem of_s {w : World} {B : Nat} {v : Value} {l : List Nat} (hv : OwnI B w v l) (hl : l.length ≤ 100000) (hr : ∀ x ∈ l, x < 65536) :
    Calls Tryd.prog 9 #[v] w fun e w' => ∃ v' t, e = .returned v' ∧ St w' v' t ∧ Tidy t ∧ Hid (∀ m : Nat, has t m = true ↔ m ∈ l) ∧ Below w.heap.size w w' := by
  refine (of_ok w v _ hv.nums (by simpa using hl)).mono ?_
  rintro e w' ⟨v', t, rfl, ho, hl, ht, hf, hh, hb⟩
  refine ⟨v', t, rfl, ⟨ho.words, hl, hf⟩, ht, fun m => ?_, hb⟩
  rw [hh, cast_mem]
  exact ⟨fun h => h.1, fun h => ⟨h, hr m h⟩⟩
theorem is_s {w : World} {u v : Value} {a b : List Nat} (hu : St w u a) (hv : St w v b) (ta : Tidy a) (tb : Tidy b) (h : ∀ m, has a m = has b m) : Calls Tryd.prog 15 #[u, v] w fun e w' => e = .returned (.bool true) ∧ Below w.heap.size w w' := by
  have := is_ok w u v a b hu.words hv.words hu.len
  rwa [decide_eq_true (set_ext ta tb hu.fit hv.fit h)] at this
end Go.Proofs.YtccccbkllplojaaDoor
