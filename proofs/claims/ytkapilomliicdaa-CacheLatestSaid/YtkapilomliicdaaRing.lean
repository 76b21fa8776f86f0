/-
  Contracts of fit, New, made, unlink, push and touch of package cache, over a cache in memory. No condition beyond those that each theorem states.
-/
import Derived.Test.YtkapilomliicdaaHeap
import Derived.Test.YtkapilomliicdaaMaps
import Derived.WalkLawsBesides
import Derived.WalkSpells
import Derived.BigQuiet
import Derived.BigRegion
import Derived.Deep.QuietTactic
import Derived.Deep.RegionLaw
import Derived.Deep.LoopGhost
namespace Go.Proofs.Ytkapilomliicdaa
open Go.RowKit Go.Maps
set_option linter.unusedSimpArgs false
set_option linter.unusedVariables false

theorem law9 : Keyed Try.prog 9 := string_keyed Try.underlying9
theorem zero32 (w : World) : (zeroValue 32).run Try.prog w = .ok (.pointer none) w := by kernel_rfl

theorem fit_any (r : Int) (w : World) : Calls Try.prog 14 #[.int .i64 r] w fun e w' => e = .returned (.int .i64 (max 0 (min r 4096))) ∧ w = w' := by
  go_enter Try.func14, Try.ntmps14
  go_wp2
  all_goals
    go_ret
    refine ⟨?_, rfl⟩
    congr 2
    simp
    omega

theorem new_any (r : Int) (w : World) : Calls Try.prog 5 #[.int .i64 r] w fun e w' => e = .returned (.pointer (some ⟨w.heap.size + 1, 0, none⟩)) ∧
    (w.alloc (.map #[] 0)).alloc (hdObj (max 0 (min r 4096)) w.heap.size [] 0 0 0) = w' := by
  have hmm := @run_makeMap Try.prog
  go_enter Try.func5, Try.ntmps5
  go_wp2_with (go_at_call 14; refine (fit_any _ _).mono ?_; rintro e w' ⟨rfl, rfl⟩)
  go_ret
  exact ⟨rfl, rfl⟩

theorem made_yes (c m : Nat) (w : World) (h : w.cell? ⟨c, 1, none⟩ = some (.map (some m))) : Calls Try.prog 15 #[.pointer (some ⟨c, 0, none⟩)] w fun e w' => e = .returned (.bool true) ∧ w = w' := by
  have e1 := fun w : World => run_neq_map_nil (P := Try.prog) w 31 9 32 (some m) Try.underlying31
  go_enter Try.func15, Try.ntmps15
  go_wp2
  go_ret
  exact ⟨rfl, rfl⟩

theorem unlink_any (c e : Nat) (p o : Option Nat) (w : World) (h2 : w.cell? ⟨e, 2, none⟩ = some (oaddr p)) (h3 : w.cell? ⟨e, 3, none⟩ = some (oaddr o))
    (hp : ∀ q, p = some q → q ≠ e ∧ q ≠ c ∧ (∀ r, o = some r → q ≠ r) ∧ (∃ v, w.cell? ⟨q, 3, none⟩ = some v) ∧ w.frozen? ⟨q, 3, none⟩ = false)
    (ho : ∀ q, o = some q → q ≠ c ∧ (∃ v, w.cell? ⟨q, 2, none⟩ = some v) ∧ w.frozen? ⟨q, 2, none⟩ = false)
    (hc : c ≠ e) (hc2 : ∃ v, w.cell? ⟨c, 2, none⟩ = some v) (hc3 : ∃ v, w.cell? ⟨c, 3, none⟩ = some v) (hf2 : w.frozen? ⟨c, 2, none⟩ = false) (hf3 : w.frozen? ⟨c, 3, none⟩ = false) :
    Calls Try.prog 20 #[.pointer (some ⟨c, 0, none⟩), .pointer (some ⟨e, 0, none⟩)] w fun en w' => en = .returned (.tuple #[]) ∧ Eqv (unlW w c p o) w' := by
  obtain ⟨v2, hc2⟩ := hc2
  obtain ⟨v3, hc3⟩ := hc3
  cases p with
  | none =>
    cases o with
    | none =>
      clear hp ho
      simp only [oaddr] at h2 h3
      go_enter Try.func20, Try.ntmps20
      go_wp2
      go_end0
      exact ⟨rfl, rfl, rfl, rfl, rfl⟩
    | some o =>
      obtain ⟨hoc, ⟨v, hv⟩, hvf⟩ := ho o rfl
      have hoc' := hoc.symm
      clear hp ho
      simp only [oaddr] at h2 h3
      go_enter Try.func20, Try.ntmps20
      go_wp2
      go_region
      go_wp2
      go_end0
      exact ⟨rfl, rfl, rfl, rfl, rfl⟩
  | some p =>
    obtain ⟨hpe, hpc, hpo, ⟨v, hv⟩, hvf⟩ := hp p rfl
    have hpc' := hpc.symm
    cases o with
    | none =>
      clear hp ho
      simp only [oaddr] at h2 h3
      go_enter Try.func20, Try.ntmps20
      go_wp2
      go_region
      go_wp2
      go_end0
      exact ⟨rfl, rfl, rfl, rfl, rfl⟩
    | some o =>
      obtain ⟨hoc, ⟨u, hu⟩, huf⟩ := ho o rfl
      have hpo := hpo o rfl
      have hpo' := hpo.symm
      clear hp ho
      simp only [oaddr] at h2 h3
      go_enter Try.func20, Try.ntmps20
      go_wp2
      go_region
      go_wp2
      go_region
      go_wp2
      go_end0
      exact ⟨rfl, rfl, rfl, rfl, rfl⟩

theorem push_any (c e : Nat) (f : Option Nat) (w : World) (h2 : w.cell? ⟨c, 2, none⟩ = some (oaddr f)) (hce : c ≠ e)
    (he2 : ∃ v, w.cell? ⟨e, 2, none⟩ = some v) (he3 : ∃ v, w.cell? ⟨e, 3, none⟩ = some v) (hef2 : w.frozen? ⟨e, 2, none⟩ = false) (hef3 : w.frozen? ⟨e, 3, none⟩ = false)
    (hc3 : ∃ v, w.cell? ⟨c, 3, none⟩ = some v) (hf2 : w.frozen? ⟨c, 2, none⟩ = false) (hf3 : w.frozen? ⟨c, 3, none⟩ = false)
    (hq : ∀ q, f = some q → q ≠ c ∧ q ≠ e ∧ (∃ v, w.cell? ⟨q, 2, none⟩ = some v) ∧ w.frozen? ⟨q, 2, none⟩ = false) :
    Calls Try.prog 18 #[.pointer (some ⟨c, 0, none⟩), .pointer (some ⟨e, 0, none⟩)] w fun en w' => en = .returned (.tuple #[]) ∧ pushW w c e f = w' := by
  obtain ⟨v2, he2⟩ := he2
  obtain ⟨v3, he3⟩ := he3
  obtain ⟨u3, hc3⟩ := hc3
  have hec := hce.symm
  cases f with
  | none =>
    clear hq
    simp only [oaddr] at h2
    go_enter Try.func18, Try.ntmps18
    go_wp2
    go_end0
    exact ⟨rfl, rfl⟩
  | some q =>
    obtain ⟨hqc, hqe, ⟨v, hv⟩, hvf⟩ := hq q rfl
    have hqc' := hqc.symm
    have hqe' := hqe.symm
    clear hq
    simp only [oaddr] at h2
    go_enter Try.func18, Try.ntmps18
    go_wp2
    go_end0
    exact ⟨rfl, rfl⟩


/-- a cache in memory: its block c, its map m; L: what is kept, the one that was asked for last first -/
structure CS (w : World) (B c m : Nat) (room : Int) (L : List Ent) (s0 s1 s2 : Int) : Prop where
  hd : w.heap[c]? = some (hdObj room m L s0 s1 s2)
  seg : Seg w none L none
  mp : ∃ A, IsMap w m A ∧ A.Perm (L.map fun x => (Value.string x.k, oaddr (some x.b)))
  keys : (L.map Ent.k).Nodup
  blks : (c :: m :: L.map Ent.b).Nodup
  base : ∀ b ∈ c :: m :: L.map Ent.b, B ≤ b
  ksz : ∀ x ∈ L, x.k.size ≤ maxLen

/-- the ring without the entry x, which lies by itself -/
structure RS (w : World) (B c m : Nat) (room : Int) (x : Ent) (L : List Ent) (s0 s1 s2 : Int) : Prop where
  hd : w.heap[c]? = some (hdObj room m L s0 s1 s2)
  seg : Seg w none L none
  xb : ∃ p q, w.heap[x.b]? = some (entObj x p q)
  blks : (c :: m :: x.b :: L.map Ent.b).Nodup
  base : ∀ b ∈ c :: m :: x.b :: L.map Ent.b, B ≤ b

theorem CS.made {w : World} {B c m : Nat} {room s0 s1 s2 : Int} {L : List Ent} (h : CS w B c m room L s0 s1 s2) :
    Calls Try.prog 15 #[.pointer (some ⟨c, 0, none⟩)] w fun e w' => e = .returned (.bool true) ∧ w = w' :=
  made_yes c m w (blk_cell h.hd rfl)

theorem nx_mem {xs : List Ent} {q : Nat} (h : nx xs none = some q) : ∃ z ∈ xs, z.b = q := by
  cases xs with
  | nil => cases h
  | cons y ys => exact ⟨y, by simp, by simpa [nx] using h⟩
theorem ls_mem {xs : List Ent} {q : Nat} (h : ls none xs = some q) : ∃ z ∈ xs, z.b = q := by
  rcases lst_cases xs with rfl | ⟨ys, z, rfl⟩
  · cases h
  · exact ⟨z, by simp, by simpa [ls_snoc] using h⟩

theorem unlink_fr {w : World} {B c m : Nat} {room s0 s1 s2 : Int} {xs ys : List Ent} {x : Ent} (hd : w.heap[c]? = some (hdObj room m (xs ++ x :: ys) s0 s1 s2))
    (seg : Seg w none (xs ++ x :: ys) none) (blks : (c :: m :: (xs ++ x :: ys).map Ent.b).Nodup) (base : ∀ b ∈ c :: m :: (xs ++ x :: ys).map Ent.b, B ≤ b) :
    Calls Try.prog 20 #[.pointer (some ⟨c, 0, none⟩), .pointer (some ⟨x.b, 0, none⟩)] w fun e w' => e = .returned (.tuple #[]) ∧
      RS w' B c m room x (xs ++ ys) s0 s1 s2 ∧ w'.heap[m]? = w.heap[m]? ∧ Below B w w' ∧ ∀ b, b ≠ c → b ∉ (xs ++ ys).map Ent.b → w'.heap[b]? = w.heap[b]? := by
  have hx : w.heap[x.b]? = some (entObj x (ls none xs) (nx ys none)) := ((seg_app _ _ _ _).1 seg).2.1
  have hb := blks
  simp only [List.map_append, List.map_cons, List.nodup_cons, List.mem_append, List.mem_cons, not_or, List.nodup_append] at hb
  obtain ⟨⟨hcm, hcx, hcxb, hcy⟩, ⟨hmx, hmxb, hmy⟩, hnx, ⟨hxy, hny⟩, hd2⟩ := hb
  have hmem : ∀ z, z ∈ xs ∨ z ∈ ys → ∃ q r, w.heap[z.b]? = some (entObj z q r) := fun z hz => seg_mem seg (by rcases hz with h | h <;> simp [h])
  refine (unlink_any c x.b (ls none xs) (nx ys none) w (blk_cell hx rfl) (blk_cell hx rfl) ?_ ?_ hcxb ⟨_, blk_cell hd rfl⟩ ⟨_, blk_cell hd rfl⟩ (blk_free hd) (blk_free hd)).mono ?_
  · intro q hq
    obtain ⟨z, hz, rfl⟩ := ls_mem hq
    obtain ⟨_, _, hzb⟩ := hmem z (Or.inl hz)
    have hzm := List.mem_map_of_mem (f := Ent.b) hz
    refine ⟨fun e => hd2 z.b hzm x.b (by simp) e, fun e => hcx (e ▸ hzm), ?_, ⟨_, blk_cell hzb rfl⟩, blk_free hzb⟩
    intro r hr e
    obtain ⟨u, hu, rfl⟩ := nx_mem hr
    exact hd2 z.b hzm u.b (by simp; exact Or.inr ⟨u, hu, rfl⟩) e
  · intro q hq
    obtain ⟨z, hz, rfl⟩ := nx_mem hq
    obtain ⟨_, _, hzb⟩ := hmem z (Or.inr hz)
    have hzm := List.mem_map_of_mem (f := Ent.b) hz
    exact ⟨fun e => hcy (e ▸ hzm), ⟨_, blk_cell hzb rfl⟩, blk_free hzb⟩
  · rintro e w' ⟨rfl, hE⟩
    have hn : (c :: (xs ++ x :: ys).map Ent.b).Nodup := by
      simp only [List.nodup_cons] at blks ⊢
      exact ⟨fun h => blks.1 (by simp [List.mem_cons]; right; simpa using h), blks.2.2⟩
    obtain ⟨s1', s2', s3'⟩ := unlW_spec hd seg hn
    have hmne : m ≠ c := fun e => hcm e.symm
    have hbm : m ∉ (xs ++ ys).map Ent.b := by
      simp only [List.map_append, List.mem_append, not_or]; exact ⟨hmx, hmy⟩
    have hxbm : x.b ∉ (xs ++ ys).map Ent.b := by
      simp only [List.map_append, List.mem_append, not_or]
      exact ⟨fun h => hd2 x.b h x.b (by simp) rfl, hxy⟩
    have hbelow : Below B w (unlW w c (ls none xs) (nx ys none)) := by
      have hBc : B ≤ c := base c (by simp)
      have h1 : ∀ q, ls none xs = some q → B ≤ q := fun q hq => by
        obtain ⟨z, hz, rfl⟩ := ls_mem hq
        exact base _ (by simp; right; right; left; exact ⟨z, hz, rfl⟩)
      have h2 : ∀ q, nx ys none = some q → B ≤ q := fun q hq => by
        obtain ⟨z, hz, rfl⟩ := nx_mem hq
        exact base _ (by simp; right; right; right; right; exact ⟨z, hz, rfl⟩)
      unfold unlW
      cases h3 : ls none xs <;> cases h4 : nx ys none <;> simp only
      · exact ((Below.refl _ _).setCell (p := ⟨c, 2, none⟩) hBc _).setCell (p := ⟨c, 3, none⟩) hBc _
      · exact ((Below.refl _ _).setCell (p := ⟨c, 2, none⟩) hBc _).setCell (p := ⟨_, 2, none⟩) (h2 _ h4) _
      · exact ((Below.refl _ _).setCell (p := ⟨_, 3, none⟩) (h1 _ h3) _).setCell (p := ⟨c, 3, none⟩) hBc _
      · exact ((Below.refl _ _).setCell (p := ⟨_, 3, none⟩) (h1 _ h3) _).setCell (p := ⟨_, 2, none⟩) (h2 _ h4) _
    refine ⟨rfl, ⟨?_, ?_, ⟨ls none xs, nx ys none, ?_⟩, ?_, ?_⟩, ?_, hbelow.trans (hE.below B), fun b h1 h2 => by rw [hE.heap]; exact s3' b h1 h2⟩
    · rw [hE.heap]; exact s1'
    · exact seg_congr _ _ _ (fun z _ => by rw [hE.heap]) s2'
    · rw [hE.heap, s3' x.b (fun e => hcxb e.symm) hxbm]; exact hx
    · have := blks
      simp only [List.nodup_cons, List.mem_cons, not_or]
      refine ⟨⟨hcm, hcxb, ?_⟩, ⟨hmxb, hbm⟩, hxbm, ?_⟩
      · simp only [List.map_append, List.mem_append, not_or]; exact ⟨hcx, hcy⟩
      · simp only [List.map_append, List.nodup_append]
        exact ⟨hnx, hny, fun a ha b hb => hd2 a ha b (Or.inr hb)⟩
    · intro b hb
      apply base
      simp at hb ⊢
      rcases hb with rfl | rfl | rfl | h | h
      · simp
      · simp
      · simp
      · right; right; left; exact h
      · right; right; right; right; exact h
    · rw [hE.heap, s3' m hmne hbm]

theorem unlink_cs {w : World} {B c m : Nat} {room s0 s1 s2 : Int} {xs ys : List Ent} {x : Ent} (hd : w.heap[c]? = some (hdObj room m (xs ++ x :: ys) s0 s1 s2))
    (seg : Seg w none (xs ++ x :: ys) none) (blks : (c :: m :: (xs ++ x :: ys).map Ent.b).Nodup) (base : ∀ b ∈ c :: m :: (xs ++ x :: ys).map Ent.b, B ≤ b) :
    Calls Try.prog 20 #[.pointer (some ⟨c, 0, none⟩), .pointer (some ⟨x.b, 0, none⟩)] w fun e w' => e = .returned (.tuple #[]) ∧
      RS w' B c m room x (xs ++ ys) s0 s1 s2 ∧ w'.heap[m]? = w.heap[m]? ∧ Below B w w' :=
  (unlink_fr hd seg blks base).mono fun _ _ ⟨a1, a2, a3, a4, _⟩ => ⟨a1, a2, a3, a4⟩

theorem push_fr {w : World} {B c m : Nat} {room s0 s1 s2 : Int} {L : List Ent} {x : Ent} (h : RS w B c m room x L s0 s1 s2) :
    Calls Try.prog 18 #[.pointer (some ⟨c, 0, none⟩), .pointer (some ⟨x.b, 0, none⟩)] w fun e w' => e = .returned (.tuple #[]) ∧
      w'.heap[c]? = some (hdObj room m (x :: L) s0 s1 s2) ∧ Seg w' none (x :: L) none ∧ w'.heap[m]? = w.heap[m]? ∧ Below B w w' ∧ ∀ b, b ≠ c → b ∉ (x :: L).map Ent.b → w'.heap[b]? = w.heap[b]? := by
  obtain ⟨p, q, hx⟩ := h.xb
  have hb := h.blks
  simp only [List.nodup_cons, List.mem_cons, not_or] at hb
  obtain ⟨⟨hcm, hcx, hcL⟩, ⟨hmx, hmL⟩, hxL, hnL⟩ := hb
  have hn : (c :: x.b :: L.map Ent.b).Nodup := by
    simp only [List.nodup_cons, List.mem_cons, not_or]; exact ⟨⟨hcx, hcL⟩, hxL, hnL⟩
  refine (push_any c x.b (nx L none) w (blk_cell h.hd rfl) hcx ⟨_, blk_cell hx rfl⟩ ⟨_, blk_cell hx rfl⟩ (blk_free hx) (blk_free hx) ⟨_, blk_cell h.hd rfl⟩ (blk_free h.hd) (blk_free h.hd) ?_).mono ?_
  · intro q hq
    obtain ⟨z, hz, rfl⟩ := nx_mem hq
    obtain ⟨_, _, hzb⟩ := seg_mem h.seg hz
    have hzm := List.mem_map_of_mem (f := Ent.b) hz
    exact ⟨fun e => hcL (e ▸ hzm), fun e => hxL (e ▸ hzm), ⟨_, blk_cell hzb rfl⟩, blk_free hzb⟩
  · rintro e w' ⟨rfl, rfl⟩
    obtain ⟨s1', s2', s3'⟩ := pushW_spec h.hd h.seg hx hn
    refine ⟨rfl, s1', s2', s3' m (fun e => hcm e.symm) ?_, ?_, s3'⟩
    · simp only [List.map_cons, List.mem_cons, not_or]; exact ⟨hmx, hmL⟩
    · have hBc : B ≤ c := h.base c (by simp)
      have hBx : B ≤ x.b := h.base x.b (by simp)
      have h2 : ∀ q, nx L none = some q → B ≤ q := fun q hq => by
        obtain ⟨z, hz, rfl⟩ := nx_mem hq
        exact h.base _ (by simp; right; right; right; exact ⟨z, hz, rfl⟩)
      unfold pushW
      cases h4 : nx L none <;> simp only
      · exact ((((Below.refl _ _).setCell (p := ⟨x.b, 2, none⟩) hBx _).setCell (p := ⟨x.b, 3, none⟩) hBx _).setCell (p := ⟨c, 3, none⟩) hBc _).setCell (p := ⟨c, 2, none⟩) hBc _
      · exact ((((Below.refl _ _).setCell (p := ⟨x.b, 2, none⟩) hBx _).setCell (p := ⟨x.b, 3, none⟩) hBx _).setCell (p := ⟨_, 2, none⟩) (h2 _ h4) _).setCell (p := ⟨c, 2, none⟩) hBc _

theorem push_cs {w : World} {B c m : Nat} {room s0 s1 s2 : Int} {L : List Ent} {x : Ent} (h : RS w B c m room x L s0 s1 s2) :
    Calls Try.prog 18 #[.pointer (some ⟨c, 0, none⟩), .pointer (some ⟨x.b, 0, none⟩)] w fun e w' => e = .returned (.tuple #[]) ∧
      w'.heap[c]? = some (hdObj room m (x :: L) s0 s1 s2) ∧ Seg w' none (x :: L) none ∧ w'.heap[m]? = w.heap[m]? ∧ Below B w w' :=
  (push_fr h).mono fun _ _ ⟨a1, a2, a3, a4, a5, _⟩ => ⟨a1, a2, a3, a4, a5⟩

theorem touch_fr {w : World} {B c m : Nat} {room s0 s1 s2 : Int} {xs ys : List Ent} {x : Ent} (h : CS w B c m room (xs ++ x :: ys) s0 s1 s2) :
    Calls Try.prog 16 #[.pointer (some ⟨c, 0, none⟩), .pointer (some ⟨x.b, 0, none⟩)] w fun e w' => e = .returned (.tuple #[]) ∧
      CS w' B c m room (x :: (xs ++ ys)) s0 s1 s2 ∧ Below B w w' ∧ ∀ b, b ≠ c → b ∉ (xs ++ x :: ys).map Ent.b → w'.heap[b]? = w.heap[b]? := by
  have hu := unlink_fr h.hd h.seg h.blks h.base
  go_enter Try.func16, Try.ntmps16
  go_wp2_with fail
  refine hu.mono ?_
  rintro e w1 ⟨rfl, hR, hm, hB, hfr⟩
  have hp := push_fr hR
  have Hfr := (show Hid _ from hfr)
  clear hfr
  clear hu
  go_wp2_with fail
  refine hp.mono ?_
  rintro e w2 ⟨rfl, k1, k2, k3, k4, k5⟩
  have Hk5 := (show Hid _ from k5)
  clear k5
  clear hp
  go_wp2_with fail
  go_end0
  have hperm : (x :: (xs ++ ys)).Perm (xs ++ x :: ys) := List.perm_middle.symm
  refine ⟨rfl, ⟨k1, k2, ?_, (hperm.map Ent.k).nodup_iff.2 h.keys, ?_, ?_, ?_⟩, hB.trans k4, ?_⟩
  · obtain ⟨A, hA, hAp⟩ := h.mp
    exact ⟨A, (hA.congr hm).congr k3, hAp.trans (hperm.map _).symm⟩
  · exact ((((hperm.map Ent.b).cons m).cons c).nodup_iff).2 h.blks
  · intro b hb
    exact h.base b ((((hperm.map Ent.b).cons m).cons c).mem_iff.1 hb)
  · intro y hy
    exact h.ksz y (hperm.mem_iff.1 hy)
  · intro b h1 h2
    have h3 : b ∉ (x :: (xs ++ ys)).map Ent.b := fun h => h2 ((hperm.map Ent.b).mem_iff.1 h)
    have h4 : b ∉ (xs ++ ys).map Ent.b := fun h => h3 (List.mem_cons_of_mem _ h)
    exact (Hk5.out b h1 h3).trans (Hfr.out b h1 h4)

theorem touch_cs {w : World} {B c m : Nat} {room s0 s1 s2 : Int} {xs ys : List Ent} {x : Ent} (h : CS w B c m room (xs ++ x :: ys) s0 s1 s2) :
    Calls Try.prog 16 #[.pointer (some ⟨c, 0, none⟩), .pointer (some ⟨x.b, 0, none⟩)] w fun e w' => e = .returned (.tuple #[]) ∧
      CS w' B c m room (x :: (xs ++ ys)) s0 s1 s2 ∧ Below B w w' :=
  (touch_fr h).mono fun _ _ ⟨a1, a2, a3, _⟩ => ⟨a1, a2, a3⟩
end Go.Proofs.Ytkapilomliicdaa
