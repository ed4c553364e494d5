/- The reference's Dirty; sameInts. -/
import Derived.Test.YthlbimdlpadhdaaD4
namespace Go.Proofs.Ythlbimdlpadhdaa
open Go Go.Sl

/-- the least dirty number beyond 'last', -1 where there is none -/
def NX (last : Int) (l : List Ab) (next : Int) : Prop :=
  (next = -1 ∧ ∀ a ∈ l, a.dirty = true → a.n ≤ last) ∨ (∃ a ∈ l, a.dirty = true ∧ a.n = next ∧ last < next ∧ ∀ x ∈ l, x.dirty = true → last < x.n → next ≤ x.n)
theorem NX.nil (last : Int) : NX last [] (-1) := .inl ⟨rfl, by simp⟩
theorem NX.take_it {last next : Int} {l : List Ab} {a : Ab} (h : NX last l next) (hp : ∀ x ∈ l, 0 ≤ x.n) (hd : a.dirty = true) (h1 : last < a.n) (h2 : next < 0 ∨ a.n < next) : NX last (l ++ [a]) a.n := by
  refine .inr ⟨a, by simp, hd, rfl, h1, fun x hx hxd hxl => ?_⟩
  rcases List.mem_append.1 hx with hx | hx
  · rcases h with ⟨_, h⟩ | ⟨y, hy, _, hyn, _, h⟩
    · have := h x hx hxd; omega
    · have := h x hx hxd hxl
      have := hp y hy
      omega
  · simp at hx; subst hx; exact Int.le_refl _
theorem NX.keep {last next : Int} {l : List Ab} {a : Ab} (h : NX last l next) (hn : a.dirty = true → last < a.n → 0 ≤ next ∧ next ≤ a.n) : NX last (l ++ [a]) next := by
  rcases h with ⟨h1, h⟩ | ⟨y, hy, hyd, hyn, hyl, h⟩
  · refine .inl ⟨h1, fun x hx hxd => ?_⟩
    rcases List.mem_append.1 hx with hx | hx
    · exact h x hx hxd
    · simp at hx; subst hx
      by_cases hl : last < x.n
      · have := hn hxd hl; omega
      · omega
  · refine .inr ⟨y, by simp [hy], hyd, hyn, hyl, fun x hx hxd hxl => ?_⟩
    rcases List.mem_append.1 hx with hx | hx
    · exact h x hx hxd hxl
    · simp at hx; subst hx; exact (hn hxd hxl).2
theorem dirtyOf_mem {A : List Ab} {n : Int} : n ∈ dirtyOf A ↔ ∃ a ∈ A, a.dirty = true ∧ a.n = n := by
  unfold dirtyOf dirtyRow
  rw [List.mem_mergeSort]
  constructor
  · intro h
    obtain ⟨a, ha, rfl⟩ := List.mem_map.1 h
    exact ⟨a, (List.mem_filter.1 ha).1, (List.mem_filter.1 ha).2, rfl⟩
  · rintro ⟨a, ha, hd, rfl⟩
    exact List.mem_map_of_mem (List.mem_filter.2 ⟨ha, hd⟩)
theorem dirtyOf_lt {A : List Ab} (hn : (numsOf A).Nodup) : (dirtyOf A).Pairwise (· < ·) := by
  have h1 : (dirtyOf A).Pairwise (fun x y => decide (x ≤ y) = true) := List.pairwise_mergeSort (fun a b c h h' => by simp at *; omega) (fun a b => by simp; omega) _
  have h2 : (dirtyOf A).Nodup := (List.mergeSort_perm _ _).nodup_iff.2 (hn.sublist ((List.filter_sublist).map _))
  exact (h1.and h2).imp (fun ⟨h, h'⟩ => by simp at h; omega)
/-- what was told last, ahead of the j-th -/
def lastN (S : List Int) (j : Nat) : Int := ((-1) :: S).getD j 0
theorem NX.done {A : List Ab} {j : Nat} {next : Int} (hn : (numsOf A).Nodup) (hp : ∀ a ∈ A, 0 ≤ a.n) (hj : j ≤ (dirtyOf A).length) (h : NX (lastN (dirtyOf A) j) A next) :
    (∀ hlt : j < (dirtyOf A).length, next = (dirtyOf A)[j] ∧ 0 ≤ next) ∧ (¬ j < (dirtyOf A).length → next = -1) := by
  have hS := dirtyOf_lt hn
  have hpos : ∀ x ∈ dirtyOf A, 0 ≤ x := fun x hx => by obtain ⟨a, ha, _, rfl⟩ := dirtyOf_mem.1 hx; exact hp a ha
  have hlast : ∀ k (hk : k < (dirtyOf A).length), (lastN (dirtyOf A) j < (dirtyOf A)[k] ↔ j ≤ k) := fun k hk => by
    cases j with
    | zero => simp [lastN]; have := hpos _ (List.getElem_mem hk); omega
    | succ i =>
      have hi : i < (dirtyOf A).length := by omega
      have : lastN (dirtyOf A) (i + 1) = (dirtyOf A)[i] := by simp [lastN, hi]
      rw [this]
      have hm := List.pairwise_iff_getElem.1 hS
      constructor
      · intro hlt
        rcases Nat.lt_trichotomy i k with h' | h' | h'
        · omega
        · subst h'; omega
        · have := hm k i hk hi h'; omega
      · intro hle
        exact hm i k hi hk (by omega)
  constructor
  · intro hlt
    have hmem := dirtyOf_mem.1 (List.getElem_mem hlt)
    obtain ⟨a, ha, hd, han⟩ := hmem
    have hl := (hlast j hlt).2 (Nat.le_refl _)
    rcases h with ⟨_, h⟩ | ⟨y, hy, hyd, hyn, hyl, h⟩
    · have := h a ha hd; omega
    · have h1 := h a ha hd (by omega)
      obtain ⟨k, hk, hke⟩ := List.mem_iff_getElem.1 (dirtyOf_mem.2 ⟨y, hy, hyd, hyn⟩)
      have hjk := (hlast k hk).1 (by rw [hke]; exact hyl)
      have hp' := hp y hy
      rcases Nat.lt_or_ge j k with h' | h'
      · have := List.pairwise_iff_getElem.1 hS j k hlt hk h'; omega
      · have : j = k := by omega
        subst this; exact ⟨hke.symm, by omega⟩
  · intro hge
    rcases h with ⟨h, _⟩ | ⟨y, hy, hyd, hyn, hyl, h⟩
    · exact h
    · obtain ⟨k, hk, hke⟩ := List.mem_iff_getElem.1 (dirtyOf_mem.2 ⟨y, hy, hyd, hyn⟩)
      have hjk := (hlast k hk).1 (by rw [hke]; exact hyl)
      omega
theorem dirtyOf_len' (A : List Ab) : (dirtyOf A).length ≤ A.length := by simp only [dirtyOf, dirtyRow, numsOf, List.length_mergeSort, List.length_map]; exact List.length_filter_le _ _

set_option maxHeartbeats 1000000 in
theorem dirtyR_spec (c : Nat) (most : Int) (A : List Ab) (hl : A.length ≤ 1500) (hp : ∀ a ∈ A, 0 ≤ a.n) : Ctr Try.prog 13 [ptrV c] (fun R => RC c most A :: R) (fun v : Value => IsSl (dirtyOf A).length v)
    (fun v => v) (fun v R => own 1 v (dirtyOf A).length (ints (dirtyOf A)) :: RC c most A :: R) := by
  refine Ctr.of_ent Try.func13 rfl Try.ntmps13 rfl (fun σ R => ?_)
  refine mmRC (by (repeat (first | exact Sel.here | apply Sel.there))) (fun L rv hA hg => ?_)
  have hlen' : L.length = A.length := by rw [← hA]; simp
  have hlen : (L.map Prod.fst).length = A.length := by rw [← hA]; simp
  have hnA := hg.numsA hA
  have hdl := dirtyOf_len' A
  refine mmOwnA (by (repeat (first | exact Sel.here | apply Sel.there))) (fun ra rc hv _ _ hpa => ?_)
  subst hv
  (repeat (first | refine EntL.qx ?_ | (apply Ent.seq) | (apply Ent.region) | (apply EntL.nil) | (apply EntX.then_normal) | refine EntL.ux ?_ | (refine EntL.nn (fun _ _ => ?_)) | (apply Ent.block) | (apply Ent.exit) | (apply Ent.ret) | (apply Ent.skip) | (apply EntX.then_ret) | (apply EntX.block_ret) | (apply EntX.then_exit) | (apply EntX.block_exit; exact rfl) | (apply EntX.block_exit_other; exact rfl) | (apply EntX.block_normal) | refine EntL.g1x ?_ | refine EntL.g2x ?_ | refine EntL.g3 ?_ | refine Ent.c1x ?_ | refine Ent.c2x ?_))
  refine mm (own_none (sz := 1)) ?_
  refine Ent.loop (α := Nat × Value) (fun x => [(0, ptrV c), (3, x.2), (4, .int .i64 (lastN (dirtyOf A) x.1))])
    (fun x => own 1 x.2 x.1 (ints ((dirtyOf A).take x.1)) :: cl c [.int .i64 most, .slice ra (L.map Prod.fst).length rc] :: own 1 (.slice ra (L.map Prod.fst).length rc) (L.map Prod.fst).length ((L.map Prod.fst).map ptrV) :: entsR L :: R)
    (fun x => x.1 ≤ (dirtyOf A).length) (fun x => (dirtyOf A).length - x.1) (0, .slice none 0 0) (Nat.zero_le _) (by repeat (first | exact EnvSub.nil | refine EnvSub.cons rfl ?_)) (fun _ h => h) ?_
  rintro ⟨j, v⟩ hj
  simp only at hj ⊢
  refine mmOwnA (k := j) (cs := ints ((dirtyOf A).take j)) (by (repeat (first | exact Sel.here | apply Sel.there))) (fun va vc hv _ _ _ => ?_)
  subst hv
  (repeat (first | refine EntL.qx ?_ | (apply Ent.seq) | (apply Ent.region) | (apply EntL.nil) | (apply EntX.then_normal) | refine EntL.ux ?_ | (refine EntL.nn (fun _ _ => ?_)) | (apply Ent.exit) | (apply Ent.ret) | (apply Ent.skip) | (apply EntX.then_ret) | (apply EntX.block_ret) | (apply EntX.then_exit) | (apply EntX.block_exit; exact rfl) | (apply EntX.block_exit_other; exact rfl) | (apply EntX.block_normal) | refine EntL.g1x ?_ | refine EntL.g2x ?_ | refine EntL.g3 ?_ | refine Ent.c1x ?_ | refine Ent.c2x ?_))
  refine Ent.block ?_
  (repeat (first | refine EntL.qx ?_ | (apply Ent.seq) | (apply Ent.region) | (apply EntL.nil) | (apply EntX.then_normal) | refine EntL.ux ?_ | (refine EntL.nn (fun _ _ => ?_)) | (apply Ent.exit) | (apply Ent.ret) | (apply Ent.skip) | (apply EntX.then_ret) | (apply EntX.block_ret) | (apply EntX.then_exit) | (apply EntX.block_exit; exact rfl) | (apply EntX.block_exit_other; exact rfl) | (apply EntX.block_normal) | refine EntL.g1x ?_ | refine EntL.g2x ?_ | refine EntL.g3 ?_ | refine Ent.c1x ?_ | refine Ent.c2x ?_))
  refine Ent.cutT (α := { x : Int // NX (lastN (dirtyOf A) j) A x }) (fun x => [(0, ptrV c), (3, .slice va j vc), (4, .int .i64 (lastN (dirtyOf A) j)), (5, .int .i64 x.1)])
    (fun _ => own 1 (.slice va j vc) j (ints ((dirtyOf A).take j)) :: cl c [.int .i64 most, .slice ra (L.map Prod.fst).length rc] :: own 1 (.slice ra (L.map Prod.fst).length rc) (L.map Prod.fst).length ((L.map Prod.fst).map ptrV) :: entsR L :: R) ?_ ?_
  · (repeat (first | refine EntL.qx ?_ | (apply Ent.seq) | (apply Ent.region) | (apply EntL.nil) | (apply EntX.then_normal) | refine EntL.ux ?_ | (refine EntL.nn (fun _ _ => ?_)) | (apply Ent.block) | (apply Ent.exit) | (apply Ent.ret) | (apply Ent.skip) | (apply EntX.then_ret) | (apply EntX.block_ret) | (apply EntX.then_exit) | (apply EntX.block_exit; exact rfl) | (apply EntX.block_exit_other; exact rfl) | (apply EntX.block_normal) | refine EntL.g1x ?_ | refine EntL.g2x ?_ | refine EntL.g3 ?_ | refine Ent.c1x ?_ | refine Ent.c2x ?_))
    refine Ent.loop (α := Nat × Int) (fun x => [(0, ptrV c), (3, .slice va j vc), (4, .int .i64 (lastN (dirtyOf A) j)), (5, .int .i64 x.2), (6, .int .i64 x.1)])
      (fun _ => own 1 (.slice va j vc) j (ints ((dirtyOf A).take j)) :: cl c [.int .i64 most, .slice ra (L.map Prod.fst).length rc] :: own 1 (.slice ra (L.map Prod.fst).length rc) (L.map Prod.fst).length ((L.map Prod.fst).map ptrV) :: entsR L :: R)
      (fun x => x.1 ≤ A.length ∧ NX (lastN (dirtyOf A) j) (A.take x.1) x.2) (fun x => A.length - x.1) (0, -1) ⟨Nat.zero_le _, NX.nil _⟩ (by repeat (first | exact EnvSub.nil | refine EnvSub.cons rfl ?_)) (fun _ h => h) ?_
    rintro ⟨i, next⟩ ⟨hi, hN⟩
    simp only at hi hN ⊢
    by_cases hil : i < A.length
    · obtain ⟨bb, rfl⟩ := hpa (by omega)
      obtain ⟨L1, p, a, L2, rfl, rfl⟩ := row_at' (L := L) (i := i) (by omega)
      have hget := ptr_mid (L1 := L1) (L2 := L2) (p := p) (a := a)
      have hAe : A.take (L1.length + 1) = A.take L1.length ++ [a] := by
        have e1 : A = L1.map Prod.snd ++ a :: L2.map Prod.snd := by rw [← hA]; simp
        have e2 : L1.length = (L1.map Prod.snd).length := by simp
        rw [e1, e2, take_mid, take_mid0]
      have hpt : ∀ x ∈ A.take L1.length, 0 ≤ x.n := fun x hx => hp x (List.mem_of_mem_take hx)
      (repeat (first | refine EntL.qx ?_ | (apply Ent.seq) | (apply Ent.region) | (apply EntL.nil) | (apply EntX.then_normal) | refine EntL.ux ?_ | (refine EntL.nn (fun _ _ => ?_)) | (apply Ent.block) | (apply Ent.exit) | (apply Ent.ret) | (apply Ent.skip) | (apply EntX.then_ret) | (apply EntX.block_ret) | (apply EntX.then_exit) | (apply EntX.block_exit; exact rfl) | (apply EntX.block_exit_other; exact rfl) | (apply EntX.block_normal) | refine EntL.g1x ?_ | refine EntL.g2x ?_ | refine EntL.g3 ?_ | refine Ent.c1x ?_ | refine Ent.c2x ?_))
      refine mmEntR (E1 := L1) (E2 := L2) (by (repeat (first | exact Sel.here | apply Sel.there))) (fun dv => ?_)
      generalize lastN (dirtyOf A) j = last at *
      cases hd : a.dirty
      · have hN' : NX last (A.take L1.length ++ [a]) next := hN.keep (fun h => by rw [hd] at h; cases h)
        (repeat (first | refine EntL.qx ?_ | (apply Ent.seq) | (apply Ent.region) | (apply EntL.nil) | (apply EntX.then_normal) | refine EntL.ux ?_ | (refine EntL.nn (fun _ _ => ?_)) | (apply Ent.block) | (apply Ent.exit) | (apply Ent.ret) | (apply Ent.skip) | (apply EntX.then_ret) | (apply EntX.block_ret) | (apply EntX.then_exit) | (apply EntX.block_exit; exact rfl) | (apply EntX.block_exit_other; exact rfl) | (apply EntX.block_normal) | refine EntL.g1x ?_ | refine EntL.g2x ?_ | refine EntL.g3 ?_ | refine Ent.c1x ?_ | refine Ent.c2x ?_))
        exact EntX.round_end (L1.length + 1, next) ⟨by simp only; omega, by simp only; rw [hAe]; exact hN'⟩ (by simp only; omega) (by repeat (first | exact EnvSub.nil | refine EnvSub.cons rfl ?_)) (mem_trans (shutEntR (E1 := L1) (E2 := L2) (p := p) (a := a) (dv := dv) (by rw [hd]; (repeat (first | exact Fits.rfl | exact Fits.nil | exact Sel.here | apply Sel.there | apply Fits.cons | apply Fits.drop)))) (by exact Fits.keep (by (repeat (first | exact Fits.rfl | exact Fits.nil | exact Sel.here | apply Sel.there | apply Fits.cons | apply Fits.drop)))))
      · by_cases h1 : last < a.n
        · by_cases h2 : next < 0
          · have hN' := hN.take_it hpt hd h1 (.inl h2)
            (repeat (first | refine EntL.qx ?_ | (apply Ent.seq) | (apply Ent.region) | (apply EntL.nil) | (apply EntX.then_normal) | refine EntL.ux ?_ | (refine EntL.nn (fun _ _ => ?_)) | (apply Ent.block) | (apply Ent.exit) | (apply Ent.ret) | (apply Ent.skip) | (apply EntX.then_ret) | (apply EntX.block_ret) | (apply EntX.then_exit) | (apply EntX.block_exit; exact rfl) | (apply EntX.block_exit_other; exact rfl) | (apply EntX.block_normal) | refine EntL.g1x ?_ | refine EntL.g2x ?_ | refine EntL.g3 ?_ | refine Ent.c1x ?_ | refine Ent.c2x ?_))
            exact EntX.round_end (L1.length + 1, a.n) ⟨by simp only; omega, by simp only; rw [hAe]; exact hN'⟩ (by simp only; omega) (by repeat (first | exact EnvSub.nil | refine EnvSub.cons rfl ?_)) (mem_trans (shutEntR (E1 := L1) (E2 := L2) (p := p) (a := a) (dv := dv) (by rw [hd]; (repeat (first | exact Fits.rfl | exact Fits.nil | exact Sel.here | apply Sel.there | apply Fits.cons | apply Fits.drop)))) (by exact Fits.keep (by (repeat (first | exact Fits.rfl | exact Fits.nil | exact Sel.here | apply Sel.there | apply Fits.cons | apply Fits.drop)))))
          · by_cases h3 : a.n < next
            · have hN' := hN.take_it hpt hd h1 (.inr h3)
              (repeat (first | refine EntL.qx ?_ | (apply Ent.seq) | (apply Ent.region) | (apply EntL.nil) | (apply EntX.then_normal) | refine EntL.ux ?_ | (refine EntL.nn (fun _ _ => ?_)) | (apply Ent.block) | (apply Ent.exit) | (apply Ent.ret) | (apply Ent.skip) | (apply EntX.then_ret) | (apply EntX.block_ret) | (apply EntX.then_exit) | (apply EntX.block_exit; exact rfl) | (apply EntX.block_exit_other; exact rfl) | (apply EntX.block_normal) | refine EntL.g1x ?_ | refine EntL.g2x ?_ | refine EntL.g3 ?_ | refine Ent.c1x ?_ | refine Ent.c2x ?_))
              exact EntX.round_end (L1.length + 1, a.n) ⟨by simp only; omega, by simp only; rw [hAe]; exact hN'⟩ (by simp only; omega) (by repeat (first | exact EnvSub.nil | refine EnvSub.cons rfl ?_)) (mem_trans (shutEntR (E1 := L1) (E2 := L2) (p := p) (a := a) (dv := dv) (by rw [hd]; (repeat (first | exact Fits.rfl | exact Fits.nil | exact Sel.here | apply Sel.there | apply Fits.cons | apply Fits.drop)))) (by exact Fits.keep (by (repeat (first | exact Fits.rfl | exact Fits.nil | exact Sel.here | apply Sel.there | apply Fits.cons | apply Fits.drop)))))
            · have hN' : NX last (A.take L1.length ++ [a]) next := hN.keep (fun _ _ => by omega)
              (repeat (first | refine EntL.qx ?_ | (apply Ent.seq) | (apply Ent.region) | (apply EntL.nil) | (apply EntX.then_normal) | refine EntL.ux ?_ | (refine EntL.nn (fun _ _ => ?_)) | (apply Ent.block) | (apply Ent.exit) | (apply Ent.ret) | (apply Ent.skip) | (apply EntX.then_ret) | (apply EntX.block_ret) | (apply EntX.then_exit) | (apply EntX.block_exit; exact rfl) | (apply EntX.block_exit_other; exact rfl) | (apply EntX.block_normal) | refine EntL.g1x ?_ | refine EntL.g2x ?_ | refine EntL.g3 ?_ | refine Ent.c1x ?_ | refine Ent.c2x ?_))
              exact EntX.round_end (L1.length + 1, next) ⟨by simp only; omega, by simp only; rw [hAe]; exact hN'⟩ (by simp only; omega) (by repeat (first | exact EnvSub.nil | refine EnvSub.cons rfl ?_)) (mem_trans (shutEntR (E1 := L1) (E2 := L2) (p := p) (a := a) (dv := dv) (by rw [hd]; (repeat (first | exact Fits.rfl | exact Fits.nil | exact Sel.here | apply Sel.there | apply Fits.cons | apply Fits.drop)))) (by exact Fits.keep (by (repeat (first | exact Fits.rfl | exact Fits.nil | exact Sel.here | apply Sel.there | apply Fits.cons | apply Fits.drop)))))
        · have hN' : NX last (A.take L1.length ++ [a]) next := hN.keep (fun _ h => absurd h h1)
          (repeat (first | refine EntL.qx ?_ | (apply Ent.seq) | (apply Ent.region) | (apply EntL.nil) | (apply EntX.then_normal) | refine EntL.ux ?_ | (refine EntL.nn (fun _ _ => ?_)) | (apply Ent.block) | (apply Ent.exit) | (apply Ent.ret) | (apply Ent.skip) | (apply EntX.then_ret) | (apply EntX.block_ret) | (apply EntX.then_exit) | (apply EntX.block_exit; exact rfl) | (apply EntX.block_exit_other; exact rfl) | (apply EntX.block_normal) | refine EntL.g1x ?_ | refine EntL.g2x ?_ | refine EntL.g3 ?_ | refine Ent.c1x ?_ | refine Ent.c2x ?_))
          exact EntX.round_end (L1.length + 1, next) ⟨by simp only; omega, by simp only; rw [hAe]; exact hN'⟩ (by simp only; omega) (by repeat (first | exact EnvSub.nil | refine EnvSub.cons rfl ?_)) (mem_trans (shutEntR (E1 := L1) (E2 := L2) (p := p) (a := a) (dv := dv) (by rw [hd]; (repeat (first | exact Fits.rfl | exact Fits.nil | exact Sel.here | apply Sel.there | apply Fits.cons | apply Fits.drop)))) (by exact Fits.keep (by (repeat (first | exact Fits.rfl | exact Fits.nil | exact Sel.here | apply Sel.there | apply Fits.cons | apply Fits.drop)))))
    · have : i = A.length := by omega
      subst this
      rw [List.take_of_length_le (Nat.le_refl _)] at hN
      (repeat (first | refine EntL.qx ?_ | (apply Ent.seq) | (apply Ent.region) | (apply EntL.nil) | (apply EntX.then_normal) | refine EntL.ux ?_ | (refine EntL.nn (fun _ _ => ?_)) | (apply Ent.block) | (apply Ent.exit) | (apply Ent.ret) | (apply Ent.skip) | (apply EntX.then_ret) | (apply EntX.block_ret) | (apply EntX.then_exit) | (apply EntX.block_exit; exact rfl) | (apply EntX.block_exit_other; exact rfl) | (apply EntX.block_normal) | refine EntL.g1x ?_ | refine EntL.g2x ?_ | refine EntL.g3 ?_ | refine Ent.c1x ?_ | refine Ent.c2x ?_))
      exact EntX.cut_end ⟨next, hN⟩ (by repeat (first | exact EnvSub.nil | refine EnvSub.cons rfl ?_)) (by exact Fits.keep (by (repeat (first | exact Fits.rfl | exact Fits.nil | exact Sel.here | apply Sel.there | apply Fits.cons | apply Fits.drop))))
  · rintro ⟨next, hN⟩
    simp only
    have hdone := NX.done hnA hp hj hN
    by_cases hlt : j < (dirtyOf A).length
    · obtain ⟨hx, h0⟩ := hdone.1 hlt
      (repeat (first | refine EntL.qx ?_ | (apply Ent.seq) | (apply Ent.region) | (apply EntL.nil) | (apply EntX.then_normal) | refine EntL.ux ?_ | (refine EntL.nn (fun _ _ => ?_)) | (apply Ent.block) | (apply Ent.exit) | (apply Ent.ret) | (apply Ent.skip) | (apply EntX.then_ret) | (apply EntX.block_ret) | (apply EntX.then_exit) | (apply EntX.block_exit; exact rfl) | (apply EntX.block_exit_other; exact rfl) | (apply EntX.block_normal) | refine EntL.g1x ?_ | refine EntL.g2x ?_ | refine EntL.g3 ?_ | refine Ent.c1x ?_ | refine Ent.c2x ?_))
      (apply EntL.new; (focus (apply OpTo.append; exact rfl; exact rfl; (first | exact own_sel (by (repeat (first | exact Sel.here | apply Sel.there))) | exact own_none | (apply own_cl; (focus (repeat (first | exact Sel.here | apply Sel.there))); exact rfl)); (first | exact reads_own (by (repeat (first | exact Sel.here | apply Sel.there))) | exact reads_none | (refine reads_blk inferInstance rfl ?_; (focus (first | (simp; done) | omega | (simp; omega))))); exact rfl; exact rfl; (first | exact bv_one _ | (focus (simp [Value.oneCell']; done)) | assumption); (first | (unfold room; omega) | (unfold room; simp; omega)); (first | omega | (simp; omega)))); exact rfl)
      rintro _ ⟨a', c', rfl⟩
      (repeat (first | refine EntL.qx ?_ | (apply Ent.seq) | (apply Ent.region) | (apply EntL.nil) | (apply EntX.then_normal) | refine EntL.ux ?_ | (refine EntL.nn (fun _ _ => ?_)) | (apply Ent.block) | (apply Ent.exit) | (apply Ent.ret) | (apply Ent.skip) | (apply EntX.then_ret) | (apply EntX.block_ret) | (apply EntX.then_exit) | (apply EntX.block_exit; exact rfl) | (apply EntX.block_exit_other; exact rfl) | (apply EntX.block_normal) | refine EntL.g1x ?_ | refine EntL.g2x ?_ | refine EntL.g3 ?_ | refine Ent.c1x ?_ | refine Ent.c2x ?_))
      refine EntX.round_end (j + 1, .slice a' (j + 1) c') (by simp only; omega) (by simp only; omega) ?_ ?_
      · have : lastN (dirtyOf A) (j + 1) = next := by simp [lastN, hlt, hx]
        rw [this]
        exact (by repeat (first | exact EnvSub.nil | refine EnvSub.cons rfl ?_))
      · rw [List.take_succ_eq_append_getElem hlt, ← hx]
        simp only [List.map_append, List.map_cons, List.map_nil]
        exact Fits.keep (by (repeat (first | exact Fits.rfl | exact Fits.nil | exact Sel.here | apply Sel.there | apply Fits.cons | apply Fits.drop)))
    · have hx := hdone.2 hlt
      have : j = (dirtyOf A).length := by omega
      subst this
      rw [List.take_of_length_le (Nat.le_refl _)]
      (repeat (first | refine EntL.qx ?_ | (apply Ent.seq) | (apply Ent.region) | (apply EntL.nil) | (apply EntX.then_normal) | refine EntL.ux ?_ | (refine EntL.nn (fun _ _ => ?_)) | (apply Ent.block) | (apply Ent.exit) | (apply Ent.ret) | (apply Ent.skip) | (apply EntX.then_ret) | (apply EntX.block_ret) | (apply EntX.then_exit) | (apply EntX.block_exit; exact rfl) | (apply EntX.block_exit_other; exact rfl) | (apply EntX.block_normal) | refine EntL.g1x ?_ | refine EntL.g2x ?_ | refine EntL.g3 ?_ | refine Ent.c1x ?_ | refine Ent.c2x ?_))
      refine EntX.ret_of (res1 rfl rfl) (.slice va _ vc) ⟨_, _, rfl⟩ rfl (mem_trans (shutRC' (L := L) (A := A) (by (repeat (first | exact Fits.rfl | exact Fits.nil | exact Sel.here | apply Sel.there | apply Fits.cons | apply Fits.drop))) rfl rfl hA hg) (by exact Fits.keep (by (repeat (first | exact Fits.rfl | exact Fits.nil | exact Sel.here | apply Sel.there | apply Fits.cons | apply Fits.drop)))))

theorem same_ints (v v' : Value) (l : List Int) (hl : l.length ≤ 1000000) : Ctr Try.prog 9 [v, v'] (fun R => own 1 v l.length (ints l) :: own 1 v' l.length (ints l) :: R) (fun _ : Unit => True)
    (fun _ => .bool true) (fun _ R => own 1 v l.length (ints l) :: own 1 v' l.length (ints l) :: R) := by
  refine Ctr.of_ent Try.func9 rfl Try.ntmps9 rfl (fun σ R => ?_)
  refine mmOwnA (v := v) (by (repeat (first | exact Sel.here | apply Sel.there))) (fun a c hv _ _ hp => ?_)
  subst hv
  refine mmOwnA (v := v') (.there .here) (fun a' c' hv _ _ hp' => ?_)
  subst hv
  (repeat (first | refine EntL.qx ?_ | (apply Ent.seq) | (apply Ent.region) | (apply EntL.nil) | (apply EntX.then_normal) | refine EntL.ux ?_ | (refine EntL.nn (fun _ _ => ?_)) | (apply Ent.block) | (apply Ent.exit) | (apply Ent.ret) | (apply Ent.skip) | (apply EntX.then_ret) | (apply EntX.block_ret) | (apply EntX.then_exit) | (apply EntX.block_exit; exact rfl) | (apply EntX.block_exit_other; exact rfl) | (apply EntX.block_normal) | refine EntL.g1x ?_ | refine EntL.g2x ?_ | refine EntL.g3 ?_ | refine Ent.c1x ?_ | refine Ent.c2x ?_))
  refine Ent.loop (α := Nat) (fun i => [(0, .slice a l.length c), (1, .slice a' l.length c'), (5, .int .i64 i)])
    (fun _ => own 1 (.slice a l.length c) l.length (ints l) :: own 1 (.slice a' l.length c') l.length (ints l) :: R) (fun i => i ≤ l.length) (fun i => l.length - i) 0 (Nat.zero_le _) (by repeat (first | exact EnvSub.nil | refine EnvSub.cons rfl ?_)) (fun _ h => h) (fun i hi => ?_)
  by_cases hil : i < l.length
  · obtain ⟨b, rfl⟩ := hp (by omega)
    obtain ⟨b', rfl⟩ := hp' (by omega)
    have hget : (ints l)[i]? = some (.int .i64 l[i]) := by simp [hil]
    (repeat (first | refine EntL.qx ?_ | (apply Ent.seq) | (apply Ent.region) | (apply EntL.nil) | (apply EntX.then_normal) | refine EntL.ux ?_ | (refine EntL.nn (fun _ _ => ?_)) | (apply Ent.block) | (apply Ent.exit) | (apply Ent.ret) | (apply Ent.skip) | (apply EntX.then_ret) | (apply EntX.block_ret) | (apply EntX.then_exit) | (apply EntX.block_exit; exact rfl) | (apply EntX.block_exit_other; exact rfl) | (apply EntX.block_normal) | refine EntL.g1x ?_ | refine EntL.g2x ?_ | refine EntL.g3 ?_ | refine Ent.c1x ?_ | refine Ent.c2x ?_))
    refine Ent.draw 9 [own 1 (.slice (some ⟨b, 0, none⟩) l.length c) l.length (ints l), own 1 (.slice (some ⟨b', 0, none⟩) l.length c') l.length (ints l)] mixed ?_
    ((first | refine EntD.qx 0 ?_ | refine EntD.px 0 ?_); (first | refine EntD.qx 1 ?_ | refine EntD.px 1 ?_); (first | refine EntD.qx 2 ?_ | refine EntD.px 2 ?_); (first | refine EntD.qx 3 ?_ | refine EntD.px 3 ?_); (first | refine EntD.qx 4 ?_ | refine EntD.px 4 ?_); (first | refine EntD.qx 5 ?_ | refine EntD.px 5 ?_); (first | refine EntD.qx 6 ?_ | refine EntD.px 6 ?_); (first | refine EntD.qx 7 ?_ | refine EntD.px 7 ?_); (first | refine EntD.qx 8 ?_ | refine EntD.px 8 ?_))
    (apply EntD.done; decide +kernel)
    (repeat (first | refine EntL.qx ?_ | (apply Ent.seq) | (apply Ent.region) | (apply EntL.nil) | (apply EntX.then_normal) | refine EntL.ux ?_ | (refine EntL.nn (fun _ _ => ?_)) | (apply Ent.block) | (apply Ent.exit) | (apply Ent.ret) | (apply Ent.skip) | (apply EntX.then_ret) | (apply EntX.block_ret) | (apply EntX.then_exit) | (apply EntX.block_exit; exact rfl) | (apply EntX.block_exit_other; exact rfl) | (apply EntX.block_normal) | refine EntL.g1x ?_ | refine EntL.g2x ?_ | refine EntL.g3 ?_ | refine Ent.c1x ?_ | refine Ent.c2x ?_))
    exact EntX.round_end (i + 1) (by omega) (by omega) (by repeat (first | exact EnvSub.nil | refine EnvSub.cons rfl ?_)) (by exact Fits.keep (by (repeat (first | exact Fits.rfl | exact Fits.nil | exact Sel.here | apply Sel.there | apply Fits.cons | apply Fits.drop))))
  · (repeat (first | refine EntL.qx ?_ | (apply Ent.seq) | (apply Ent.region) | (apply EntL.nil) | (apply EntX.then_normal) | refine EntL.ux ?_ | (refine EntL.nn (fun _ _ => ?_)) | (apply Ent.block) | (apply Ent.exit) | (apply Ent.ret) | (apply Ent.skip) | (apply EntX.then_ret) | (apply EntX.block_ret) | (apply EntX.then_exit) | (apply EntX.block_exit; exact rfl) | (apply EntX.block_exit_other; exact rfl) | (apply EntX.block_normal) | refine EntL.g1x ?_ | refine EntL.g2x ?_ | refine EntL.g3 ?_ | refine Ent.c1x ?_ | refine Ent.c2x ?_))
    refine EntX.ret_of (res1 rfl rfl) () trivial rfl (by exact Fits.keep (by (repeat (first | exact Fits.rfl | exact Fits.nil | exact Sel.here | apply Sel.there | apply Fits.cons | apply Fits.drop))))
end Go.Proofs.Ythlbimdlpadhdaa
