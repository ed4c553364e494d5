/- The cache's Held and Dirty. -/
import Derived.Test.YthlbimdlpadhdaaC7
namespace Go.Proofs.Ythlbimdlpadhdaa
open Go Go.Sl

abbrev ints (l : List Int) : List Value := l.map fun n => .int .i64 n
theorem row_at' {L : Row} {i : Nat} (h : i < L.length) : ∃ L1 p a L2, L = L1 ++ (p, a) :: L2 ∧ L1.length = i :=
  ⟨L.take i, _, _, L.drop (i + 1), row_at h, by simp; omega⟩
theorem take_mid {α : Type} (X : List α) (y : α) (Z : List α) : (X ++ y :: Z).take (X.length + 1) = X ++ [y] := by rw [List.take_append, List.take_of_length_le (by omega)]; simp
theorem take_mid0 {α : Type} (X : List α) (Z : List α) : (X ++ Z).take X.length = X := by simp
theorem held_spec (c : Nat) (most : Int) (A : List Ab) (hl : A.length ≤ 1500) : Ctr Try.prog 10 [ptrV c] (fun R => CA c most A :: R) (fun v : Value => IsSl A.length v)
    (fun v => v) (fun v R => own 1 v A.length (ints (numsOf A)) :: CA c most A :: R) := by
  refine Ctr.of_ent Try.func10 rfl Try.ntmps10 rfl (fun σ R => ?_)
  refine Ent.openCA (by (repeat (first | exact Sel.here | apply Sel.there))) (fun L rv mb kv hA hg => ?_)
  have hlen : L.length = A.length := by rw [← hA]; simp
  refine Ent.own_len (by (repeat (first | exact Sel.here | apply Sel.there))) (fun hv _ => ?_)
  obtain ⟨ra, rc, rfl⟩ := hv
  (repeat (first | refine EntL.qq ?_ | (apply Ent.seq) | (apply Ent.region) | (apply EntL.nil) | (apply EntX.then_normal) | refine EntL.uu ?_ | (refine EntL.nn (fun _ _ => ?_)) | (apply Ent.block) | (apply Ent.exit) | (apply Ent.ret) | (apply Ent.skip) | (apply EntX.then_ret) | (apply EntX.block_ret) | (apply EntX.then_exit) | (apply EntX.block_exit; exact rfl) | (apply EntX.block_exit_other; exact rfl) | (apply EntX.block_normal) | refine EntL.g1 ?_ | refine EntL.g2 ?_ | refine EntL.g3 ?_ | refine Ent.c1 ?_ | refine Ent.c2 ?_))
  refine Ent.mem (H' := own 1 (.slice none 0 0) 0 [] :: _) own_none ?_
  refine Ent.loop (α := Nat × Value) (fun x => [(3, x.2), (9, .slice ra (L.map Prod.fst).length rc), (10, .int .i64 (L.map Prod.fst).length), (11, .int .i64 x.1)])
    (fun x => own 1 x.2 x.1 (ints ((numsOf A).take x.1)) :: cl c [.int .i64 most, .slice ra (L.map Prod.fst).length rc, .map (some mb)] :: own 1 (.slice ra (L.map Prod.fst).length rc) (L.map Prod.fst).length ((L.map Prod.fst).map ptrV) :: mpi mb kv :: ents L :: R)
    (fun x => x.1 ≤ A.length) (fun x => A.length - x.1) (0, .slice none 0 0) (Nat.zero_le _) (by repeat (first | exact EnvSub.nil | refine EnvSub.cons rfl ?_)) (fun _ h => h) ?_
  rintro ⟨i, v⟩ hi
  simp only at hi ⊢
  refine Ent.own_len (by (repeat (first | exact Sel.here | apply Sel.there))) (fun hv _ => ?_)
  obtain ⟨va, vc, rfl⟩ := hv
  (repeat (first | refine EntL.qq ?_ | (apply Ent.seq) | (apply Ent.region) | (apply EntL.nil) | (apply EntX.then_normal) | refine EntL.uu ?_ | (refine EntL.nn (fun _ _ => ?_)) | (apply Ent.block) | (apply Ent.exit) | (apply Ent.ret) | (apply Ent.skip) | (apply EntX.then_ret) | (apply EntX.block_ret) | (apply EntX.then_exit) | (apply EntX.block_exit; exact rfl) | (apply EntX.block_exit_other; exact rfl) | (apply EntX.block_normal) | refine EntL.g1 ?_ | refine EntL.g2 ?_ | refine EntL.g3 ?_ | refine Ent.c1 ?_ | refine Ent.c2 ?_))
  (first | (refine Ent.ifD rfl (fun h => ?_) (fun h => ?_) <;> (try (exfalso; omega))) | (refine Ent.ifN rfl (fun h => ?_) (fun h => ?_) <;> (try (exfalso; omega))) | refine Ent.cond rfl (fun h => ?_) (fun h => ?_))
  · have hil : i < L.length := by simp at h; omega
    obtain ⟨L1, p, a, L2, rfl, rfl⟩ := row_at' hil
    (repeat (first | refine EntL.qq ?_ | (apply Ent.seq) | (apply Ent.region) | (apply EntL.nil) | (apply EntX.then_normal) | refine EntL.uu ?_ | (refine EntL.nn (fun _ _ => ?_)) | (apply Ent.block) | (apply Ent.exit) | (apply Ent.ret) | (apply Ent.skip) | (apply EntX.then_ret) | (apply EntX.block_ret) | (apply EntX.then_exit) | (apply EntX.block_exit; exact rfl) | (apply EntX.block_exit_other; exact rfl) | (apply EntX.block_normal) | refine EntL.g1 ?_ | refine EntL.g2 ?_ | refine EntL.g3 ?_ | refine Ent.c1 ?_ | refine Ent.c2 ?_))
    refine EntL.openOwn (k := ((L1 ++ (p, a) :: L2).map Prod.fst).length) (by (repeat (first | exact Sel.here | apply Sel.there))) (by simp; omega) (fun b cap' rest hv hcap h3 h4 => ?_)
    cases hv
    (repeat (first | refine EntL.qq ?_ | (apply Ent.seq) | (apply Ent.region) | (apply EntL.nil) | (apply EntX.then_normal) | refine EntL.uu ?_ | (refine EntL.nn (fun _ _ => ?_)) | (apply Ent.block) | (apply Ent.exit) | (apply Ent.ret) | (apply Ent.skip) | (apply EntX.then_ret) | (apply EntX.block_ret) | (apply EntX.then_exit) | (apply EntX.block_exit; exact rfl) | (apply EntX.block_exit_other; exact rfl) | (apply EntX.block_normal) | refine EntL.g1 ?_ | refine EntL.g2 ?_ | refine EntL.g3 ?_ | refine Ent.c1 ?_ | refine Ent.c2 ?_))
    refine EntL.q (OpQ.load rfl inferInstance (v := ptrV p) (by simp [List.map_append])) rfl ?_
    (repeat (first | refine EntL.qq ?_ | (apply Ent.seq) | (apply Ent.region) | (apply EntL.nil) | (apply EntX.then_normal) | refine EntL.uu ?_ | (refine EntL.nn (fun _ _ => ?_)) | (apply Ent.block) | (apply Ent.exit) | (apply Ent.ret) | (apply Ent.skip) | (apply EntX.then_ret) | (apply EntX.block_ret) | (apply EntX.then_exit) | (apply EntX.block_exit; exact rfl) | (apply EntX.block_exit_other; exact rfl) | (apply EntX.block_normal) | refine EntL.g1 ?_ | refine EntL.g2 ?_ | refine EntL.g3 ?_ | refine Ent.c1 ?_ | refine Ent.c2 ?_))
    refine EntL.mem (shut_own (sz := 1) (k := ((L1 ++ (p, a) :: L2).map Prod.fst).length) (cap := rc) (T := own 1 (.slice va L1.length vc) L1.length (ints ((numsOf A).take L1.length)) :: cl c [.int .i64 most, .slice (some ⟨b, 0, none⟩) ((L1 ++ (p, a) :: L2).map Prod.fst).length rc, .map (some mb)] :: mpi mb kv :: ents (L1 ++ (p, a) :: L2) :: R) (by (repeat (first | exact Fits.rfl | exact Fits.nil | exact Sel.here | apply Sel.there | apply Fits.cons | apply Fits.drop))) hcap h3 h4) ?_
    refine EntL.memEx (St.openEnt (E1 := L1) (E2 := L2) (p := p) (a := a) (by (repeat (first | exact Sel.here | apply Sel.there)))) (fun dv _ => ?_)
    (repeat (first | refine EntL.qq ?_ | (apply Ent.seq) | (apply Ent.region) | (apply EntL.nil) | (apply EntX.then_normal) | refine EntL.uu ?_ | (refine EntL.nn (fun _ _ => ?_)) | (apply Ent.block) | (apply Ent.exit) | (apply Ent.ret) | (apply Ent.skip) | (apply EntX.then_ret) | (apply EntX.block_ret) | (apply EntX.then_exit) | (apply EntX.block_exit; exact rfl) | (apply EntX.block_exit_other; exact rfl) | (apply EntX.block_normal) | refine EntL.g1 ?_ | refine EntL.g2 ?_ | refine EntL.g3 ?_ | refine Ent.c1 ?_ | refine Ent.c2 ?_))
    (apply EntL.new; (focus (apply OpTo.append; exact rfl; exact rfl; (first | exact own_sel (by (repeat (first | exact Sel.here | apply Sel.there))) | exact own_none | (apply own_cl; (focus (repeat (first | exact Sel.here | apply Sel.there))); exact rfl)); (first | exact reads_own (by (repeat (first | exact Sel.here | apply Sel.there))) | exact reads_none | (refine reads_blk inferInstance rfl ?_; (focus (first | (simp; done) | omega | (simp; omega))))); exact rfl; exact rfl; (first | exact bv_one _ | (focus (simp [Value.oneCell']; done)) | assumption); (first | (unfold room; omega) | (unfold room; simp; omega)); (first | omega | (simp; omega)))); exact rfl)
    rintro _ ⟨a', c', rfl⟩
    (repeat (first | refine EntL.qq ?_ | (apply Ent.seq) | (apply Ent.region) | (apply EntL.nil) | (apply EntX.then_normal) | refine EntL.uu ?_ | (refine EntL.nn (fun _ _ => ?_)) | (apply Ent.block) | (apply Ent.exit) | (apply Ent.ret) | (apply Ent.skip) | (apply EntX.then_ret) | (apply EntX.block_ret) | (apply EntX.then_exit) | (apply EntX.block_exit; exact rfl) | (apply EntX.block_exit_other; exact rfl) | (apply EntX.block_normal) | refine EntL.g1 ?_ | refine EntL.g2 ?_ | refine EntL.g3 ?_ | refine Ent.c1 ?_ | refine Ent.c2 ?_))
    refine EntX.round_end (L1.length + 1, _) (by simp only; omega) (by simp only; omega) (by repeat (first | exact EnvSub.nil | refine EnvSub.cons rfl ?_)) ?_
    refine mem_trans (shutEnt (E1 := L1) (E2 := L2) (p := p) (a := a) (dv := dv) (R := own 1 (.slice a' (L1.length + 1) c') (L1.length + 1) (ints ((numsOf A).take (L1.length + 1))) :: cl c [.int .i64 most, .slice (some ⟨b, 0, none⟩) ((L1 ++ (p, a) :: L2).map Prod.fst).length rc, .map (some mb)] :: own 1 (.slice (some ⟨b, 0, none⟩) ((L1 ++ (p, a) :: L2).map Prod.fst).length rc) ((L1 ++ (p, a) :: L2).map Prod.fst).length (((L1 ++ (p, a) :: L2).map Prod.fst).map ptrV) :: mpi mb kv :: R) ?_) (by exact Fits.keep (by (repeat (first | exact Fits.rfl | exact Fits.nil | exact Sel.here | apply Sel.there | apply Fits.cons | apply Fits.drop))))
    have ht : ints ((numsOf A).take (L1.length + 1)) = ints ((numsOf A).take L1.length) ++ [.int .i64 a.n] := by
      have e1 : numsOf A = numsOf (L1.map Prod.snd) ++ a.n :: numsOf (L2.map Prod.snd) := by rw [← hA]; simp [numsOf]
      have e2 : L1.length = (numsOf (L1.map Prod.snd)).length := by simp [numsOf]
      rw [e1, e2, take_mid, take_mid0]; simp [ints]
    rw [ht]
    (repeat (first | exact Fits.rfl | exact Fits.nil | exact Sel.here | apply Sel.there | apply Fits.cons | apply Fits.drop))
  · have hi' : i = A.length := by rw [← hlen] at hi ⊢; simp at h; omega
    subst hi'
    (repeat (first | refine EntL.qq ?_ | (apply Ent.seq) | (apply Ent.region) | (apply EntL.nil) | (apply EntX.then_normal) | refine EntL.uu ?_ | (refine EntL.nn (fun _ _ => ?_)) | (apply Ent.block) | (apply Ent.exit) | (apply Ent.ret) | (apply Ent.skip) | (apply EntX.then_ret) | (apply EntX.block_ret) | (apply EntX.then_exit) | (apply EntX.block_exit; exact rfl) | (apply EntX.block_exit_other; exact rfl) | (apply EntX.block_normal) | refine EntL.g1 ?_ | refine EntL.g2 ?_ | refine EntL.g3 ?_ | refine Ent.c1 ?_ | refine Ent.c2 ?_))
    refine EntX.ret_of (res1 rfl rfl) _ ⟨_, _, rfl⟩ rfl ?_
    have ht : ((numsOf A).take A.length) = numsOf A := List.take_of_length_le (by simp [numsOf])
    rw [ht]
    exact mem_trans (shutCA (L := L) (R := own 1 (.slice va A.length vc) A.length (ints (numsOf A)) :: R) hA hg (by (repeat (first | exact Fits.rfl | exact Fits.nil | exact Sel.here | apply Sel.there | apply Fits.cons | apply Fits.drop)))) (by exact Fits.keep (by (repeat (first | exact Fits.rfl | exact Fits.nil | exact Sel.here | apply Sel.there | apply Fits.cons | apply Fits.drop))))

/-- slices.Sort sorts a slice of integers that the call owns -/
def SortInts (f : Nat) : Prop := ∀ (v : Value) (zs : List Int), zs.length ≤ 1000000 →
  Ctr Try.prog f [v] (fun R => own 1 v zs.length (ints zs) :: R) (fun _ : Unit => True) (fun _ => .tuple #[]) (fun _ R => own 1 v zs.length (ints (zs.mergeSort fun x y => decide (x ≤ y))) :: R)
def dirtyRow (A : List Ab) : List Int := numsOf (A.filter (·.dirty))
def dirtyOf (A : List Ab) : List Int := (dirtyRow A).mergeSort fun x y => decide (x ≤ y)
theorem dirtyRow_le (A : List Ab) : (dirtyRow A).length ≤ A.length := by simp only [dirtyRow, numsOf, List.length_map]; exact List.length_filter_le _ _
theorem dirtyRow_append (A B : List Ab) : dirtyRow (A ++ B) = dirtyRow A ++ dirtyRow B := by simp [dirtyRow, numsOf]
theorem dirtyRow_take (A : List Ab) (i : Nat) : (dirtyRow (A.take i)).length ≤ i := Nat.le_trans (dirtyRow_le _) (by simp; omega)
theorem dirty_spec (hsort : SortInts 31) (c : Nat) (most : Int) (A : List Ab) (hl : A.length ≤ 1500) : Ctr Try.prog 12 [ptrV c] (fun R => CA c most A :: R) (fun v : Value => IsSl (dirtyOf A).length v)
    (fun v => v) (fun v R => own 1 v (dirtyOf A).length (ints (dirtyOf A)) :: CA c most A :: R) := by
  refine Ctr.of_ent Try.func12 rfl Try.ntmps12 rfl (fun σ R => ?_)
  refine Ent.openCA (by (repeat (first | exact Sel.here | apply Sel.there))) (fun L rv mb kv hA hg => ?_)
  have hlen : L.length = A.length := by rw [← hA]; simp
  refine Ent.own_len (by (repeat (first | exact Sel.here | apply Sel.there))) (fun hv _ => ?_)
  obtain ⟨ra, rc, rfl⟩ := hv
  (repeat (first | refine EntL.qq ?_ | (apply Ent.seq) | (apply Ent.region) | (apply EntL.nil) | (apply EntX.then_normal) | refine EntL.uu ?_ | (refine EntL.nn (fun _ _ => ?_)) | (apply Ent.block) | (apply Ent.exit) | (apply Ent.ret) | (apply Ent.skip) | (apply EntX.then_ret) | (apply EntX.block_ret) | (apply EntX.then_exit) | (apply EntX.block_exit; exact rfl) | (apply EntX.block_exit_other; exact rfl) | (apply EntX.block_normal) | refine EntL.g1 ?_ | refine EntL.g2 ?_ | refine EntL.g3 ?_ | refine Ent.c1 ?_ | refine Ent.c2 ?_))
  refine Ent.mem (H' := own 1 (.slice none 0 0) 0 [] :: _) own_none ?_
  refine Ent.loop (α := Nat × Value) (fun x => [(3, x.2), (9, .slice ra (L.map Prod.fst).length rc), (10, .int .i64 (L.map Prod.fst).length), (11, .int .i64 x.1)])
    (fun x => own 1 x.2 (dirtyRow (A.take x.1)).length (ints (dirtyRow (A.take x.1))) :: cl c [.int .i64 most, .slice ra (L.map Prod.fst).length rc, .map (some mb)] :: own 1 (.slice ra (L.map Prod.fst).length rc) (L.map Prod.fst).length ((L.map Prod.fst).map ptrV) :: mpi mb kv :: ents L :: R)
    (fun x => x.1 ≤ A.length) (fun x => A.length - x.1) (0, .slice none 0 0) (Nat.zero_le _) (by repeat (first | exact EnvSub.nil | refine EnvSub.cons rfl ?_)) (fun _ h => h) ?_
  rintro ⟨i, v⟩ hi
  simp only at hi ⊢
  refine Ent.own_len (k := (dirtyRow (A.take i)).length) (by (repeat (first | exact Sel.here | apply Sel.there))) (fun hv _ => ?_)
  obtain ⟨va, vc, rfl⟩ := hv
  have hdl := dirtyRow_take A i
  (repeat (first | refine EntL.qq ?_ | (apply Ent.seq) | (apply Ent.region) | (apply EntL.nil) | (apply EntX.then_normal) | refine EntL.uu ?_ | (refine EntL.nn (fun _ _ => ?_)) | (apply Ent.block) | (apply Ent.exit) | (apply Ent.ret) | (apply Ent.skip) | (apply EntX.then_ret) | (apply EntX.block_ret) | (apply EntX.then_exit) | (apply EntX.block_exit; exact rfl) | (apply EntX.block_exit_other; exact rfl) | (apply EntX.block_normal) | refine EntL.g1 ?_ | refine EntL.g2 ?_ | refine EntL.g3 ?_ | refine Ent.c1 ?_ | refine Ent.c2 ?_))
  (first | (refine Ent.ifD rfl (fun h => ?_) (fun h => ?_) <;> (try (exfalso; omega))) | (refine Ent.ifN rfl (fun h => ?_) (fun h => ?_) <;> (try (exfalso; omega))) | refine Ent.cond rfl (fun h => ?_) (fun h => ?_))
  · have hil : i < L.length := by simp at h; omega
    obtain ⟨L1, p, a, L2, rfl, rfl⟩ := row_at' hil
    have hAe : A.take (L1.length + 1) = A.take L1.length ++ [a] := by
      have e1 : A = L1.map Prod.snd ++ a :: L2.map Prod.snd := by rw [← hA]; simp
      have e2 : L1.length = (L1.map Prod.snd).length := by simp
      rw [e1, e2, take_mid, take_mid0]
    have hd1 : dirtyRow (A.take (L1.length + 1)) = dirtyRow (A.take L1.length) ++ (if a.dirty then [a.n] else []) := by
      rw [hAe, dirtyRow_append]
      cases hdy : a.dirty <;> simp [dirtyRow, numsOf, hdy]
    (repeat (first | refine EntL.qq ?_ | (apply Ent.seq) | (apply Ent.region) | (apply EntL.nil) | (apply EntX.then_normal) | refine EntL.uu ?_ | (refine EntL.nn (fun _ _ => ?_)) | (apply Ent.block) | (apply Ent.exit) | (apply Ent.ret) | (apply Ent.skip) | (apply EntX.then_ret) | (apply EntX.block_ret) | (apply EntX.then_exit) | (apply EntX.block_exit; exact rfl) | (apply EntX.block_exit_other; exact rfl) | (apply EntX.block_normal) | refine EntL.g1 ?_ | refine EntL.g2 ?_ | refine EntL.g3 ?_ | refine Ent.c1 ?_ | refine Ent.c2 ?_))
    refine EntL.openOwn (k := ((L1 ++ (p, a) :: L2).map Prod.fst).length) (by (repeat (first | exact Sel.here | apply Sel.there))) (by simp; omega) (fun b cap' rest hv hcap h3 h4 => ?_)
    cases hv
    (repeat (first | refine EntL.qq ?_ | (apply Ent.seq) | (apply Ent.region) | (apply EntL.nil) | (apply EntX.then_normal) | refine EntL.uu ?_ | (refine EntL.nn (fun _ _ => ?_)) | (apply Ent.block) | (apply Ent.exit) | (apply Ent.ret) | (apply Ent.skip) | (apply EntX.then_ret) | (apply EntX.block_ret) | (apply EntX.then_exit) | (apply EntX.block_exit; exact rfl) | (apply EntX.block_exit_other; exact rfl) | (apply EntX.block_normal) | refine EntL.g1 ?_ | refine EntL.g2 ?_ | refine EntL.g3 ?_ | refine Ent.c1 ?_ | refine Ent.c2 ?_))
    refine EntL.q (OpQ.load rfl inferInstance (v := ptrV p) (by simp [List.map_append])) rfl ?_
    (repeat (first | refine EntL.qq ?_ | (apply Ent.seq) | (apply Ent.region) | (apply EntL.nil) | (apply EntX.then_normal) | refine EntL.uu ?_ | (refine EntL.nn (fun _ _ => ?_)) | (apply Ent.block) | (apply Ent.exit) | (apply Ent.ret) | (apply Ent.skip) | (apply EntX.then_ret) | (apply EntX.block_ret) | (apply EntX.then_exit) | (apply EntX.block_exit; exact rfl) | (apply EntX.block_exit_other; exact rfl) | (apply EntX.block_normal) | refine EntL.g1 ?_ | refine EntL.g2 ?_ | refine EntL.g3 ?_ | refine Ent.c1 ?_ | refine Ent.c2 ?_))
    refine EntL.mem (shut_own (sz := 1) (k := ((L1 ++ (p, a) :: L2).map Prod.fst).length) (cap := rc) (T := own 1 (.slice va (dirtyRow (A.take L1.length)).length vc) (dirtyRow (A.take L1.length)).length (ints (dirtyRow (A.take L1.length))) :: cl c [.int .i64 most, .slice (some ⟨b, 0, none⟩) ((L1 ++ (p, a) :: L2).map Prod.fst).length rc, .map (some mb)] :: mpi mb kv :: ents (L1 ++ (p, a) :: L2) :: R) (by (repeat (first | exact Fits.rfl | exact Fits.nil | exact Sel.here | apply Sel.there | apply Fits.cons | apply Fits.drop))) hcap h3 h4) ?_
    refine EntL.memEx (St.openEnt (E1 := L1) (E2 := L2) (p := p) (a := a) (by (repeat (first | exact Sel.here | apply Sel.there)))) (fun dv _ => ?_)
    cases hdy : a.dirty
    · (repeat (first | refine EntL.qq ?_ | (apply Ent.seq) | (apply Ent.region) | (apply EntL.nil) | (apply EntX.then_normal) | refine EntL.uu ?_ | (refine EntL.nn (fun _ _ => ?_)) | (apply Ent.block) | (apply Ent.exit) | (apply Ent.ret) | (apply Ent.skip) | (apply EntX.then_ret) | (apply EntX.block_ret) | (apply EntX.then_exit) | (apply EntX.block_exit; exact rfl) | (apply EntX.block_exit_other; exact rfl) | (apply EntX.block_normal) | refine EntL.g1 ?_ | refine EntL.g2 ?_ | refine EntL.g3 ?_ | refine Ent.c1 ?_ | refine Ent.c2 ?_))
      refine EntX.round_end (L1.length + 1, _) (by simp only; omega) (by simp only; omega) (by repeat (first | exact EnvSub.nil | refine EnvSub.cons rfl ?_)) ?_
      refine mem_trans (shutEnt (E1 := L1) (E2 := L2) (p := p) (a := a) (dv := dv) (R := own 1 (.slice va (dirtyRow (A.take L1.length)).length vc) (dirtyRow (A.take L1.length)).length (ints (dirtyRow (A.take L1.length))) :: cl c [.int .i64 most, .slice (some ⟨b, 0, none⟩) ((L1 ++ (p, a) :: L2).map Prod.fst).length rc, .map (some mb)] :: own 1 (.slice (some ⟨b, 0, none⟩) ((L1 ++ (p, a) :: L2).map Prod.fst).length rc) ((L1 ++ (p, a) :: L2).map Prod.fst).length (((L1 ++ (p, a) :: L2).map Prod.fst).map ptrV) :: mpi mb kv :: R) (by rw [hdy]; (repeat (first | exact Fits.rfl | exact Fits.nil | exact Sel.here | apply Sel.there | apply Fits.cons | apply Fits.drop)))) ?_
      rw [show dirtyRow (A.take (L1.length + 1)) = dirtyRow (A.take L1.length) by rw [hd1, hdy]; simp]
      exact Fits.keep (by (repeat (first | exact Fits.rfl | exact Fits.nil | exact Sel.here | apply Sel.there | apply Fits.cons | apply Fits.drop)))
    · (repeat (first | refine EntL.qq ?_ | (apply Ent.seq) | (apply Ent.region) | (apply EntL.nil) | (apply EntX.then_normal) | refine EntL.uu ?_ | (refine EntL.nn (fun _ _ => ?_)) | (apply Ent.block) | (apply Ent.exit) | (apply Ent.ret) | (apply Ent.skip) | (apply EntX.then_ret) | (apply EntX.block_ret) | (apply EntX.then_exit) | (apply EntX.block_exit; exact rfl) | (apply EntX.block_exit_other; exact rfl) | (apply EntX.block_normal) | refine EntL.g1 ?_ | refine EntL.g2 ?_ | refine EntL.g3 ?_ | refine Ent.c1 ?_ | refine Ent.c2 ?_))
      (apply EntL.new; (focus (apply OpTo.append; exact rfl; exact rfl; (first | exact own_sel (by (repeat (first | exact Sel.here | apply Sel.there))) | exact own_none | (apply own_cl; (focus (repeat (first | exact Sel.here | apply Sel.there))); exact rfl)); (first | exact reads_own (by (repeat (first | exact Sel.here | apply Sel.there))) | exact reads_none | (refine reads_blk inferInstance rfl ?_; (focus (first | (simp; done) | omega | (simp; omega))))); exact rfl; exact rfl; (first | exact bv_one _ | (focus (simp [Value.oneCell']; done)) | assumption); (first | (unfold room; omega) | (unfold room; simp; omega)); (first | omega | (simp; omega)))); exact rfl)
      rintro _ ⟨a', c', rfl⟩
      (repeat (first | refine EntL.qq ?_ | (apply Ent.seq) | (apply Ent.region) | (apply EntL.nil) | (apply EntX.then_normal) | refine EntL.uu ?_ | (refine EntL.nn (fun _ _ => ?_)) | (apply Ent.block) | (apply Ent.exit) | (apply Ent.ret) | (apply Ent.skip) | (apply EntX.then_ret) | (apply EntX.block_ret) | (apply EntX.then_exit) | (apply EntX.block_exit; exact rfl) | (apply EntX.block_exit_other; exact rfl) | (apply EntX.block_normal) | refine EntL.g1 ?_ | refine EntL.g2 ?_ | refine EntL.g3 ?_ | refine Ent.c1 ?_ | refine Ent.c2 ?_))
      refine EntX.round_end (L1.length + 1, _) (by simp only; omega) (by simp only; omega) (by repeat (first | exact EnvSub.nil | refine EnvSub.cons rfl ?_)) ?_
      refine mem_trans (shutEnt (E1 := L1) (E2 := L2) (p := p) (a := a) (dv := dv) (R := own 1 (.slice a' ((dirtyRow (A.take L1.length)).length + 1) c') ((dirtyRow (A.take L1.length)).length + 1) (ints (dirtyRow (A.take L1.length)) ++ [.int .i64 a.n]) :: cl c [.int .i64 most, .slice (some ⟨b, 0, none⟩) ((L1 ++ (p, a) :: L2).map Prod.fst).length rc, .map (some mb)] :: own 1 (.slice (some ⟨b, 0, none⟩) ((L1 ++ (p, a) :: L2).map Prod.fst).length rc) ((L1 ++ (p, a) :: L2).map Prod.fst).length (((L1 ++ (p, a) :: L2).map Prod.fst).map ptrV) :: mpi mb kv :: R) (by rw [hdy]; (repeat (first | exact Fits.rfl | exact Fits.nil | exact Sel.here | apply Sel.there | apply Fits.cons | apply Fits.drop)))) ?_
      rw [show dirtyRow (A.take (L1.length + 1)) = dirtyRow (A.take L1.length) ++ [a.n] by rw [hd1, hdy]; simp]
      simp only [List.length_append, List.length_cons, List.length_nil, List.map_append, List.map_cons, List.map_nil, Nat.zero_add]
      exact Fits.keep (by (repeat (first | exact Fits.rfl | exact Fits.nil | exact Sel.here | apply Sel.there | apply Fits.cons | apply Fits.drop)))
  · have hi' : i = A.length := by rw [← hlen] at hi ⊢; simp at h; omega
    subst hi'
    have ht : A.take A.length = A := List.take_of_length_le (Nat.le_refl _)
    rw [ht] at hdl ⊢
    have hle : (dirtyOf A).length = (dirtyRow A).length := List.length_mergeSort _
    (repeat (first | refine EntL.qq ?_ | (apply Ent.seq) | (apply Ent.region) | (apply EntL.nil) | (apply EntX.then_normal) | refine EntL.uu ?_ | (refine EntL.nn (fun _ _ => ?_)) | (apply Ent.block) | (apply Ent.exit) | (apply Ent.ret) | (apply Ent.skip) | (apply EntX.then_ret) | (apply EntX.block_ret) | (apply EntX.then_exit) | (apply EntX.block_exit; exact rfl) | (apply EntX.block_exit_other; exact rfl) | (apply EntX.block_normal) | refine EntL.g1 ?_ | refine EntL.g2 ?_ | refine EntL.g3 ?_ | refine Ent.c1 ?_ | refine Ent.c2 ?_))
    refine EntL.call (hsort (.slice va (dirtyRow A).length vc) (dirtyRow A) (by omega)) rfl (by (repeat (first | exact Fits.rfl | exact Fits.nil | exact Sel.here | apply Sel.there | apply Fits.cons | apply Fits.drop))) rfl ?_
    rintro _ -
    (repeat (first | refine EntL.qq ?_ | (apply Ent.seq) | (apply Ent.region) | (apply EntL.nil) | (apply EntX.then_normal) | refine EntL.uu ?_ | (refine EntL.nn (fun _ _ => ?_)) | (apply Ent.block) | (apply Ent.exit) | (apply Ent.ret) | (apply Ent.skip) | (apply EntX.then_ret) | (apply EntX.block_ret) | (apply EntX.then_exit) | (apply EntX.block_exit; exact rfl) | (apply EntX.block_exit_other; exact rfl) | (apply EntX.block_normal) | refine EntL.g1 ?_ | refine EntL.g2 ?_ | refine EntL.g3 ?_ | refine Ent.c1 ?_ | refine Ent.c2 ?_))
    refine EntX.ret_of (res1 rfl rfl) (.slice va (dirtyRow A).length vc) ⟨va, vc, by rw [hle]⟩ rfl ?_
    rw [hle]
    exact mem_trans (shutCA (L := L) (R := own 1 (.slice va (dirtyRow A).length vc) (dirtyRow A).length (ints (dirtyOf A)) :: R) hA hg (by (repeat (first | exact Fits.rfl | exact Fits.nil | exact Sel.here | apply Sel.there | apply Fits.cons | apply Fits.drop)))) (by exact Fits.keep (by (repeat (first | exact Fits.rfl | exact Fits.nil | exact Sel.here | apply Sel.there | apply Fits.cons | apply Fits.drop))))
end Go.Proofs.Ythlbimdlpadhdaa
