/- The cache's lay, Fill, Put. -/
import Derived.Test.YthlbimdlpadhdaaC5
namespace Go.Proofs.Ythlbimdlpadhdaa
open Go Go.Sl

theorem roomA_le {most : Int} {A A' : List Ab} (h : roomA most A = some A') : A'.length ≤ A.length := by
  unfold roomA at h
  split at h
  · cases h; exact Nat.le_refl _
  · split at h
    · cases h; rw [List.length_eraseIdx]; split <;> omega
    · cases h
theorem roomA_mem {most : Int} {A A' : List Ab} (h : roomA most A = some A') : ∀ a ∈ A', a ∈ A := by
  unfold roomA at h
  split at h
  · cases h; exact fun _ h => h
  · split at h
    · cases h; exact fun a ha => (List.eraseIdx_sublist _ _).subset ha
    · cases h
theorem ents_fresh {σ : Sig} {L : Row} {H R R' : List HP} {w : World} {q : Nat} {cs : List Value} (s : Sel (cl q cs) H R) (s' : Sel (ents L) R R') (st : St σ H w) : q ∉ L.map Prod.fst := fun hq => by
  obtain ⟨L1, a, L2, rfl⟩ := row_split hq
  obtain ⟨dv, _, st⟩ := St.openEnt (E1 := L1) (E2 := L2) (p := q) (a := a) (Sel.there s') w (st.front s)
  exact St.ne_cl Sel.here (Sel.there (Sel.there Sel.here)) st rfl
theorem keep_out {l : List Nat} {q : Nat} (h : q ∉ l) : keepIx (fun x => decide (x = q)) l = l :=
  List.filter_eq_self.2 fun x hx => by simp only [Bool.not_eq_true', decide_eq_false_iff_not]; exact fun e => h (e ▸ hx)
theorem lay_spec (c : Nat) (most b : Int) (A : List Ab) (v : Value) (d : List UInt8) (hl : A.length ≤ 1500) (hd : d.length ≤ 1000000) : Ctr Try.prog 33 [ptrV c, .int .i64 b, v] (fun R => CA c most A :: own 1 v d.length (bv d) :: R) (fun _ : Unit => True)
    (fun _ => .int .i64 (layA most b d A).1) (fun _ R => CA c most (layA most b d A).2 :: own 1 v d.length (bv d) :: R) := by
  refine Ctr.of_ent Try.func33 rfl Try.ntmps33 rfl (fun σ R => ?_)
  rcases hit_or b A with hm | ⟨A1, a, A2, rfl, hab, hA1⟩
  · refine Ent.openCA (by (repeat (first | exact Sel.here | apply Sel.there))) (fun L rv mb kv hA hg => ?_)
    have hk := hg.no b (fun e he => hm e.2 (hA ▸ List.mem_map_of_mem he))
    (repeat (first | refine EntL.qq ?_ | (apply Ent.seq) | (apply Ent.region) | (apply EntL.nil) | (apply EntX.then_normal) | refine EntL.uu ?_ | (refine EntL.nn (fun _ _ => ?_)) | (apply Ent.block) | (apply Ent.exit) | (apply Ent.ret) | (apply Ent.skip) | (apply EntX.then_ret) | (apply EntX.block_ret) | (apply EntX.then_exit) | (apply EntX.block_exit; exact rfl) | (apply EntX.block_exit_other; exact rfl) | (apply EntX.block_normal) | refine EntL.g1 ?_ | refine EntL.g2 ?_ | refine EntL.g3 ?_ | refine Ent.c1 ?_ | refine Ent.c2 ?_))
    rw [hk]
    (repeat (first | refine EntL.qq ?_ | (apply Ent.seq) | (apply Ent.region) | (apply EntL.nil) | (apply EntX.then_normal) | refine EntL.uu ?_ | (refine EntL.nn (fun _ _ => ?_)) | (apply Ent.block) | (apply Ent.exit) | (apply Ent.ret) | (apply Ent.skip) | (apply EntX.then_ret) | (apply EntX.block_ret) | (apply EntX.then_exit) | (apply EntX.block_exit; exact rfl) | (apply EntX.block_exit_other; exact rfl) | (apply EntX.block_normal) | refine EntL.g1 ?_ | refine EntL.g2 ?_ | refine EntL.g3 ?_ | refine Ent.c1 ?_ | refine Ent.c2 ?_))
    refine EntL.mem (shutCA hA hg (R := own 1 v d.length (bv d) :: R) (by (repeat (first | exact Fits.rfl | exact Fits.nil | exact Sel.here | apply Sel.there | apply Fits.cons | apply Fits.drop)))) ?_
    refine EntL.call (room_spec c most A hl) rfl (by (repeat (first | exact Fits.rfl | exact Fits.nil | exact Sel.here | apply Sel.there | apply Fits.cons | apply Fits.drop))) rfl ?_
    rintro _ -
    cases hr : roomA most A with
    | none =>
      have hb : (decide ((7 : Int) ≠ 0)) = true := by decide
      (repeat (first | refine EntL.qq ?_ | (apply Ent.seq) | (apply Ent.region) | (apply EntL.nil) | (apply EntX.then_normal) | refine EntL.uu ?_ | (refine EntL.nn (fun _ _ => ?_)) | (apply Ent.block) | (apply Ent.exit) | (apply Ent.ret) | (apply Ent.skip) | (apply EntX.then_ret) | (apply EntX.block_ret) | (apply EntX.then_exit) | (apply EntX.block_exit; exact rfl) | (apply EntX.block_exit_other; exact rfl) | (apply EntX.block_normal) | refine EntL.g1 ?_ | refine EntL.g2 ?_ | refine EntL.g3 ?_ | refine Ent.c1 ?_ | refine Ent.c2 ?_))
      refine EntX.ret_of (res1 rfl rfl) () trivial (by simp [layA, atN_miss hm, hr]) (by simp only [layA, atN_miss hm, hr]; exact Fits.keep (by (repeat (first | exact Fits.rfl | exact Fits.nil | exact Sel.here | apply Sel.there | apply Fits.cons | apply Fits.drop))))
    | some A' =>
      have hb : (decide ((0 : Int) ≠ 0)) = false := by decide
      have hle := roomA_le hr
      (repeat (first | refine EntL.qq ?_ | (apply Ent.seq) | (apply Ent.region) | (apply EntL.nil) | (apply EntX.then_normal) | refine EntL.uu ?_ | (refine EntL.nn (fun _ _ => ?_)) | (apply Ent.block) | (apply Ent.exit) | (apply Ent.ret) | (apply Ent.skip) | (apply EntX.then_ret) | (apply EntX.block_ret) | (apply EntX.then_exit) | (apply EntX.block_exit; exact rfl) | (apply EntX.block_exit_other; exact rfl) | (apply EntX.block_normal) | refine EntL.g1 ?_ | refine EntL.g2 ?_ | refine EntL.g3 ?_ | refine Ent.c1 ?_ | refine Ent.c2 ?_))
      refine EntL.openCA (by (repeat (first | exact Sel.here | apply Sel.there))) (fun L' rv' mb' kv' hA0 hg' => ?_)
      have hA' : L'.map Prod.snd = A' := hA0
      have hno : ∀ e ∈ L', e.2.n ≠ b := fun e he => hm e.2 (roomA_mem hr _ (hA' ▸ List.mem_map_of_mem he))
      (repeat (first | refine EntL.qq ?_ | (apply Ent.seq) | (apply Ent.region) | (apply EntL.nil) | (apply EntX.then_normal) | refine EntL.uu ?_ | (refine EntL.nn (fun _ _ => ?_)) | (apply Ent.block) | (apply Ent.exit) | (apply Ent.ret) | (apply Ent.skip) | (apply EntX.then_ret) | (apply EntX.block_ret) | (apply EntX.then_exit) | (apply EntX.block_exit; exact rfl) | (apply EntX.block_exit_other; exact rfl) | (apply EntX.block_normal) | refine EntL.g1 ?_ | refine EntL.g2 ?_ | refine EntL.g3 ?_ | refine Ent.c1 ?_ | refine Ent.c2 ?_))
      rename_i q _
      refine EntL.call (clone_spec v d hd) rfl (by (repeat (first | exact Fits.rfl | exact Fits.nil | exact Sel.here | apply Sel.there | apply Fits.cons | apply Fits.drop))) rfl ?_
      rintro _ ⟨va, vc, rfl⟩
      (repeat (first | refine EntL.qq ?_ | (apply Ent.seq) | (apply Ent.region) | (apply EntL.nil) | (apply EntX.then_normal) | refine EntL.uu ?_ | (refine EntL.nn (fun _ _ => ?_)) | (apply Ent.block) | (apply Ent.exit) | (apply Ent.ret) | (apply Ent.skip) | (apply EntX.then_ret) | (apply EntX.block_ret) | (apply EntX.then_exit) | (apply EntX.block_exit; exact rfl) | (apply EntX.block_exit_other; exact rfl) | (apply EntX.block_normal) | refine EntL.g1 ?_ | refine EntL.g2 ?_ | refine EntL.g3 ?_ | refine Ent.c1 ?_ | refine Ent.c2 ?_))
      refine EntL.fact (fun w st => ents_fresh (q := q) (L := L') (by (repeat (first | exact Sel.here | apply Sel.there))) (by (repeat (first | exact Sel.here | apply Sel.there))) st) (fun hf => ?_)
      refine EntL.mem (shutEnt (E1 := L') (E2 := []) (p := q) (a := ⟨b, d, false, 0⟩) (dv := .slice va d.length vc)
        (R := cl c [.int .i64 most, rv', .map (some mb')] :: own 1 rv' (L'.map Prod.fst).length ((L'.map Prod.fst).map ptrV) :: mpi mb' (kvSet kv' b (ptrV q)) :: own 1 v d.length (bv d) :: R) (by simp only [List.append_nil]; (repeat (first | exact Fits.rfl | exact Fits.nil | exact Sel.here | apply Sel.there | apply Fits.cons | apply Fits.drop)))) ?_
      refine EntL.call (use_spec c q (.int .i64 most) rv' (.map (some mb')) (L'.map Prod.fst) (L' ++ [(q, ⟨b, d, false, 0⟩)]) (by rw [List.length_map, ← List.length_map (f := Prod.snd), hA']; omega) (fun q hq => by simp at hq ⊢; exact .inl hq) (by simp)) rfl (by (repeat (first | exact Fits.rfl | exact Fits.nil | exact Sel.here | apply Sel.there | apply Fits.cons | apply Fits.drop))) rfl ?_
      rintro _ ⟨va', vc', rfl⟩
      rw [keep_out hf]
      (repeat (first | refine EntL.qq ?_ | (apply Ent.seq) | (apply Ent.region) | (apply EntL.nil) | (apply EntX.then_normal) | refine EntL.uu ?_ | (refine EntL.nn (fun _ _ => ?_)) | (apply Ent.block) | (apply Ent.exit) | (apply Ent.ret) | (apply Ent.skip) | (apply EntX.then_ret) | (apply EntX.block_ret) | (apply EntX.then_exit) | (apply EntX.block_exit; exact rfl) | (apply EntX.block_exit_other; exact rfl) | (apply EntX.block_normal) | refine EntL.g1 ?_ | refine EntL.g2 ?_ | refine EntL.g3 ?_ | refine Ent.c1 ?_ | refine Ent.c2 ?_))
      refine EntX.ret_of (res1 rfl rfl) () trivial (by simp [layA, atN_miss hm, hr]) ?_
      simp only [layA, atN_miss hm, hr]
      exact mem_trans (shutCA' (L := L' ++ [(q, ⟨b, d, false, 0⟩)]) (A := A' ++ [⟨b, d, false, 0⟩]) (R := own 1 v d.length (bv d) :: R) (by (repeat (first | exact Fits.rfl | exact Fits.nil | exact Sel.here | apply Sel.there | apply Fits.cons | apply Fits.drop))) (by simp) (by simp) (by simp [hA']) (hg'.push hf hno)) (by exact Fits.keep (by (repeat (first | exact Fits.rfl | exact Fits.nil | exact Sel.here | apply Sel.there | apply Fits.cons | apply Fits.drop))))
  · refine Ent.openCA (by (repeat (first | exact Sel.here | apply Sel.there))) (fun L rv mb kv hA hg => ?_)
    obtain ⟨L1, p, L2, rfl, rfl, rfl⟩ := map_snd_mid hA
    subst hab
    have hk := hg.yes (p, a) (by simp)
    (repeat (first | refine EntL.qq ?_ | (apply Ent.seq) | (apply Ent.region) | (apply EntL.nil) | (apply EntX.then_normal) | refine EntL.uu ?_ | (refine EntL.nn (fun _ _ => ?_)) | (apply Ent.block) | (apply Ent.exit) | (apply Ent.ret) | (apply Ent.skip) | (apply EntX.then_ret) | (apply EntX.block_ret) | (apply EntX.then_exit) | (apply EntX.block_exit; exact rfl) | (apply EntX.block_exit_other; exact rfl) | (apply EntX.block_normal) | refine EntL.g1 ?_ | refine EntL.g2 ?_ | refine EntL.g3 ?_ | refine Ent.c1 ?_ | refine Ent.c2 ?_))
    rw [hk]
    (repeat (first | refine EntL.qq ?_ | (apply Ent.seq) | (apply Ent.region) | (apply EntL.nil) | (apply EntX.then_normal) | refine EntL.uu ?_ | (refine EntL.nn (fun _ _ => ?_)) | (apply Ent.block) | (apply Ent.exit) | (apply Ent.ret) | (apply Ent.skip) | (apply EntX.then_ret) | (apply EntX.block_ret) | (apply EntX.then_exit) | (apply EntX.block_exit; exact rfl) | (apply EntX.block_exit_other; exact rfl) | (apply EntX.block_normal) | refine EntL.g1 ?_ | refine EntL.g2 ?_ | refine EntL.g3 ?_ | refine Ent.c1 ?_ | refine Ent.c2 ?_))
    refine EntL.call (clone_spec v d hd) rfl (by (repeat (first | exact Fits.rfl | exact Fits.nil | exact Sel.here | apply Sel.there | apply Fits.cons | apply Fits.drop))) rfl ?_
    rintro _ ⟨va, vc, rfl⟩
    refine EntL.memEx (St.openEnt (E1 := L1) (E2 := L2) (p := p) (a := a) (by (repeat (first | exact Sel.here | apply Sel.there)))) (fun dv _ => ?_)
    (repeat (first | refine EntL.qq ?_ | (apply Ent.seq) | (apply Ent.region) | (apply EntL.nil) | (apply EntX.then_normal) | refine EntL.uu ?_ | (refine EntL.nn (fun _ _ => ?_)) | (apply Ent.block) | (apply Ent.exit) | (apply Ent.ret) | (apply Ent.skip) | (apply EntX.then_ret) | (apply EntX.block_ret) | (apply EntX.then_exit) | (apply EntX.block_exit; exact rfl) | (apply EntX.block_exit_other; exact rfl) | (apply EntX.block_normal) | refine EntL.g1 ?_ | refine EntL.g2 ?_ | refine EntL.g3 ?_ | refine Ent.c1 ?_ | refine Ent.c2 ?_))
    refine EntL.mem (shutEnt (E1 := L1) (E2 := L2) (p := p) (a := { a with d := d }) (dv := .slice va d.length vc)
        (R := cl c [.int .i64 most, rv, .map (some mb)] :: own 1 rv ((L1 ++ (p, a) :: L2).map Prod.fst).length (((L1 ++ (p, a) :: L2).map Prod.fst).map ptrV) :: mpi mb kv :: own 1 v d.length (bv d) :: R) (by (repeat (first | exact Fits.rfl | exact Fits.nil | exact Sel.here | apply Sel.there | apply Fits.cons | apply Fits.drop)))) ?_
    refine EntL.call (use_spec c p (.int .i64 most) rv (.map (some mb)) ((L1 ++ (p, a) :: L2).map Prod.fst) (L1 ++ (p, { a with d := d }) :: L2) (by simp at hl ⊢; omega) (fun q hq => by simpa using hq) (by simp)) rfl (by (repeat (first | exact Fits.rfl | exact Fits.nil | exact Sel.here | apply Sel.there | apply Fits.cons | apply Fits.drop))) rfl ?_
    rintro _ ⟨va', vc', rfl⟩
    rw [hg.mid_keep]
    (repeat (first | refine EntL.qq ?_ | (apply Ent.seq) | (apply Ent.region) | (apply EntL.nil) | (apply EntX.then_normal) | refine EntL.uu ?_ | (refine EntL.nn (fun _ _ => ?_)) | (apply Ent.block) | (apply Ent.exit) | (apply Ent.ret) | (apply Ent.skip) | (apply EntX.then_ret) | (apply EntX.block_ret) | (apply EntX.then_exit) | (apply EntX.block_exit; exact rfl) | (apply EntX.block_exit_other; exact rfl) | (apply EntX.block_normal) | refine EntL.g1 ?_ | refine EntL.g2 ?_ | refine EntL.g3 ?_ | refine Ent.c1 ?_ | refine Ent.c2 ?_))
    refine EntX.ret_of (res1 rfl rfl) () trivial (by simp [layA, atN_hit rfl hA1]) ?_
    simp only [layA, atN_hit rfl hA1, rest_hit rfl hA1]
    have hg2 : Good kv (L1 ++ (p, { a with d := d }) :: L2) := hg.mid_turn rfl
    refine mem_trans (shutCA' (L := L1 ++ L2 ++ [(p, { a with d := d })]) (kv := kv) (mb := mb) (rv := .slice va' (((L1 ++ L2).map Prod.fst).length + 1) vc') (m := ((L1 ++ L2).map Prod.fst).length + 1) (cs := ((L1 ++ L2).map Prod.fst).map ptrV ++ [ptrV p]) (A := L1.map Prod.snd ++ L2.map Prod.snd ++ [{ a with d := d }]) (R := own 1 v d.length (bv d) :: R) ?_ (by simp [Nat.add_assoc]) (by simp) (by simp) hg2.mid_move) (by exact Fits.keep (by (repeat (first | exact Fits.rfl | exact Fits.nil | exact Sel.here | apply Sel.there | apply Fits.cons | apply Fits.drop))))
    rw [← ents_perm ((mid_perm L1 L2 (p, { a with d := d })).trans (List.perm_append_comm (l₁ := [(p, { a with d := d })])))]
    (repeat (first | exact Fits.rfl | exact Fits.nil | exact Sel.here | apply Sel.there | apply Fits.cons | apply Fits.drop))
end Go.Proofs.Ythlbimdlpadhdaa
