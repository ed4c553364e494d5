/- The cache's inner functions free and room. -/
import Derived.Test.YthlbimdlpadhdaaC4
namespace Go.Proofs.Ythlbimdlpadhdaa
open Go Go.Sl

theorem ents_drop {σ : Sig} {H R : List HP} {L1 L2 : Row} {p : Nat} {a : Ab} (f : Fits (ents (L1 ++ (p, a) :: L2) :: R) H) : ∀ w, St σ H w → St σ (ents (L1 ++ L2) :: R) w := fun w st => by
  have st := (f.st st).of_eq (H' := entC p a :: ents (L1 ++ L2) :: R) (by simp only [stars, ents_mid, star_assoc])
  exact (show Fits (ents (L1 ++ L2) :: R) (entC p a :: ents (L1 ++ L2) :: R) by (repeat (first | exact Fits.rfl | exact Fits.nil | exact Sel.here | apply Sel.there | apply Fits.cons | apply Fits.drop))).st st
theorem free_spec (L1 L2 : Row) (p : Nat) (a : Ab) : Ctr Try.prog 34 [ptrV p] (fun R => ents (L1 ++ (p, a) :: L2) :: R) (fun _ : Unit => True) (fun _ => .bool a.free) (fun _ R => ents (L1 ++ (p, a) :: L2) :: R) := by
  refine Ctr.of_ent Try.func34 rfl Try.ntmps34 rfl (fun σ R => ?_)
  refine Ent.openEnt (by (repeat (first | exact Sel.here | apply Sel.there))) (fun dv => ?_)
  cases hd : a.dirty
  · have hb : (!a.dirty) = true := by simp [hd]
    (repeat (first | refine EntL.qq ?_ | (apply Ent.seq) | (apply Ent.region) | (apply EntL.nil) | (apply EntX.then_normal) | refine EntL.uu ?_ | (refine EntL.nn (fun _ _ => ?_)) | (apply Ent.block) | (apply Ent.exit) | (apply Ent.ret) | (apply Ent.skip) | (apply EntX.then_ret) | (apply EntX.block_ret) | (apply EntX.then_exit) | (apply EntX.block_exit; exact rfl) | (apply EntX.block_exit_other; exact rfl) | (apply EntX.block_normal) | refine EntL.g1 ?_ | refine EntL.g2 ?_ | refine EntL.g3 ?_ | refine Ent.c1 ?_ | refine Ent.c2 ?_))
    refine EntX.ret_of (res1 rfl rfl) () trivial (by simp [Ab.free, hd]) (shutEnt (dv := dv) (by simp only [hd]; (repeat (first | exact Fits.rfl | exact Fits.nil | exact Sel.here | apply Sel.there | apply Fits.cons | apply Fits.drop))))
  · (repeat (first | refine EntL.qq ?_ | (apply Ent.seq) | (apply Ent.region) | (apply EntL.nil) | (apply EntX.then_normal) | refine EntL.uu ?_ | (refine EntL.nn (fun _ _ => ?_)) | (apply Ent.block) | (apply Ent.exit) | (apply Ent.ret) | (apply Ent.skip) | (apply EntX.then_ret) | (apply EntX.block_ret) | (apply EntX.then_exit) | (apply EntX.block_exit; exact rfl) | (apply EntX.block_exit_other; exact rfl) | (apply EntX.block_normal) | refine EntL.g1 ?_ | refine EntL.g2 ?_ | refine EntL.g3 ?_ | refine Ent.c1 ?_ | refine Ent.c2 ?_))
    refine EntX.ret_of (res1 rfl rfl) () trivial (by simp [Ab.free, hd]) (shutEnt (dv := dv) (by simp only [hd]; (repeat (first | exact Fits.rfl | exact Fits.nil | exact Sel.here | apply Sel.there | apply Fits.cons | apply Fits.drop))))
theorem free_asks (L : Row) (h : (L.map Prod.fst).Nodup) : Asks 34 [] (ents L) (L.map Prod.fst) (freeAt L) := by
  intro p hp
  obtain ⟨L1, a, L2, rfl⟩ := row_split hp
  rw [freeAt_mid h]
  exact free_spec L1 L2 p a
theorem room_spec (c : Nat) (most : Int) (A : List Ab) (hl : A.length ≤ 1500) : Ctr Try.prog 45 [ptrV c] (fun R => CA c most A :: R) (fun _ : Unit => True)
    (fun _ => .int .i64 (if (roomA most A).isSome then 0 else 7)) (fun _ R => CA c most ((roomA most A).getD A) :: R) := by
  refine Ctr.of_ent Try.func45 rfl Try.ntmps45 rfl (fun σ R => ?_)
  refine Ent.openCA (by (repeat (first | exact Sel.here | apply Sel.there))) (fun L rv mb kv hA hg => ?_)
  have hlen : (L.map Prod.fst).length = A.length := by rw [← hA]; simp
  refine Ent.own_len (by (repeat (first | exact Sel.here | apply Sel.there))) (fun hv _ => ?_)
  obtain ⟨ra, rc, rfl⟩ := hv
  (repeat (first | refine EntL.qq ?_ | (apply Ent.seq) | (apply Ent.region) | (apply EntL.nil) | (apply EntX.then_normal) | refine EntL.uu ?_ | (refine EntL.nn (fun _ _ => ?_)) | (apply Ent.block) | (apply Ent.exit) | (apply Ent.ret) | (apply Ent.skip) | (apply EntX.then_ret) | (apply EntX.block_ret) | (apply EntX.then_exit) | (apply EntX.block_exit; exact rfl) | (apply EntX.block_exit_other; exact rfl) | (apply EntX.block_normal) | refine EntL.g1 ?_ | refine EntL.g2 ?_ | refine EntL.g3 ?_ | refine Ent.c1 ?_ | refine Ent.c2 ?_))
  refine Ent.draw 10 [cl c [.int .i64 most, .slice ra (L.map Prod.fst).length rc, .map (some mb)]] mixed ?_
  (first | refine EntD.qa 0 ?_ | refine EntD.pa 0 ?_)
  (first | refine EntD.qa 1 ?_ | refine EntD.pa 1 ?_)
  (first | refine EntD.qa 2 ?_ | refine EntD.pa 2 ?_)
  (first | refine EntD.qa 3 ?_ | refine EntD.pa 3 ?_)
  (first | refine EntD.qa 4 ?_ | refine EntD.pa 4 ?_)
  (first | refine EntD.qa 5 ?_ | refine EntD.pa 5 ?_)
  (first | refine EntD.qa 6 ?_ | refine EntD.pa 6 ?_)
  (first | refine EntD.qa 7 ?_ | refine EntD.pa 7 ?_)
  (first | refine EntD.qa 8 ?_ | refine EntD.pa 8 ?_)
  (first | refine EntD.qa 9 ?_ | refine EntD.pa 9 ?_)
  (apply EntD.done; decide +kernel)
  by_cases h1 : (A.length : Int) < most
  · have hb : decide (((L.map Prod.fst).length : Int) < most) = true := by rw [hlen]; simpa using h1
    (repeat (first | refine EntL.qq ?_ | (apply Ent.seq) | (apply Ent.region) | (apply EntL.nil) | (apply EntX.then_normal) | refine EntL.uu ?_ | (refine EntL.nn (fun _ _ => ?_)) | (apply Ent.block) | (apply Ent.exit) | (apply Ent.ret) | (apply Ent.skip) | (apply EntX.then_ret) | (apply EntX.block_ret) | (apply EntX.then_exit) | (apply EntX.block_exit; exact rfl) | (apply EntX.block_exit_other; exact rfl) | (apply EntX.block_normal) | refine EntL.g1 ?_ | refine EntL.g2 ?_ | refine EntL.g3 ?_ | refine Ent.c1 ?_ | refine Ent.c2 ?_))
    have hr : roomA most A = some A := by simp [roomA, h1]
    refine EntX.ret_of (res1 rfl rfl) () trivial (by rw [hr]; rfl) (by rw [hr]; exact shutCA hA hg (by (repeat (first | exact Fits.rfl | exact Fits.nil | exact Sel.here | apply Sel.there | apply Fits.cons | apply Fits.drop))))
  · have hb : decide (((L.map Prod.fst).length : Int) < most) = false := by rw [hlen]; simpa using h1
    (repeat (first | refine EntL.qq ?_ | (apply Ent.seq) | (apply Ent.region) | (apply EntL.nil) | (apply EntX.then_normal) | refine EntL.uu ?_ | (refine EntL.nn (fun _ _ => ?_)) | (apply Ent.block) | (apply Ent.exit) | (apply Ent.ret) | (apply Ent.skip) | (apply EntX.then_ret) | (apply EntX.block_ret) | (apply EntX.then_exit) | (apply EntX.block_exit; exact rfl) | (apply EntX.block_exit_other; exact rfl) | (apply EntX.block_normal) | refine EntL.g1 ?_ | refine EntL.g2 ?_ | refine EntL.g3 ?_ | refine Ent.c1 ?_ | refine Ent.c2 ?_))
    refine EntL.call (indexFunc_spec 34 [] (ents L) (.slice ra (L.map Prod.fst).length rc) (L.map Prod.fst) (freeAt L) (by omega) (free_asks L hg.ptrs)) rfl (by (repeat (first | exact Fits.rfl | exact Fits.nil | exact Sel.here | apply Sel.there | apply Fits.cons | apply Fits.drop))) rfl ?_
    rintro _ -
    rw [firstIx_free hg.ptrs, hA]
    by_cases h2 : firstIx Ab.free A < A.length
    · have hc : firstIx Ab.free A < (L.map Prod.fst).length := by omega
      rw [if_pos hc]
      have hi : decide (((firstIx Ab.free A : Nat) : Int) < 0) = false := by simp
      have hr : roomA most A = some (A.eraseIdx (firstIx Ab.free A)) := by simp [roomA, h1, h2]
      rw [hr]
      have hLi : firstIx Ab.free A < L.length := by rw [List.length_map] at hlen; omega
      obtain ⟨L1, L2, p, a, rfl, hL1, hA2⟩ : ∃ L1 L2 p a, L = L1 ++ (p, a) :: L2 ∧ L1.length = firstIx Ab.free A ∧ A.eraseIdx (firstIx Ab.free A) = (L1 ++ L2).map Prod.snd := by
        refine ⟨L.take (firstIx Ab.free A), L.drop (firstIx Ab.free A + 1), _, _, row_at hLi, by simp; omega, ?_⟩
        rw [← hA, ← erase_at, List.eraseIdx_eq_take_drop_succ, List.eraseIdx_eq_take_drop_succ, List.map_append, List.map_take, List.map_drop]
      rw [hA2, ← hL1]
      have hnn : decide (((L1.length : Nat) : Int) < 0) = false := by simp
      (repeat (first | refine EntL.qq ?_ | (apply Ent.seq) | (apply Ent.region) | (apply EntL.nil) | (apply EntX.then_normal) | refine EntL.uu ?_ | (refine EntL.nn (fun _ _ => ?_)) | (apply Ent.block) | (apply Ent.exit) | (apply Ent.ret) | (apply Ent.skip) | (apply EntX.then_ret) | (apply EntX.block_ret) | (apply EntX.then_exit) | (apply EntX.block_exit; exact rfl) | (apply EntX.block_exit_other; exact rfl) | (apply EntX.block_normal) | refine EntL.g1 ?_ | refine EntL.g2 ?_ | refine EntL.g3 ?_ | refine Ent.c1 ?_ | refine Ent.c2 ?_))
      refine EntL.openOwn (by (repeat (first | exact Sel.here | apply Sel.there))) (by simp; omega : 0 < ((L1 ++ (p, a) :: L2).map Prod.fst).length) (fun b cap' rs hv hcap h3 h4 => ?_)
      cases hv
      (repeat (first | refine EntL.qq ?_ | (apply Ent.seq) | (apply Ent.region) | (apply EntL.nil) | (apply EntX.then_normal) | refine EntL.uu ?_ | (refine EntL.nn (fun _ _ => ?_)) | (apply Ent.block) | (apply Ent.exit) | (apply Ent.ret) | (apply Ent.skip) | (apply EntX.then_ret) | (apply EntX.block_ret) | (apply EntX.then_exit) | (apply EntX.block_exit; exact rfl) | (apply EntX.block_exit_other; exact rfl) | (apply EntX.block_normal) | refine EntL.g1 ?_ | refine EntL.g2 ?_ | refine EntL.g3 ?_ | refine Ent.c1 ?_ | refine Ent.c2 ?_))
      refine EntL.q (OpQ.load rfl inferInstance (v := ptrV p) ?_) rfl ?_
      · simp [List.map_append]
      (repeat (first | refine EntL.qq ?_ | (apply Ent.seq) | (apply Ent.region) | (apply EntL.nil) | (apply EntX.then_normal) | refine EntL.uu ?_ | (refine EntL.nn (fun _ _ => ?_)) | (apply Ent.block) | (apply Ent.exit) | (apply Ent.ret) | (apply Ent.skip) | (apply EntX.then_ret) | (apply EntX.block_ret) | (apply EntX.then_exit) | (apply EntX.block_exit; exact rfl) | (apply EntX.block_exit_other; exact rfl) | (apply EntX.block_normal) | refine EntL.g1 ?_ | refine EntL.g2 ?_ | refine EntL.g3 ?_ | refine Ent.c1 ?_ | refine Ent.c2 ?_))
      refine EntL.mem (shut_own (by (repeat (first | exact Fits.rfl | exact Fits.nil | exact Sel.here | apply Sel.there | apply Fits.cons | apply Fits.drop))) hcap h3 h4) ?_
      refine EntL.call (lose_spec c p mb (.int .i64 most) _ kv ((L1 ++ (p, a) :: L2).map Prod.fst) L1 L2 a (by omega) (fun q hq => hq)) rfl (by (repeat (first | exact Fits.rfl | exact Fits.nil | exact Sel.here | apply Sel.there | apply Fits.cons | apply Fits.drop))) rfl ?_
      rintro _ ⟨ra', rc', rfl⟩
      (repeat (first | refine EntL.qq ?_ | (apply Ent.seq) | (apply Ent.region) | (apply EntL.nil) | (apply EntX.then_normal) | refine EntL.uu ?_ | (refine EntL.nn (fun _ _ => ?_)) | (apply Ent.block) | (apply Ent.exit) | (apply Ent.ret) | (apply Ent.skip) | (apply EntX.then_ret) | (apply EntX.block_ret) | (apply EntX.then_exit) | (apply EntX.block_exit; exact rfl) | (apply EntX.block_exit_other; exact rfl) | (apply EntX.block_normal) | refine EntL.g1 ?_ | refine EntL.g2 ?_ | refine EntL.g3 ?_ | refine Ent.c1 ?_ | refine Ent.c2 ?_))
      rw [hg.mid_keep]
      refine EntX.mem (ents_drop (L1 := L1) (L2 := L2) (p := p) (a := a) (R := cl c [.int .i64 most, .slice ra' ((L1 ++ L2).map Prod.fst).length rc', .map (some mb)] :: own 1 (.slice ra' ((L1 ++ L2).map Prod.fst).length rc') ((L1 ++ L2).map Prod.fst).length (((L1 ++ L2).map Prod.fst).map ptrV) :: mpi mb (kvDel kv a.n) :: R) (by (repeat (first | exact Fits.rfl | exact Fits.nil | exact Sel.here | apply Sel.there | apply Fits.cons | apply Fits.drop)))) ?_
      refine EntX.ret_of (res1 rfl rfl) () trivial rfl (shutCA (L := L1 ++ L2) rfl hg.mid_del (by (repeat (first | exact Fits.rfl | exact Fits.nil | exact Sel.here | apply Sel.there | apply Fits.cons | apply Fits.drop))))
    · have hc : ¬ firstIx Ab.free A < (L.map Prod.fst).length := by omega
      rw [if_neg hc]
      have hr : roomA most A = none := by simp [roomA, h1, h2]
      (repeat (first | refine EntL.qq ?_ | (apply Ent.seq) | (apply Ent.region) | (apply EntL.nil) | (apply EntX.then_normal) | refine EntL.uu ?_ | (refine EntL.nn (fun _ _ => ?_)) | (apply Ent.block) | (apply Ent.exit) | (apply Ent.ret) | (apply Ent.skip) | (apply EntX.then_ret) | (apply EntX.block_ret) | (apply EntX.then_exit) | (apply EntX.block_exit; exact rfl) | (apply EntX.block_exit_other; exact rfl) | (apply EntX.block_normal) | refine EntL.g1 ?_ | refine EntL.g2 ?_ | refine EntL.g3 ?_ | refine Ent.c1 ?_ | refine Ent.c2 ?_))
      refine EntX.ret_of (res1 rfl rfl) () trivial (by rw [hr]; rfl) (by rw [hr]; exact shutCA hA hg (by (repeat (first | exact Fits.rfl | exact Fits.nil | exact Sel.here | apply Sel.there | apply Fits.cons | apply Fits.drop))))
end Go.Proofs.Ythlbimdlpadhdaa
