/- The cache's inner functions over its entries: lose, room; and what a cache holds. -/
import Derived.Test.YthlbimdlpadhdaaC2
namespace Go.Proofs.Ythlbimdlpadhdaa
open Go Go.Sl

section
variable {P : Program} {Q : Exit → Act → World → Prop} {n : Nat} {env : Env} {σ : Sig} {H R : List HP} {code : Code} {x : Exit}
theorem St.openEnt {E1 E2 : Row} {p : Nat} {a : Ab} (s : Sel (ents (E1 ++ (p, a) :: E2)) H R) : ∀ w, St σ H w → ∃ dv : Value, True ∧ St σ (cl p [dv, .bool a.dirty, .int .i64 a.pins, .int .i64 a.n] :: own 1 dv a.d.length (bv a.d) :: ents (E1 ++ E2) :: R) w := fun w st => by
  have st := (st.front s).of_eq (H' := entC p a :: ents (E1 ++ E2) :: R) (by simp only [stars, ents_mid, star_assoc])
  obtain ⟨dv, st⟩ := St.open (A := fun dv => star (cl p [dv, .bool a.dirty, .int .i64 a.pins, .int .i64 a.n]) (own 1 dv a.d.length (bv a.d))) Sel.here st
  exact ⟨dv, trivial, st.of_eq (by simp only [stars, star_assoc])⟩
theorem shutEnt {E1 E2 : Row} {p : Nat} {a : Ab} {dv : Value} (f : Fits (cl p [dv, .bool a.dirty, .int .i64 a.pins, .int .i64 a.n] :: own 1 dv a.d.length (bv a.d) :: ents (E1 ++ E2) :: R) H) : ∀ w, St σ H w → St σ (ents (E1 ++ (p, a) :: E2) :: R) w := fun w st => by
  have st := (f.st st).of_eq (H' := star (cl p [dv, .bool a.dirty, .int .i64 a.pins, .int .i64 a.n]) (own 1 dv a.d.length (bv a.d)) :: ents (E1 ++ E2) :: R) (by simp only [stars, star_assoc])
  have st : St σ (entC p a :: ents (E1 ++ E2) :: R) w := St.exI (A := fun dv => star (cl p [dv, .bool a.dirty, .int .i64 a.pins, .int .i64 a.n]) (own 1 dv a.d.length (bv a.d))) dv st
  exact st.of_eq (by simp only [stars, ents_mid, star_assoc])
theorem Ent.openEnt {E1 E2 : Row} {p : Nat} {a : Ab} (s : Sel (ents (E1 ++ (p, a) :: E2)) H R)
    (h : ∀ dv, Ent P code Q n env σ (cl p [dv, .bool a.dirty, .int .i64 a.pins, .int .i64 a.n] :: own 1 dv a.d.length (bv a.d) :: ents (E1 ++ E2) :: R)) : Ent P code Q n env σ H :=
  Ent.memEx (St.openEnt s) (fun dv _ => h dv)
end

theorem lose_spec (c p mb : Nat) (most rv : Value) (kv : KV) (l : List Nat) (E1 E2 : Row) (a : Ab) (hl : l.length ≤ 2000) (hE : ∀ q ∈ l, q ∈ (E1 ++ (p, a) :: E2).map Prod.fst) :
    Ctr Try.prog 35 [ptrV c, ptrV p] (fun R => cl c [most, rv, .map (some mb)] :: own 1 rv l.length (l.map ptrV) :: mpi mb kv :: ents (E1 ++ (p, a) :: E2) :: R) (fun rv' : Value => IsSl (keepIx (fun q => decide (q = p)) l).length rv') (fun _ => .tuple #[])
      (fun rv' R => cl c [most, rv', .map (some mb)] :: own 1 rv' (keepIx (fun q => decide (q = p)) l).length ((keepIx (fun q => decide (q = p)) l).map ptrV) :: mpi mb (kvDel kv a.n) :: ents (E1 ++ (p, a) :: E2) :: R) := by
  refine Ctr.of_ent Try.func35 rfl Try.ntmps35 rfl (fun σ R => ?_)
  refine Ent.openEnt (by (repeat (first | exact Sel.here | apply Sel.there))) (fun dv => ?_)
  (repeat (first | refine EntL.qq ?_ | (apply Ent.seq) | (apply Ent.region) | (apply EntL.nil) | (apply EntX.then_normal) | refine EntL.uu ?_ | (refine EntL.nn (fun _ _ => ?_)) | (apply Ent.block) | (apply Ent.exit) | (apply Ent.ret) | (apply Ent.skip) | (apply EntX.then_ret) | (apply EntX.block_ret) | (apply EntX.then_exit) | (apply EntX.block_exit; exact rfl) | (apply EntX.block_exit_other; exact rfl) | (apply EntX.block_normal) | refine EntL.g1 ?_ | refine EntL.g2 ?_ | refine EntL.g3 ?_ | refine Ent.c1 ?_ | refine Ent.c2 ?_))
  rename_i cx _
  refine Ent.draw 9 [cl c [most, rv, .map (some mb)], cl cx [ptrV p], cl p [dv, .bool a.dirty, .int .i64 a.pins, .int .i64 a.n]] mixed ?_
  (first | refine EntD.qa 0 ?_ | refine EntD.pa 0 ?_)
  (first | refine EntD.qa 1 ?_ | refine EntD.pa 1 ?_)
  (first | refine EntD.qa 2 ?_ | refine EntD.pa 2 ?_)
  (first | refine EntD.qa 3 ?_ | refine EntD.pa 3 ?_)
  (first | refine EntD.qa 4 ?_ | refine EntD.pa 4 ?_)
  (first | refine EntD.qa 5 ?_ | refine EntD.pa 5 ?_)
  (first | refine EntD.qa 6 ?_ | refine EntD.pa 6 ?_)
  (first | refine EntD.qa 7 ?_ | refine EntD.pa 7 ?_)
  refine EntD.one 8 (by decide +kernel) rfl (EntO.to (want_none rfl) rfl (OpU.to (OpU.delete rfl rfl inferInstance)) (fun _ _ => .inr (by exact Fits.keep (by (repeat (first | exact Fits.rfl | exact Fits.nil | exact Sel.here | apply Sel.there | apply Fits.cons | apply Fits.drop))))) (fun _ _ => ?_))
  (apply EntD.done; decide +kernel)
  refine EntX.mem (shutEnt (E1 := E1) (E2 := E2) (p := p) (a := a) (dv := dv) (R := cl cx [ptrV p] :: cl c [most, rv, .map (some mb)] :: own 1 rv l.length (l.map ptrV) :: mpi mb (kvDel kv a.n) :: R) (by (repeat (first | exact Fits.rfl | exact Fits.nil | exact Sel.here | apply Sel.there | apply Fits.cons | apply Fits.drop)))) ?_
  (repeat (first | refine EntL.qq ?_ | (apply Ent.seq) | (apply Ent.region) | (apply EntL.nil) | (apply EntX.then_normal) | refine EntL.uu ?_ | (refine EntL.nn (fun _ _ => ?_)) | (apply Ent.block) | (apply Ent.exit) | (apply Ent.ret) | (apply Ent.skip) | (apply EntX.then_ret) | (apply EntX.block_ret) | (apply EntX.then_exit) | (apply EntX.block_exit; exact rfl) | (apply EntX.block_exit_other; exact rfl) | (apply EntX.block_normal) | refine EntL.g1 ?_ | refine EntL.g2 ?_ | refine EntL.g3 ?_ | refine Ent.c1 ?_ | refine Ent.c2 ?_))
  have hcall := deleteFunc_spec 47 [.pointer (some ⟨cx, 0, none⟩)] (star (cl cx [ptrV p]) (ents (E1 ++ (p, a) :: E2))) rv l (fun q => decide (q = p)) (by omega) (fun q hq => same_spec 47 (.inl rfl) cx p (E1 ++ (p, a) :: E2) (by simp) q (hE q hq))
  refine EntL.mem (star_shut (A := cl cx [ptrV p]) (B := ents (E1 ++ (p, a) :: E2)) (R := own 1 rv l.length (l.map ptrV) :: cl c [most, rv, .map (some mb)] :: mpi mb (kvDel kv a.n) :: R) (by (repeat (first | exact Fits.rfl | exact Fits.nil | exact Sel.here | apply Sel.there | apply Fits.cons | apply Fits.drop)))) ?_
  refine EntL.call hcall rfl (R := cl c [most, rv, .map (some mb)] :: mpi mb (kvDel kv a.n) :: R) (by (repeat (first | exact Fits.rfl | exact Fits.nil | exact Sel.here | apply Sel.there | apply Fits.cons | apply Fits.drop))) rfl ?_
  rintro _ ⟨a2, cap2, rfl⟩
  refine EntL.mem (star_sel (by (repeat (first | exact Sel.here | apply Sel.there)))) ?_
  (repeat (first | refine EntL.qq ?_ | (apply Ent.seq) | (apply Ent.region) | (apply EntL.nil) | (apply EntX.then_normal) | refine EntL.uu ?_ | (refine EntL.nn (fun _ _ => ?_)) | (apply Ent.block) | (apply Ent.exit) | (apply Ent.ret) | (apply Ent.skip) | (apply EntX.then_ret) | (apply EntX.block_ret) | (apply EntX.then_exit) | (apply EntX.block_exit; exact rfl) | (apply EntX.block_exit_other; exact rfl) | (apply EntX.block_normal) | refine EntL.g1 ?_ | refine EntL.g2 ?_ | refine EntL.g3 ?_ | refine Ent.c1 ?_ | refine Ent.c2 ?_))
  refine EntX.norm_of (res0 rfl) _ ⟨_, _, rfl⟩ rfl (by exact Fits.keep (by (repeat (first | exact Fits.rfl | exact Fits.nil | exact Sel.here | apply Sel.there | apply Fits.cons | apply Fits.drop))))
end Go.Proofs.Ythlbimdlpadhdaa
