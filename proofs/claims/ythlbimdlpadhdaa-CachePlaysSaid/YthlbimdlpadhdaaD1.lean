/- The reference's cache: what it holds, and its inner functions At, gone, use. -/
import Derived.Test.YthlbimdlpadhdaaC10
import Derived.Test.YthlbimdlpadhdaaSlOwn
namespace Go.Proofs.Ythlbimdlpadhdaa
open Go Go.Sl

def entR (p : Nat) (a : Ab) : HP := ex fun dv => star (cl p [.int .i64 a.n, dv, .bool a.dirty, .int .i64 a.pins]) (own 1 dv a.d.length (bv a.d))
def entsR (L : Row) : HP := stars (L.map fun e => entR e.1 e.2)
theorem entsR_mid (L1 L2 : Row) (p : Nat) (a : Ab) : entsR (L1 ++ (p, a) :: L2) = star (entR p a) (entsR (L1 ++ L2)) := by
  simp only [entsR, List.map_append, List.map_cons, stars_append, stars]
  rw [star_left]
theorem entsR_perm {L L' : Row} (h : L.Perm L') : entsR L = entsR L' := by
  induction h with
  | nil => rfl
  | cons x _ ih => simp only [entsR, List.map_cons, stars] at ih ⊢; rw [ih]
  | swap x y l => simp only [entsR, List.map_cons, stars]; rw [star_left]
  | trans _ _ h1 h2 => rw [h1, h2]
section
variable {P : Program} {Q : Exit → Act → World → Prop} {n : Nat} {env : Env} {σ : Sig} {H R : List HP} {code : Code} {x : Exit}
theorem St.openEntR {E1 E2 : Row} {p : Nat} {a : Ab} (s : Sel (entsR (E1 ++ (p, a) :: E2)) H R) : ∀ w, St σ H w → ∃ dv : Value, True ∧ St σ (cl p [.int .i64 a.n, dv, .bool a.dirty, .int .i64 a.pins] :: own 1 dv a.d.length (bv a.d) :: entsR (E1 ++ E2) :: R) w := fun w st => by
  have st := (st.front s).of_eq (H' := entR p a :: entsR (E1 ++ E2) :: R) (by simp only [stars, entsR_mid, star_assoc])
  obtain ⟨dv, st⟩ := St.open (A := fun dv => star (cl p [.int .i64 a.n, dv, .bool a.dirty, .int .i64 a.pins]) (own 1 dv a.d.length (bv a.d))) Sel.here st
  exact ⟨dv, trivial, st.of_eq (by simp only [stars, star_assoc])⟩
theorem shutEntR {E1 E2 : Row} {p : Nat} {a : Ab} {dv : Value} (f : Fits (cl p [.int .i64 a.n, dv, .bool a.dirty, .int .i64 a.pins] :: own 1 dv a.d.length (bv a.d) :: entsR (E1 ++ E2) :: R) H) : ∀ w, St σ H w → St σ (entsR (E1 ++ (p, a) :: E2) :: R) w := fun w st => by
  have st := (f.st st).of_eq (H' := star (cl p [.int .i64 a.n, dv, .bool a.dirty, .int .i64 a.pins]) (own 1 dv a.d.length (bv a.d)) :: entsR (E1 ++ E2) :: R) (by simp only [stars, star_assoc])
  have st : St σ (entR p a :: entsR (E1 ++ E2) :: R) w := St.exI (A := fun dv => star (cl p [.int .i64 a.n, dv, .bool a.dirty, .int .i64 a.pins]) (own 1 dv a.d.length (bv a.d))) dv st
  exact st.of_eq (by simp only [stars, entsR_mid, star_assoc])
theorem mmEntR {E : List HP → Prop} [m : Mono σ E] {E1 E2 : Row} {p : Nat} {a : Ab} (s : Sel (entsR (E1 ++ (p, a) :: E2)) H R)
    (h : ∀ dv, E (cl p [.int .i64 a.n, dv, .bool a.dirty, .int .i64 a.pins] :: own 1 dv a.d.length (bv a.d) :: entsR (E1 ++ E2) :: R)) : E H := mmEx (St.openEntR s) (fun dv _ => h dv)
theorem entsR_plain {L : Row} {p : Nat} (h : p ∈ L.map Prod.fst) (s : Sel (entsR L) H R) : ∀ w, St σ H w → Plain w p := fun w st => by
  obtain ⟨L1, a, L2, rfl⟩ := row_split h
  obtain ⟨dv, _, st⟩ := St.openEntR s w st
  exact st.plain' Sel.here
end
theorem ptr_at {l : List Nat} {i : Nat} (h : i < l.length) : (l.map ptrV)[i]? = some (ptrV l[i]) := by simp [h]
theorem ptr_mid {L1 L2 : Row} {p : Nat} {a : Ab} : (((L1 ++ (p, a) :: L2).map Prod.fst).map ptrV)[L1.length]? = some (ptrV p) := by simp

/-- the first entry of a number, or none -/
def foundR (b : Int) (L : Row) : Value := match L.find? (fun e => decide (e.2.n = b)) with | some e => ptrV e.1 | none => .pointer none
theorem at_spec (c : Nat) (most rv : Value) (b : Int) (L : Row) (hl : L.length ≤ 2000) : Ctr Try.prog 38 [ptrV c, .int .i64 b] (fun R => cl c [most, rv] :: own 1 rv (L.map Prod.fst).length ((L.map Prod.fst).map ptrV) :: entsR L :: R) (fun _ : Unit => True)
    (fun _ => foundR b L) (fun _ R => cl c [most, rv] :: own 1 rv (L.map Prod.fst).length ((L.map Prod.fst).map ptrV) :: entsR L :: R) := by
  refine Ctr.of_ent Try.func38 rfl Try.ntmps38 rfl (fun σ R => ?_)
  refine mmOwnA (by (repeat (first | exact Sel.here | apply Sel.there))) (fun ra rc hv _ _ hp => ?_)
  subst hv
  have hll : (L.map Prod.fst).length = L.length := by simp
  (repeat (first | refine EntL.qx ?_ | (apply Ent.seq) | (apply Ent.region) | (apply EntL.nil) | (apply EntX.then_normal) | refine EntL.ux ?_ | (refine EntL.nn (fun _ _ => ?_)) | (apply Ent.block) | (apply Ent.exit) | (apply Ent.ret) | (apply Ent.skip) | (apply EntX.then_ret) | (apply EntX.block_ret) | (apply EntX.then_exit) | (apply EntX.block_exit; exact rfl) | (apply EntX.block_exit_other; exact rfl) | (apply EntX.block_normal) | refine EntL.g1x ?_ | refine EntL.g2x ?_ | refine EntL.g3 ?_ | refine Ent.c1x ?_ | refine Ent.c2x ?_))
  refine Ent.loop (α := Nat) (fun i => [(0, ptrV c), (1, .int .i64 b), (5, .int .i64 i)])
    (fun _ => cl c [most, .slice ra (L.map Prod.fst).length rc] :: own 1 (.slice ra (L.map Prod.fst).length rc) (L.map Prod.fst).length ((L.map Prod.fst).map ptrV) :: entsR L :: R)
    (fun i => i ≤ L.length ∧ ∀ e ∈ L.take i, e.2.n ≠ b) (fun i => L.length - i) 0 ⟨Nat.zero_le _, by simp⟩ (by repeat (first | exact EnvSub.nil | refine EnvSub.cons rfl ?_)) (fun _ h => h) (fun i hi => ?_)
  obtain ⟨hi, hno⟩ := hi
  by_cases hil : i < L.length
  · obtain ⟨bb, rfl⟩ := hp (by omega)
    obtain ⟨L1, p, a, L2, rfl, rfl⟩ := row_at' hil
    have hget := ptr_mid (L1 := L1) (L2 := L2) (p := p) (a := a)
    have ht : (L1 ++ (p, a) :: L2).take L1.length = L1 := by simp
    rw [ht] at hno
    (repeat (first | refine EntL.qx ?_ | (apply Ent.seq) | (apply Ent.region) | (apply EntL.nil) | (apply EntX.then_normal) | refine EntL.ux ?_ | (refine EntL.nn (fun _ _ => ?_)) | (apply Ent.block) | (apply Ent.exit) | (apply Ent.ret) | (apply Ent.skip) | (apply EntX.then_ret) | (apply EntX.block_ret) | (apply EntX.then_exit) | (apply EntX.block_exit; exact rfl) | (apply EntX.block_exit_other; exact rfl) | (apply EntX.block_normal) | refine EntL.g1x ?_ | refine EntL.g2x ?_ | refine EntL.g3 ?_ | refine Ent.c1x ?_ | refine Ent.c2x ?_))
    refine mmEntR (E1 := L1) (E2 := L2) (by (repeat (first | exact Sel.here | apply Sel.there))) (fun dv => ?_)
    by_cases hb : a.n = b
    · (repeat (first | refine EntL.qx ?_ | (apply Ent.seq) | (apply Ent.region) | (apply EntL.nil) | (apply EntX.then_normal) | refine EntL.ux ?_ | (refine EntL.nn (fun _ _ => ?_)) | (apply Ent.block) | (apply Ent.exit) | (apply Ent.ret) | (apply Ent.skip) | (apply EntX.then_ret) | (apply EntX.block_ret) | (apply EntX.then_exit) | (apply EntX.block_exit; exact rfl) | (apply EntX.block_exit_other; exact rfl) | (apply EntX.block_normal) | refine EntL.g1x ?_ | refine EntL.g2x ?_ | refine EntL.g3 ?_ | refine Ent.c1x ?_ | refine Ent.c2x ?_))
      refine EntX.ret_of (res1 rfl rfl) () trivial ?_ (mem_trans (shutEntR (E1 := L1) (E2 := L2) (p := p) (a := a) (dv := dv) (by (repeat (first | exact Fits.rfl | exact Fits.nil | exact Sel.here | apply Sel.there | apply Fits.cons | apply Fits.drop)))) (by exact Fits.keep (by (repeat (first | exact Fits.rfl | exact Fits.nil | exact Sel.here | apply Sel.there | apply Fits.cons | apply Fits.drop)))))
      have : L1.find? (fun e => decide (e.2.n = b)) = none := by simpa using hno
      simp [foundR, List.find?_append, this, hb]
    · (repeat (first | refine EntL.qx ?_ | (apply Ent.seq) | (apply Ent.region) | (apply EntL.nil) | (apply EntX.then_normal) | refine EntL.ux ?_ | (refine EntL.nn (fun _ _ => ?_)) | (apply Ent.block) | (apply Ent.exit) | (apply Ent.ret) | (apply Ent.skip) | (apply EntX.then_ret) | (apply EntX.block_ret) | (apply EntX.then_exit) | (apply EntX.block_exit; exact rfl) | (apply EntX.block_exit_other; exact rfl) | (apply EntX.block_normal) | refine EntL.g1x ?_ | refine EntL.g2x ?_ | refine EntL.g3 ?_ | refine Ent.c1x ?_ | refine Ent.c2x ?_))
      refine EntX.round_end (L1.length + 1) ⟨by simp, ?_⟩ (by simp; omega) (by repeat (first | exact EnvSub.nil | refine EnvSub.cons rfl ?_)) (mem_trans (shutEntR (E1 := L1) (E2 := L2) (p := p) (a := a) (dv := dv) (by (repeat (first | exact Fits.rfl | exact Fits.nil | exact Sel.here | apply Sel.there | apply Fits.cons | apply Fits.drop)))) (by exact Fits.keep (by (repeat (first | exact Fits.rfl | exact Fits.nil | exact Sel.here | apply Sel.there | apply Fits.cons | apply Fits.drop)))))
      intro e he
      rw [show (L1 ++ (p, a) :: L2).take (L1.length + 1) = L1 ++ [(p, a)] by exact take_mid _ _ _] at he
      rcases List.mem_append.1 he with he | he
      · exact hno e he
      · simp at he; subst he; exact hb
  · have : i = L.length := by omega
    subst this
    rw [List.take_of_length_le (Nat.le_refl _)] at hno
    (repeat (first | refine EntL.qx ?_ | (apply Ent.seq) | (apply Ent.region) | (apply EntL.nil) | (apply EntX.then_normal) | refine EntL.ux ?_ | (refine EntL.nn (fun _ _ => ?_)) | (apply Ent.block) | (apply Ent.exit) | (apply Ent.ret) | (apply Ent.skip) | (apply EntX.then_ret) | (apply EntX.block_ret) | (apply EntX.then_exit) | (apply EntX.block_exit; exact rfl) | (apply EntX.block_exit_other; exact rfl) | (apply EntX.block_normal) | refine EntL.g1x ?_ | refine EntL.g2x ?_ | refine EntL.g3 ?_ | refine Ent.c1x ?_ | refine Ent.c2x ?_))
    refine EntX.ret_of (res1 rfl rfl) () trivial ?_ (by exact Fits.keep (by (repeat (first | exact Fits.rfl | exact Fits.nil | exact Sel.here | apply Sel.there | apply Fits.cons | apply Fits.drop))))
    have : L.find? (fun e => decide (e.2.n = b)) = none := by simpa using hno
    simp [foundR, this]
theorem gone_spec (c p : Nat) (most rv : Value) (l : List Nat) (E : Row) (hl : l.length ≤ 2000) (hE : ∀ q ∈ l, q ∈ E.map Prod.fst) (hp : p ∈ E.map Prod.fst) :
    Ctr Try.prog 42 [ptrV c, ptrV p] (fun R => cl c [most, rv] :: own 1 rv l.length (l.map ptrV) :: entsR E :: R) (fun rv' : Value => IsSl (keepIx (fun q => decide (q = p)) l).length rv') (fun _ => .tuple #[])
      (fun rv' R => cl c [most, rv'] :: own 1 rv' (keepIx (fun q => decide (q = p)) l).length ((keepIx (fun q => decide (q = p)) l).map ptrV) :: entsR E :: R) := by
  refine Ctr.of_ent Try.func42 rfl Try.ntmps42 rfl (fun σ R => ?_)
  refine mmOwnA (by (repeat (first | exact Sel.here | apply Sel.there))) (fun ra rc hv _ _ ha => ?_)
  subst hv
  (repeat (first | refine EntL.qx ?_ | (apply Ent.seq) | (apply Ent.region) | (apply EntL.nil) | (apply EntX.then_normal) | refine EntL.ux ?_ | (refine EntL.nn (fun _ _ => ?_)) | (apply Ent.block) | (apply Ent.exit) | (apply Ent.ret) | (apply Ent.skip) | (apply EntX.then_ret) | (apply EntX.block_ret) | (apply EntX.then_exit) | (apply EntX.block_exit; exact rfl) | (apply EntX.block_exit_other; exact rfl) | (apply EntX.block_normal) | refine EntL.g1x ?_ | refine EntL.g2x ?_ | refine EntL.g3 ?_ | refine Ent.c1x ?_ | refine Ent.c2x ?_))
  refine mm (own_none (sz := 1)) ?_
  refine Ent.loop (α := Nat × Value) (fun x => [(0, ptrV c), (1, ptrV p), (4, x.2), (5, .int .i64 x.1)])
    (fun x => own 1 x.2 (keepIx (fun q => decide (q = p)) (l.take x.1)).length ((keepIx (fun q => decide (q = p)) (l.take x.1)).map ptrV) :: cl c [most, .slice ra l.length rc] :: own 1 (.slice ra l.length rc) l.length (l.map ptrV) :: entsR E :: R)
    (fun x => x.1 ≤ l.length) (fun x => l.length - x.1) (0, .slice none 0 0) (Nat.zero_le _) (by repeat (first | exact EnvSub.nil | refine EnvSub.cons rfl ?_)) (fun _ h => h) ?_
  rintro ⟨i, v⟩ hi
  simp only at hi ⊢
  refine mmOwnA (k := (keepIx (fun q => decide (q = p)) (l.take i)).length) (by (repeat (first | exact Sel.here | apply Sel.there))) (fun va vc hv _ _ _ => ?_)
  subst hv
  have hk := keep_le (fun q => decide (q = p)) l i
  by_cases hil : i < l.length
  · obtain ⟨bb, rfl⟩ := ha (by omega)
    have hget := ptr_at hil
    have hs := keep_take_succ (fun q => decide (q = p)) l i hil
    (repeat (first | refine EntL.qx ?_ | (apply Ent.seq) | (apply Ent.region) | (apply EntL.nil) | (apply EntX.then_normal) | refine EntL.ux ?_ | (refine EntL.nn (fun _ _ => ?_)) | (apply Ent.block) | (apply Ent.exit) | (apply Ent.ret) | (apply Ent.skip) | (apply EntX.then_ret) | (apply EntX.block_ret) | (apply EntX.then_exit) | (apply EntX.block_exit; exact rfl) | (apply EntX.block_exit_other; exact rfl) | (apply EntX.block_normal) | refine EntL.g1x ?_ | refine EntL.g2x ?_ | refine EntL.g3 ?_ | refine Ent.c1x ?_ | refine Ent.c2x ?_))
    refine EntL.q (OpQ.ne_ptr rfl rfl rfl (entsR_plain (hE _ (List.getElem_mem hil)) (by (repeat (first | exact Sel.here | apply Sel.there)))) (entsR_plain hp (by (repeat (first | exact Sel.here | apply Sel.there))))) rfl ?_
    by_cases hq : l[i] = p
    · have he : (!((⟨l[i], 0, none⟩ : Addr) == ⟨p, 0, none⟩)) = false := by simp [hq]
      (repeat (first | refine EntL.qx ?_ | (apply Ent.seq) | (apply Ent.region) | (apply EntL.nil) | (apply EntX.then_normal) | refine EntL.ux ?_ | (refine EntL.nn (fun _ _ => ?_)) | (apply Ent.block) | (apply Ent.exit) | (apply Ent.ret) | (apply Ent.skip) | (apply EntX.then_ret) | (apply EntX.block_ret) | (apply EntX.then_exit) | (apply EntX.block_exit; exact rfl) | (apply EntX.block_exit_other; exact rfl) | (apply EntX.block_normal) | refine EntL.g1x ?_ | refine EntL.g2x ?_ | refine EntL.g3 ?_ | refine Ent.c1x ?_ | refine Ent.c2x ?_))
      refine EntX.round_end (i + 1, .slice va _ vc) (by simp only; omega) (by simp only; omega) (by repeat (first | exact EnvSub.nil | refine EnvSub.cons rfl ?_)) ?_
      simp only [hq, decide_true, if_true, List.append_nil] at hs
      rw [hs]
      exact Fits.keep (by (repeat (first | exact Fits.rfl | exact Fits.nil | exact Sel.here | apply Sel.there | apply Fits.cons | apply Fits.drop)))
    · have he : (!((⟨l[i], 0, none⟩ : Addr) == ⟨p, 0, none⟩)) = true := by simp [hq]
      (repeat (first | refine EntL.qx ?_ | (apply Ent.seq) | (apply Ent.region) | (apply EntL.nil) | (apply EntX.then_normal) | refine EntL.ux ?_ | (refine EntL.nn (fun _ _ => ?_)) | (apply Ent.block) | (apply Ent.exit) | (apply Ent.ret) | (apply Ent.skip) | (apply EntX.then_ret) | (apply EntX.block_ret) | (apply EntX.then_exit) | (apply EntX.block_exit; exact rfl) | (apply EntX.block_exit_other; exact rfl) | (apply EntX.block_normal) | refine EntL.g1x ?_ | refine EntL.g2x ?_ | refine EntL.g3 ?_ | refine Ent.c1x ?_ | refine Ent.c2x ?_))
      (apply EntL.new; (focus (apply OpTo.append; exact rfl; exact rfl; (first | exact own_sel (by (repeat (first | exact Sel.here | apply Sel.there))) | exact own_none | (apply own_cl; (focus (repeat (first | exact Sel.here | apply Sel.there))); exact rfl)); (first | exact reads_own (by (repeat (first | exact Sel.here | apply Sel.there))) | exact reads_none | (refine reads_blk inferInstance rfl ?_; (focus (first | (simp; done) | omega | (simp; omega))))); exact rfl; exact rfl; (first | exact bv_one _ | (focus (simp [Value.oneCell']; done)) | assumption); (first | (unfold room; omega) | (unfold room; simp; omega)); (first | omega | (simp; omega)))); exact rfl)
      rintro _ ⟨a', c', rfl⟩
      (repeat (first | refine EntL.qx ?_ | (apply Ent.seq) | (apply Ent.region) | (apply EntL.nil) | (apply EntX.then_normal) | refine EntL.ux ?_ | (refine EntL.nn (fun _ _ => ?_)) | (apply Ent.block) | (apply Ent.exit) | (apply Ent.ret) | (apply Ent.skip) | (apply EntX.then_ret) | (apply EntX.block_ret) | (apply EntX.then_exit) | (apply EntX.block_exit; exact rfl) | (apply EntX.block_exit_other; exact rfl) | (apply EntX.block_normal) | refine EntL.g1x ?_ | refine EntL.g2x ?_ | refine EntL.g3 ?_ | refine Ent.c1x ?_ | refine Ent.c2x ?_))
      refine EntX.round_end (i + 1, _) (by simp only; omega) (by simp only; omega) (by repeat (first | exact EnvSub.nil | refine EnvSub.cons rfl ?_)) ?_
      simp only [hq, decide_false, Bool.false_eq_true, if_false] at hs
      rw [hs, List.length_append, List.map_append]
      exact Fits.keep (by (repeat (first | exact Fits.rfl | exact Fits.nil | exact Sel.here | apply Sel.there | apply Fits.cons | apply Fits.drop)))
  · have : i = l.length := by omega
    subst this
    rw [List.take_of_length_le (Nat.le_refl _)]
    (repeat (first | refine EntL.qx ?_ | (apply Ent.seq) | (apply Ent.region) | (apply EntL.nil) | (apply EntX.then_normal) | refine EntL.ux ?_ | (refine EntL.nn (fun _ _ => ?_)) | (apply Ent.block) | (apply Ent.exit) | (apply Ent.ret) | (apply Ent.skip) | (apply EntX.then_ret) | (apply EntX.block_ret) | (apply EntX.then_exit) | (apply EntX.block_exit; exact rfl) | (apply EntX.block_exit_other; exact rfl) | (apply EntX.block_normal) | refine EntL.g1x ?_ | refine EntL.g2x ?_ | refine EntL.g3 ?_ | refine Ent.c1x ?_ | refine Ent.c2x ?_))
    refine EntX.norm_of (res0 rfl) _ ⟨_, _, rfl⟩ rfl (by exact Fits.keep (by (repeat (first | exact Fits.rfl | exact Fits.nil | exact Sel.here | apply Sel.there | apply Fits.cons | apply Fits.drop))))
end Go.Proofs.Ythlbimdlpadhdaa
