/- The cache's entries, and the inner functions of the cache: clone, the closures, use, lose. -/
import Derived.Test.YthlbimdlpadhdaaC1
namespace Go.Proofs.Ythlbimdlpadhdaa
open Go Go.Sl

theorem mixed : Try.prog.follows .mixedOrders = true := by kernel_rfl

theorem clone_spec (v : Value) (d : List UInt8) (hd : d.length ≤ 1000000) :
    Ctr Try.prog 37 [v] (fun R => own 1 v d.length (bv d) :: R) (fun v' : Value => IsSl d.length v') (fun v' => v') (fun v' R => own 1 v' d.length (bv d) :: own 1 v d.length (bv d) :: R) := by
  refine Ctr.of_ent Try.func37 rfl Try.ntmps37 rfl (fun σ R => ?_)
  refine Ent.own_len Sel.here (fun hv hl => ?_)
  obtain ⟨a, cap, rfl⟩ := hv
  cases a with
  | none =>
    refine Ent.nil_own Sel.here (fun h0 => ?_)
    have : d = [] := List.eq_nil_of_length_eq_zero h0
    subst this
    (repeat (first | refine EntL.qq ?_ | (apply Ent.seq) | (apply Ent.region) | (apply EntL.nil) | (apply EntX.then_normal) | refine EntL.uu ?_ | (refine EntL.nn (fun _ _ => ?_)) | (apply Ent.block) | (apply Ent.exit) | (apply Ent.ret) | (apply Ent.skip) | (apply EntX.then_ret) | (apply EntX.block_ret) | (apply EntX.then_exit) | (apply EntX.block_exit; exact rfl) | (apply EntX.block_exit_other; exact rfl) | (apply EntX.block_normal) | refine EntL.g1 ?_ | refine EntL.g2 ?_ | refine EntL.g3 ?_ | refine Ent.c1 ?_ | refine Ent.c2 ?_))
    refine EntX.ret_of (res1 rfl rfl) _ ⟨_, _, rfl⟩ rfl (mem_trans own_none (by exact Fits.keep (by (repeat (first | exact Fits.rfl | exact Fits.nil | exact Sel.here | apply Sel.there | apply Fits.cons | apply Fits.drop)))))
  | some a =>
    (repeat (first | refine EntL.qq ?_ | (apply Ent.seq) | (apply Ent.region) | (apply EntL.nil) | (apply EntX.then_normal) | refine EntL.uu ?_ | (refine EntL.nn (fun _ _ => ?_)) | (apply Ent.block) | (apply Ent.exit) | (apply Ent.ret) | (apply Ent.skip) | (apply EntX.then_ret) | (apply EntX.block_ret) | (apply EntX.then_exit) | (apply EntX.block_exit; exact rfl) | (apply EntX.block_exit_other; exact rfl) | (apply EntX.block_normal) | refine EntL.g1 ?_ | refine EntL.g2 ?_ | refine EntL.g3 ?_ | refine Ent.c1 ?_ | refine Ent.c2 ?_))
    (apply EntL.new; (focus (apply OpTo.append; exact rfl; exact rfl; (first | exact own_sel (by (repeat (first | exact Sel.here | apply Sel.there))) | exact own_none | (apply own_cl; (focus (repeat (first | exact Sel.here | apply Sel.there))); exact rfl)); (first | exact reads_own (by (repeat (first | exact Sel.here | apply Sel.there))) | exact reads_none | (refine reads_blk inferInstance rfl ?_; (focus (first | (simp; done) | omega | (simp; omega))))); exact rfl; exact rfl; (first | exact bv_one _ | (focus (simp [Value.oneCell']; done)) | assumption); (first | (unfold room; omega) | (unfold room; simp; omega)); (first | omega | (simp; omega)))); exact rfl)
    rintro _ ⟨a', c', rfl⟩
    (repeat (first | refine EntL.qq ?_ | (apply Ent.seq) | (apply Ent.region) | (apply EntL.nil) | (apply EntX.then_normal) | refine EntL.uu ?_ | (refine EntL.nn (fun _ _ => ?_)) | (apply Ent.block) | (apply Ent.exit) | (apply Ent.ret) | (apply Ent.skip) | (apply EntX.then_ret) | (apply EntX.block_ret) | (apply EntX.then_exit) | (apply EntX.block_exit; exact rfl) | (apply EntX.block_exit_other; exact rfl) | (apply EntX.block_normal) | refine EntL.g1 ?_ | refine EntL.g2 ?_ | refine EntL.g3 ?_ | refine Ent.c1 ?_ | refine Ent.c2 ?_))
    rw [Nat.zero_add, List.nil_append]
    refine EntX.ret_of (res1 rfl rfl) _ ⟨_, _, rfl⟩ rfl (by exact Fits.keep (by (repeat (first | exact Fits.rfl | exact Fits.nil | exact Sel.here | apply Sel.there | apply Fits.cons | apply Fits.drop))))

/-- what is held of a block -/
structure Ab where
  n : Int
  d : List UInt8
  dirty : Bool
  pins : Int
def entC (p : Nat) (a : Ab) : HP := ex fun dv => star (cl p [dv, .bool a.dirty, .int .i64 a.pins, .int .i64 a.n]) (own 1 dv a.d.length (bv a.d))
abbrev Row := List (Nat × Ab)
def ents (L : Row) : HP := stars (L.map fun e => entC e.1 e.2)
theorem ents_mid (L1 L2 : Row) (p : Nat) (a : Ab) : ents (L1 ++ (p, a) :: L2) = star (entC p a) (ents (L1 ++ L2)) := by
  simp only [ents, List.map_append, List.map_cons, stars_append, stars]
  rw [star_left]
theorem ents_nil : ents [] = emp := rfl
theorem ents_perm {L L' : Row} (h : L.Perm L') : ents L = ents L' := by
  induction h with
  | nil => rfl
  | cons x _ ih => simp only [ents, List.map_cons, stars] at ih ⊢; rw [ih]
  | swap x y l => simp only [ents, List.map_cons, stars]; rw [star_left]
  | trans _ _ h1 h2 => rw [h1, h2]
theorem row_split {L : Row} {p : Nat} (h : p ∈ L.map Prod.fst) : ∃ L1 a L2, L = L1 ++ (p, a) :: L2 := by
  obtain ⟨⟨q, a⟩, hm, rfl⟩ := List.mem_map.1 h
  obtain ⟨L1, L2, rfl⟩ := List.append_of_mem hm
  exact ⟨L1, a, L2, rfl⟩
theorem ents_plain {σ : Sig} {L : Row} {R : List HP} {w : World} {p : Nat} (h : p ∈ L.map Prod.fst) (st : St σ (ents L :: R) w) : Plain w p := by
  obtain ⟨L1, a, L2, rfl⟩ := row_split h
  have st := st.of_eq (H' := entC p a :: ents (L1 ++ L2) :: R) (by simp only [stars, ents_mid, star_assoc])
  obtain ⟨dv, st⟩ := St.open (A := fun dv => star (cl p [dv, .bool a.dirty, .int .i64 a.pins, .int .i64 a.n]) (own 1 dv a.d.length (bv a.d))) Sel.here st
  have st := st.of_eq (H' := cl p [dv, .bool a.dirty, .int .i64 a.pins, .int .i64 a.n] :: own 1 dv a.d.length (bv a.d) :: ents (L1 ++ L2) :: R) (by simp only [stars, star_assoc])
  exact st.plain' Sel.here
/-- the closures of 'use' and 'lose': is it that one? -/
theorem same_spec (f : Nat) (hf : f = 47 ∨ f = 48) (cx p : Nat) (L : Row) (hp : p ∈ L.map Prod.fst) : Asks f [.pointer (some ⟨cx, 0, none⟩)] (star (cl cx [ptrV p]) (ents L)) (L.map Prod.fst) (fun q => decide (q = p)) := by
  intro q hq
  rcases hf with rfl | rfl
  · refine Ctr.of_ent Try.func47 rfl Try.ntmps47 rfl (fun σ R => ?_)
    refine Ent.mem (star_sel Sel.here) ?_
    (repeat (first | refine EntL.qq ?_ | (apply Ent.seq) | (apply Ent.region) | (apply EntL.nil) | (apply EntX.then_normal) | refine EntL.uu ?_ | (refine EntL.nn (fun _ _ => ?_)) | (apply Ent.block) | (apply Ent.exit) | (apply Ent.ret) | (apply Ent.skip) | (apply EntX.then_ret) | (apply EntX.block_ret) | (apply EntX.then_exit) | (apply EntX.block_exit; exact rfl) | (apply EntX.block_exit_other; exact rfl) | (apply EntX.block_normal) | refine EntL.g1 ?_ | refine EntL.g2 ?_ | refine EntL.g3 ?_ | refine Ent.c1 ?_ | refine Ent.c2 ?_))
    refine EntL.q (OpQ.eq_ptr rfl rfl rfl (fun w st => ents_plain hq (st.front (Sel.there Sel.here))) (fun w st => ents_plain hp (st.front (Sel.there Sel.here)))) rfl ?_
    (repeat (first | refine EntL.qq ?_ | (apply Ent.seq) | (apply Ent.region) | (apply EntL.nil) | (apply EntX.then_normal) | refine EntL.uu ?_ | (refine EntL.nn (fun _ _ => ?_)) | (apply Ent.block) | (apply Ent.exit) | (apply Ent.ret) | (apply Ent.skip) | (apply EntX.then_ret) | (apply EntX.block_ret) | (apply EntX.then_exit) | (apply EntX.block_exit; exact rfl) | (apply EntX.block_exit_other; exact rfl) | (apply EntX.block_normal) | refine EntL.g1 ?_ | refine EntL.g2 ?_ | refine EntL.g3 ?_ | refine Ent.c1 ?_ | refine Ent.c2 ?_))
    refine EntX.ret_of (res1 rfl rfl) () trivial (by congr 1; rw [Bool.eq_iff_iff]; simp) (star_shut (by (repeat (first | exact Fits.rfl | exact Fits.nil | exact Sel.here | apply Sel.there | apply Fits.cons | apply Fits.drop))))
  · refine Ctr.of_ent Try.func48 rfl Try.ntmps48 rfl (fun σ R => ?_)
    refine Ent.mem (star_sel Sel.here) ?_
    (repeat (first | refine EntL.qq ?_ | (apply Ent.seq) | (apply Ent.region) | (apply EntL.nil) | (apply EntX.then_normal) | refine EntL.uu ?_ | (refine EntL.nn (fun _ _ => ?_)) | (apply Ent.block) | (apply Ent.exit) | (apply Ent.ret) | (apply Ent.skip) | (apply EntX.then_ret) | (apply EntX.block_ret) | (apply EntX.then_exit) | (apply EntX.block_exit; exact rfl) | (apply EntX.block_exit_other; exact rfl) | (apply EntX.block_normal) | refine EntL.g1 ?_ | refine EntL.g2 ?_ | refine EntL.g3 ?_ | refine Ent.c1 ?_ | refine Ent.c2 ?_))
    refine EntL.q (OpQ.eq_ptr rfl rfl rfl (fun w st => ents_plain hq (st.front (Sel.there Sel.here))) (fun w st => ents_plain hp (st.front (Sel.there Sel.here)))) rfl ?_
    (repeat (first | refine EntL.qq ?_ | (apply Ent.seq) | (apply Ent.region) | (apply EntL.nil) | (apply EntX.then_normal) | refine EntL.uu ?_ | (refine EntL.nn (fun _ _ => ?_)) | (apply Ent.block) | (apply Ent.exit) | (apply Ent.ret) | (apply Ent.skip) | (apply EntX.then_ret) | (apply EntX.block_ret) | (apply EntX.then_exit) | (apply EntX.block_exit; exact rfl) | (apply EntX.block_exit_other; exact rfl) | (apply EntX.block_normal) | refine EntL.g1 ?_ | refine EntL.g2 ?_ | refine EntL.g3 ?_ | refine Ent.c1 ?_ | refine Ent.c2 ?_))
    refine EntX.ret_of (res1 rfl rfl) () trivial (by congr 1; rw [Bool.eq_iff_iff]; simp) (star_shut (by (repeat (first | exact Fits.rfl | exact Fits.nil | exact Sel.here | apply Sel.there | apply Fits.cons | apply Fits.drop))))

theorem use_spec (c p : Nat) (most rv mv : Value) (l : List Nat) (E : Row) (hl : l.length ≤ 2000) (hE : ∀ q ∈ l, q ∈ E.map Prod.fst) (hp : p ∈ E.map Prod.fst) :
    Ctr Try.prog 36 [ptrV c, ptrV p] (fun R => cl c [most, rv, mv] :: own 1 rv l.length (l.map ptrV) :: ents E :: R) (fun rv' : Value => IsSl ((keepIx (fun q => decide (q = p)) l).length + 1) rv') (fun _ => .tuple #[])
      (fun rv' R => cl c [most, rv', mv] :: own 1 rv' ((keepIx (fun q => decide (q = p)) l).length + 1) ((keepIx (fun q => decide (q = p)) l).map ptrV ++ [ptrV p]) :: ents E :: R) := by
  refine Ctr.of_ent Try.func36 rfl Try.ntmps36 rfl (fun σ R => ?_)
  have hk : (keepIx (fun q => decide (q = p)) l).length ≤ l.length := List.length_filter_le _ _
  (repeat (first | refine EntL.qq ?_ | (apply Ent.seq) | (apply Ent.region) | (apply EntL.nil) | (apply EntX.then_normal) | refine EntL.uu ?_ | (refine EntL.nn (fun _ _ => ?_)) | (apply Ent.block) | (apply Ent.exit) | (apply Ent.ret) | (apply Ent.skip) | (apply EntX.then_ret) | (apply EntX.block_ret) | (apply EntX.then_exit) | (apply EntX.block_exit; exact rfl) | (apply EntX.block_exit_other; exact rfl) | (apply EntX.block_normal) | refine EntL.g1 ?_ | refine EntL.g2 ?_ | refine EntL.g3 ?_ | refine Ent.c1 ?_ | refine Ent.c2 ?_))
  rename_i cx _
  refine Ent.draw 12 [cl c [most, rv, mv], cl cx [ptrV p]] mixed ?_
  (first | refine EntD.qa 0 ?_ | refine EntD.pa 0 ?_)
  (first | refine EntD.qa 1 ?_ | refine EntD.pa 1 ?_)
  (first | refine EntD.qa 2 ?_ | refine EntD.pa 2 ?_)
  (first | refine EntD.qa 3 ?_ | refine EntD.pa 3 ?_)
  (first | refine EntD.qa 4 ?_ | refine EntD.pa 4 ?_)
  (first | refine EntD.qa 5 ?_ | refine EntD.pa 5 ?_)
  (first | refine EntD.qa 7 ?_ | refine EntD.pa 7 ?_)
  have hcall := deleteFunc_spec 48 [.pointer (some ⟨cx, 0, none⟩)] (star (cl cx [ptrV p]) (ents E)) rv l (fun q => decide (q = p)) (by omega) (fun q hq => same_spec 48 (.inr rfl) cx p E hp q (hE q hq))
  refine EntD.two 6 8 (by decide +kernel) rfl rfl ?_ ?_
  · refine EntO.mem (star_shut (A := cl cx [ptrV p]) (B := ents E) (R := own 1 rv l.length (l.map ptrV) :: cl c [most, rv, mv] :: R) (by (repeat (first | exact Fits.rfl | exact Fits.nil | exact Sel.here | apply Sel.there | apply Fits.cons | apply Fits.drop)))) ?_
    refine EntO.call (want_none rfl) rfl hcall (R := cl c [most, rv, mv] :: R) (by (repeat (first | exact Vals.nil | (apply Vals.cons; exact rfl)))) (by (repeat (first | exact Fits.rfl | exact Fits.nil | exact Sel.here | apply Sel.there | apply Fits.cons | apply Fits.drop))) (fun v' _ => .inr (mem_trans (star_sel (by (repeat (first | exact Sel.here | apply Sel.there)))) (by exact Fits.keep (by (repeat (first | exact Fits.rfl | exact Fits.nil | exact Sel.here | apply Sel.there | apply Fits.cons | apply Fits.drop)))))) (fun v' _ => ?_)
    refine EntD.mem (star_sel (by (repeat (first | exact Sel.here | apply Sel.there)))) ?_
    refine EntD.one 8 (by decide +kernel) rfl (EntO.to (want_none rfl) rfl (OpTo.buildSlice (sz := 1) (cs := [ptrV p]) (by (repeat (first | exact Parts.nil | (apply Parts.cons; exact rfl)))) rfl rfl inferInstance rfl) (fun _ _ => .inr (by exact Fits.keep (by (repeat (first | exact Fits.rfl | exact Fits.nil | exact Sel.here | apply Sel.there | apply Fits.cons | apply Fits.drop))))) (fun b8 _ => ?_))
    refine EntD.one 9 (by decide +kernel) rfl ?_
    (apply EntO.to; exact want_none rfl; exact rfl; (focus (apply OpTo.append; exact rfl; exact rfl; (first | exact own_sel (by (repeat (first | exact Sel.here | apply Sel.there))) | exact own_none | (apply own_cl; (focus (repeat (first | exact Sel.here | apply Sel.there))); exact rfl)); (first | exact reads_own (by (repeat (first | exact Sel.here | apply Sel.there))) | exact reads_none | (refine reads_blk inferInstance rfl ?_; (focus (first | (simp; done) | omega | (simp; omega))))); exact rfl; exact rfl; (first | exact bv_one _ | (focus (simp [Value.oneCell']; done)) | assumption); (first | (unfold room; omega) | (unfold room; simp; omega)); (first | omega | (simp; omega)))))
    · exact fun _ _ => .inr (by exact Fits.keep (by (repeat (first | exact Fits.rfl | exact Fits.nil | exact Sel.here | apply Sel.there | apply Fits.cons | apply Fits.drop))))
    rintro _ ⟨a2, cap2, rfl⟩
    (refine EntD.one 10 (by decide +kernel) rfl ?_; first | refine EntO.qa ?_ | refine EntO.ue ?_ | refine EntO.ua ?_ | refine EntO.qe ?_ | refine EntO.na (fun _ _ => ?_))
    (refine EntD.one 11 (by decide +kernel) rfl ?_; first | refine EntO.qa ?_ | refine EntO.ue ?_ | refine EntO.ua ?_ | refine EntO.qe ?_ | refine EntO.na (fun _ _ => ?_))
    refine EntD.one 12 (by decide +kernel) rfl (EntO.to (want_none rfl) rfl (OpU.to (OpU.store rfl rfl rfl inferInstance rfl)) (fun _ _ => .inl ⟨rfl, rfl⟩) (fun _ _ => ?_))
    (apply EntD.done; decide +kernel)
    (repeat (first | refine EntL.qq ?_ | (apply Ent.seq) | (apply Ent.region) | (apply EntL.nil) | (apply EntX.then_normal) | refine EntL.uu ?_ | (refine EntL.nn (fun _ _ => ?_)) | (apply Ent.block) | (apply Ent.exit) | (apply Ent.ret) | (apply Ent.skip) | (apply EntX.then_ret) | (apply EntX.block_ret) | (apply EntX.then_exit) | (apply EntX.block_exit; exact rfl) | (apply EntX.block_exit_other; exact rfl) | (apply EntX.block_normal) | refine EntL.g1 ?_ | refine EntL.g2 ?_ | refine EntL.g3 ?_ | refine Ent.c1 ?_ | refine Ent.c2 ?_))
    refine EntX.norm_of (res0 rfl) _ ⟨_, _, rfl⟩ rfl (by exact Fits.keep (by (repeat (first | exact Fits.rfl | exact Fits.nil | exact Sel.here | apply Sel.there | apply Fits.cons | apply Fits.drop))))
  · refine EntO.to (want_none rfl) rfl (OpTo.buildSlice (sz := 1) (cs := [ptrV p]) (by (repeat (first | exact Parts.nil | (apply Parts.cons; exact rfl)))) rfl rfl inferInstance rfl) (fun _ _ => .inr (by exact Fits.keep (by (repeat (first | exact Fits.rfl | exact Fits.nil | exact Sel.here | apply Sel.there | apply Fits.cons | apply Fits.drop))))) (fun b8 _ => ?_)
    refine EntD.mem (star_shut (A := cl cx [ptrV p]) (B := ents E) (R := own 1 rv l.length (l.map ptrV) :: cl c [most, rv, mv] :: cl b8 [ptrV p] :: R) (by (repeat (first | exact Fits.rfl | exact Fits.nil | exact Sel.here | apply Sel.there | apply Fits.cons | apply Fits.drop)))) ?_
    refine EntD.one 6 (by decide +kernel) rfl (EntO.call (want_none rfl) rfl hcall (R := cl c [most, rv, mv] :: cl b8 [ptrV p] :: R) (by (repeat (first | exact Vals.nil | (apply Vals.cons; exact rfl)))) (by (repeat (first | exact Fits.rfl | exact Fits.nil | exact Sel.here | apply Sel.there | apply Fits.cons | apply Fits.drop))) (fun v' _ => .inr (mem_trans (star_sel (by (repeat (first | exact Sel.here | apply Sel.there)))) (by exact Fits.keep (by (repeat (first | exact Fits.rfl | exact Fits.nil | exact Sel.here | apply Sel.there | apply Fits.cons | apply Fits.drop)))))) (fun v' _ => ?_))
    refine EntD.mem (star_sel (by (repeat (first | exact Sel.here | apply Sel.there)))) ?_
    refine EntD.one 9 (by decide +kernel) rfl ?_
    (apply EntO.to; exact want_none rfl; exact rfl; (focus (apply OpTo.append; exact rfl; exact rfl; (first | exact own_sel (by (repeat (first | exact Sel.here | apply Sel.there))) | exact own_none | (apply own_cl; (focus (repeat (first | exact Sel.here | apply Sel.there))); exact rfl)); (first | exact reads_own (by (repeat (first | exact Sel.here | apply Sel.there))) | exact reads_none | (refine reads_blk inferInstance rfl ?_; (focus (first | (simp; done) | omega | (simp; omega))))); exact rfl; exact rfl; (first | exact bv_one _ | (focus (simp [Value.oneCell']; done)) | assumption); (first | (unfold room; omega) | (unfold room; simp; omega)); (first | omega | (simp; omega)))))
    · exact fun _ _ => .inr (by exact Fits.keep (by (repeat (first | exact Fits.rfl | exact Fits.nil | exact Sel.here | apply Sel.there | apply Fits.cons | apply Fits.drop))))
    rintro _ ⟨a2, cap2, rfl⟩
    (refine EntD.one 10 (by decide +kernel) rfl ?_; first | refine EntO.qa ?_ | refine EntO.ue ?_ | refine EntO.ua ?_ | refine EntO.qe ?_ | refine EntO.na (fun _ _ => ?_))
    (refine EntD.one 11 (by decide +kernel) rfl ?_; first | refine EntO.qa ?_ | refine EntO.ue ?_ | refine EntO.ua ?_ | refine EntO.qe ?_ | refine EntO.na (fun _ _ => ?_))
    refine EntD.one 12 (by decide +kernel) rfl (EntO.to (want_none rfl) rfl (OpU.to (OpU.store rfl rfl rfl inferInstance rfl)) (fun _ _ => .inl ⟨rfl, rfl⟩) (fun _ _ => ?_))
    (apply EntD.done; decide +kernel)
    (repeat (first | refine EntL.qq ?_ | (apply Ent.seq) | (apply Ent.region) | (apply EntL.nil) | (apply EntX.then_normal) | refine EntL.uu ?_ | (refine EntL.nn (fun _ _ => ?_)) | (apply Ent.block) | (apply Ent.exit) | (apply Ent.ret) | (apply Ent.skip) | (apply EntX.then_ret) | (apply EntX.block_ret) | (apply EntX.then_exit) | (apply EntX.block_exit; exact rfl) | (apply EntX.block_exit_other; exact rfl) | (apply EntX.block_normal) | refine EntL.g1 ?_ | refine EntL.g2 ?_ | refine EntL.g3 ?_ | refine Ent.c1 ?_ | refine Ent.c2 ?_))
    refine EntX.norm_of (res0 rfl) _ ⟨_, _, rfl⟩ rfl (by exact Fits.keep (by (repeat (first | exact Fits.rfl | exact Fits.nil | exact Sel.here | apply Sel.there | apply Fits.cons | apply Fits.drop))))
end Go.Proofs.Ythlbimdlpadhdaa
