/- The reference's cache: use, bad, room; what it holds as one chunk. -/
import Derived.Test.YthlbimdlpadhdaaD1
namespace Go.Proofs.Ythlbimdlpadhdaa
open Go Go.Sl

theorem useR_spec (c p : Nat) (most rv : Value) (l : List Nat) (E : Row) (hl : l.length ≤ 2000) (hE : ∀ q ∈ l, q ∈ E.map Prod.fst) (hp : p ∈ E.map Prod.fst) :
    Ctr Try.prog 39 [ptrV c, ptrV p] (fun R => cl c [most, rv] :: own 1 rv l.length (l.map ptrV) :: entsR E :: R) (fun rv' : Value => IsSl ((keepIx (fun q => decide (q = p)) l).length + 1) rv') (fun _ => .tuple #[])
      (fun rv' R => cl c [most, rv'] :: own 1 rv' ((keepIx (fun q => decide (q = p)) l).length + 1) ((keepIx (fun q => decide (q = p)) l).map ptrV ++ [ptrV p]) :: entsR E :: R) := by
  refine Ctr.of_ent Try.func39 rfl Try.ntmps39 rfl (fun σ R => ?_)
  have hk : (keepIx (fun q => decide (q = p)) l).length ≤ l.length := List.length_filter_le _ _
  (repeat (first | refine EntL.qx ?_ | (apply Ent.seq) | (apply Ent.region) | (apply EntL.nil) | (apply EntX.then_normal) | refine EntL.ux ?_ | (refine EntL.nn (fun _ _ => ?_)) | (apply Ent.block) | (apply Ent.exit) | (apply Ent.ret) | (apply Ent.skip) | (apply EntX.then_ret) | (apply EntX.block_ret) | (apply EntX.then_exit) | (apply EntX.block_exit; exact rfl) | (apply EntX.block_exit_other; exact rfl) | (apply EntX.block_normal) | refine EntL.g1x ?_ | refine EntL.g2x ?_ | refine EntL.g3 ?_ | refine Ent.c1x ?_ | refine Ent.c2x ?_))
  refine EntL.call (gone_spec c p most rv l E hl hE hp) rfl (by (repeat (first | exact Fits.rfl | exact Fits.nil | exact Sel.here | apply Sel.there | apply Fits.cons | apply Fits.drop))) rfl ?_
  rintro _ ⟨va, vc, rfl⟩
  (repeat (first | refine EntL.qx ?_ | (apply Ent.seq) | (apply Ent.region) | (apply EntL.nil) | (apply EntX.then_normal) | refine EntL.ux ?_ | (refine EntL.nn (fun _ _ => ?_)) | (apply Ent.block) | (apply Ent.exit) | (apply Ent.ret) | (apply Ent.skip) | (apply EntX.then_ret) | (apply EntX.block_ret) | (apply EntX.then_exit) | (apply EntX.block_exit; exact rfl) | (apply EntX.block_exit_other; exact rfl) | (apply EntX.block_normal) | refine EntL.g1x ?_ | refine EntL.g2x ?_ | refine EntL.g3 ?_ | refine Ent.c1x ?_ | refine Ent.c2x ?_))
  (apply EntL.new; (focus (apply OpTo.append; exact rfl; exact rfl; (first | exact own_sel (by (repeat (first | exact Sel.here | apply Sel.there))) | exact own_none | (apply own_cl; (focus (repeat (first | exact Sel.here | apply Sel.there))); exact rfl)); (first | exact reads_own (by (repeat (first | exact Sel.here | apply Sel.there))) | exact reads_none | (refine reads_blk inferInstance rfl ?_; (focus (first | (simp; done) | omega | (simp; omega))))); exact rfl; exact rfl; (first | exact bv_one _ | (focus (simp [Value.oneCell']; done)) | assumption); (first | (unfold room; omega) | (unfold room; simp; omega)); (first | omega | (simp; omega)))); exact rfl)
  rintro _ ⟨a', c', rfl⟩
  (repeat (first | refine EntL.qx ?_ | (apply Ent.seq) | (apply Ent.region) | (apply EntL.nil) | (apply EntX.then_normal) | refine EntL.ux ?_ | (refine EntL.nn (fun _ _ => ?_)) | (apply Ent.block) | (apply Ent.exit) | (apply Ent.ret) | (apply Ent.skip) | (apply EntX.then_ret) | (apply EntX.block_ret) | (apply EntX.then_exit) | (apply EntX.block_exit; exact rfl) | (apply EntX.block_exit_other; exact rfl) | (apply EntX.block_normal) | refine EntL.g1x ?_ | refine EntL.g2x ?_ | refine EntL.g3 ?_ | refine Ent.c1x ?_ | refine Ent.c2x ?_))
  refine EntX.norm_of (res0 rfl) _ ⟨_, _, rfl⟩ rfl (by exact Fits.keep (by (repeat (first | exact Fits.rfl | exact Fits.nil | exact Sel.here | apply Sel.there | apply Fits.cons | apply Fits.drop))))
theorem badR_spec (b : Int) (v : Value) (m : Nat) (hv : IsSl m v) :
    Ctr Try.prog 40 [.int .i64 b, v] (fun R => R) (fun _ : Unit => True) (fun _ => .int .i64 (if b < 0 then 1 else if m = 512 then 0 else 14)) (fun _ R => R) := by
  refine Ctr.of_ent Try.func40 rfl Try.ntmps40 rfl (fun σ R => ?_)
  obtain ⟨a, cap, rfl⟩ := hv
  by_cases h1 : b < 0
  · (repeat (first | refine EntL.qx ?_ | (apply Ent.seq) | (apply Ent.region) | (apply EntL.nil) | (apply EntX.then_normal) | refine EntL.ux ?_ | (refine EntL.nn (fun _ _ => ?_)) | (apply Ent.block) | (apply Ent.exit) | (apply Ent.ret) | (apply Ent.skip) | (apply EntX.then_ret) | (apply EntX.block_ret) | (apply EntX.then_exit) | (apply EntX.block_exit; exact rfl) | (apply EntX.block_exit_other; exact rfl) | (apply EntX.block_normal) | refine EntL.g1x ?_ | refine EntL.g2x ?_ | refine EntL.g3 ?_ | refine Ent.c1x ?_ | refine Ent.c2x ?_))
    refine EntX.ret_of (res1 rfl rfl) () trivial (by simp [h1]) (by exact Fits.keep (by (repeat (first | exact Fits.rfl | exact Fits.nil | exact Sel.here | apply Sel.there | apply Fits.cons | apply Fits.drop))))
  · by_cases hm : m = 512
    · subst hm
      (repeat (first | refine EntL.qx ?_ | (apply Ent.seq) | (apply Ent.region) | (apply EntL.nil) | (apply EntX.then_normal) | refine EntL.ux ?_ | (refine EntL.nn (fun _ _ => ?_)) | (apply Ent.block) | (apply Ent.exit) | (apply Ent.ret) | (apply Ent.skip) | (apply EntX.then_ret) | (apply EntX.block_ret) | (apply EntX.then_exit) | (apply EntX.block_exit; exact rfl) | (apply EntX.block_exit_other; exact rfl) | (apply EntX.block_normal) | refine EntL.g1x ?_ | refine EntL.g2x ?_ | refine EntL.g3 ?_ | refine Ent.c1x ?_ | refine Ent.c2x ?_))
      refine EntX.ret_of (res1 rfl rfl) () trivial (by simp [h1]) (by exact Fits.keep (by (repeat (first | exact Fits.rfl | exact Fits.nil | exact Sel.here | apply Sel.there | apply Fits.cons | apply Fits.drop))))
    · have hb2 : decide ((m : Int) ≠ 512) = true := by simp; omega
      have hb3 : (!decide ((m : Int) = 512)) = true := by simp; omega
      (repeat (first | refine EntL.qx ?_ | (apply Ent.seq) | (apply Ent.region) | (apply EntL.nil) | (apply EntX.then_normal) | refine EntL.ux ?_ | (refine EntL.nn (fun _ _ => ?_)) | (apply Ent.block) | (apply Ent.exit) | (apply Ent.ret) | (apply Ent.skip) | (apply EntX.then_ret) | (apply EntX.block_ret) | (apply EntX.then_exit) | (apply EntX.block_exit; exact rfl) | (apply EntX.block_exit_other; exact rfl) | (apply EntX.block_normal) | refine EntL.g1x ?_ | refine EntL.g2x ?_ | refine EntL.g3 ?_ | refine Ent.c1x ?_ | refine Ent.c2x ?_))
      refine EntX.ret_of (res1 rfl rfl) () trivial (by simp [h1, hm]) (by exact Fits.keep (by (repeat (first | exact Fits.rfl | exact Fits.nil | exact Sel.here | apply Sel.there | apply Fits.cons | apply Fits.drop))))

structure GoodR (L : Row) : Prop where
  ptrs : (L.map Prod.fst).Nodup
  nums : (L.map (·.2.n)).Nodup
theorem GoodR.nil : GoodR [] := ⟨by simp, by simp⟩
theorem GoodR.perm {L L' : Row} (h : GoodR L) (hp : L.Perm L') : GoodR L' := ⟨(hp.map _).nodup_iff.1 h.ptrs, (hp.map _).nodup_iff.1 h.nums⟩
theorem GoodR.mid_keep {L1 L2 : Row} {p : Nat} {a : Ab} (h : GoodR (L1 ++ (p, a) :: L2)) : keepIx (fun q => decide (q = p)) ((L1 ++ (p, a) :: L2).map Prod.fst) = (L1 ++ L2).map Prod.fst := by
  have hj : L1.length < (L1 ++ (p, a) :: L2).length := by simp
  have := eraseIdx_keep h.ptrs hj
  simpa [List.eraseIdx_append] using this
theorem GoodR.sub {L L' : Row} (h : GoodR L) (hs : List.Sublist L' L) : GoodR L' := ⟨h.ptrs.sublist (hs.map _), h.nums.sublist (hs.map _)⟩
theorem GoodR.mid_del {L1 L2 : Row} {p : Nat} {a : Ab} (h : GoodR (L1 ++ (p, a) :: L2)) : GoodR (L1 ++ L2) :=
  h.sub (List.Sublist.append (List.Sublist.refl L1) (List.sublist_cons_self _ L2))
theorem GoodR.mid_move {L1 L2 : Row} {p : Nat} {a : Ab} (h : GoodR (L1 ++ (p, a) :: L2)) : GoodR (L1 ++ L2 ++ [(p, a)]) :=
  h.perm ((mid_perm L1 L2 (p, a)).trans (List.perm_append_comm (l₁ := [(p, a)])))
theorem GoodR.push {L : Row} (h : GoodR L) {p : Nat} {a : Ab} (hp : p ∉ L.map Prod.fst) (hn : ∀ e ∈ L, e.2.n ≠ a.n) : GoodR (L ++ [(p, a)]) := by
  refine ⟨?_, ?_⟩
  · rw [List.map_append, List.nodup_append]
    exact ⟨h.ptrs, by simp, fun x hx y hy => by simp at hy; subst hy; exact fun e => hp (e ▸ hx)⟩
  · rw [List.map_append, List.nodup_append]
    refine ⟨h.nums, by simp, fun x hx y hy => ?_⟩
    simp at hy; subst hy
    obtain ⟨e, he, rfl⟩ := List.mem_map.1 hx
    exact hn e he
theorem GoodR.turn {L1 L2 : Row} {p : Nat} {a a' : Ab} (h : GoodR (L1 ++ (p, a) :: L2)) (ha : a'.n = a.n) : GoodR (L1 ++ (p, a') :: L2) :=
  ⟨by simpa using h.ptrs, by have := h.nums; simp only [List.map_append, List.map_cons] at this ⊢; rw [ha]; exact this⟩
theorem GoodR.numsA {L : Row} {A : List Ab} (h : GoodR L) (hA : L.map Prod.snd = A) : (numsOf A).Nodup := by
  have := h.nums
  rw [← hA]
  simpa [numsOf, Function.comp_def] using this

/-- the reference's cache: at most so many blocks, which holds these -/
def RC (c : Nat) (most : Int) (A : List Ab) : HP := ex fun (x : Row × Value) => star (pr (x.1.map Prod.snd = A ∧ GoodR x.1))
  (star (cl c [.int .i64 most, x.2]) (star (own 1 x.2 (x.1.map Prod.fst).length ((x.1.map Prod.fst).map ptrV)) (entsR x.1)))
section
variable {σ : Sig} {H R : List HP} {c : Nat} {most : Int} {A : List Ab}
theorem St.openRC (s : Sel (RC c most A) H R) : ∀ w, St σ H w → ∃ x : Row × Value, (x.1.map Prod.snd = A ∧ GoodR x.1) ∧
    St σ (cl c [.int .i64 most, x.2] :: own 1 x.2 (x.1.map Prod.fst).length ((x.1.map Prod.fst).map ptrV) :: entsR x.1 :: R) w := fun w st => by
  obtain ⟨x, st⟩ := St.open (A := fun (x : Row × Value) => star (pr (x.1.map Prod.snd = A ∧ GoodR x.1))
    (star (cl c [.int .i64 most, x.2]) (star (own 1 x.2 (x.1.map Prod.fst).length ((x.1.map Prod.fst).map ptrV)) (entsR x.1)))) s st
  have st := st.of_eq (H' := pr (x.1.map Prod.snd = A ∧ GoodR x.1) :: cl c [.int .i64 most, x.2] :: own 1 x.2 (x.1.map Prod.fst).length ((x.1.map Prod.fst).map ptrV) :: entsR x.1 :: R) (by simp only [stars, star_assoc])
  obtain ⟨h, st⟩ := st.pure Sel.here
  exact ⟨x, h, st⟩
theorem mmRC {E : List HP → Prop} [m : Mono σ E] (s : Sel (RC c most A) H R)
    (h : ∀ L rv, L.map Prod.snd = A → GoodR L → E (cl c [.int .i64 most, rv] :: own 1 rv (L.map Prod.fst).length ((L.map Prod.fst).map ptrV) :: entsR L :: R)) : E H := mmEx (St.openRC s) (fun x hx => h x.1 x.2 hx.1 hx.2)
theorem shutRC {L : Row} {rv : Value} {m : Nat} {cs : List Value} (hA : L.map Prod.snd = A) (hg : GoodR L) (hn : m = (L.map Prod.fst).length) (hc : cs = (L.map Prod.fst).map ptrV) (f : Fits (cl c [.int .i64 most, rv] :: own 1 rv m cs :: entsR L :: R) H) : ∀ w, St σ H w → St σ (RC c most A :: R) w := fun w st => by
  subst hn; subst hc
  have st := (f.st st).lay (p := L.map Prod.snd = A ∧ GoodR L) ⟨hA, hg⟩
  have st := st.of_eq (H' := star (pr (L.map Prod.snd = A ∧ GoodR L)) (star (cl c [.int .i64 most, rv]) (star (own 1 rv (L.map Prod.fst).length ((L.map Prod.fst).map ptrV)) (entsR L))) :: R) (by simp only [stars, star_assoc])
  exact St.exI (A := fun (x : Row × Value) => star (pr (x.1.map Prod.snd = A ∧ GoodR x.1))
    (star (cl c [.int .i64 most, x.2]) (star (own 1 x.2 (x.1.map Prod.fst).length ((x.1.map Prod.fst).map ptrV)) (entsR x.1)))) (L, rv) st
theorem shutRC' {L : Row} {rv : Value} {m : Nat} {cs : List Value} (f : Fits (cl c [.int .i64 most, rv] :: own 1 rv m cs :: entsR L :: R) H) (hn : m = (L.map Prod.fst).length) (hc : cs = (L.map Prod.fst).map ptrV) (hA : L.map Prod.snd = A) (hg : GoodR L) : ∀ w, St σ H w → St σ (RC c most A :: R) w := shutRC hA hg hn hc f
theorem entsR_intro : ∀ w, St σ H w → St σ (entsR [] :: H) w := fun _ st => st.of_eq (by simp only [entsR, List.map_nil, stars, emp_star])
theorem entsR_drop {L1 L2 : Row} {p : Nat} {a : Ab} (f : Fits (entsR (L1 ++ (p, a) :: L2) :: R) H) : ∀ w, St σ H w → St σ (entsR (L1 ++ L2) :: R) w := fun w st => by
  have st := (f.st st).of_eq (H' := entR p a :: entsR (L1 ++ L2) :: R) (by simp only [stars, entsR_mid, star_assoc])
  exact (show Fits (entsR (L1 ++ L2) :: R) (entR p a :: entsR (L1 ++ L2) :: R) by (repeat (first | exact Fits.rfl | exact Fits.nil | exact Sel.here | apply Sel.there | apply Fits.cons | apply Fits.drop))).st st
theorem entsR_fresh {L : Row} {R' : List HP} {w : World} {q : Nat} {cs : List Value} (s : Sel (cl q cs) H R) (s' : Sel (entsR L) R R') (st : St σ H w) : q ∉ L.map Prod.fst := fun hq => by
  obtain ⟨L1, a, L2, rfl⟩ := row_split hq
  obtain ⟨dv, _, st⟩ := St.openEntR (E1 := L1) (E2 := L2) (p := q) (a := a) (Sel.there s') w (st.front s)
  exact St.ne_cl Sel.here (Sel.there (Sel.there Sel.here)) st rfl
end
theorem foundR_miss {b : Int} {L : Row} (h : ∀ e ∈ L, e.2.n ≠ b) : foundR b L = .pointer none := by
  have : L.find? (fun e => decide (e.2.n = b)) = none := by simpa using h
  simp [foundR, this]
theorem foundR_hit {b : Int} {L1 L2 : Row} {p : Nat} {a : Ab} (h1 : a.n = b) (h2 : ∀ x ∈ L1.map Prod.snd, x.n ≠ b) : foundR b (L1 ++ (p, a) :: L2) = ptrV p := by
  have : L1.find? (fun e => decide (e.2.n = b)) = none := List.find?_eq_none.2 (fun e he => by simpa using h2 e.2 (List.mem_map_of_mem he))
  simp [foundR, List.find?_append, this, h1]

set_option maxHeartbeats 1000000 in
theorem roomR_spec (c : Nat) (most : Int) (A : List Ab) (hl : A.length ≤ 1500) : Ctr Try.prog 41 [ptrV c] (fun R => RC c most A :: R) (fun _ : Unit => True)
    (fun _ => .int .i64 (if (roomA most A).isSome then 0 else 7)) (fun _ R => RC c most ((roomA most A).getD A) :: R) := by
  refine Ctr.of_ent Try.func41 rfl Try.ntmps41 rfl (fun σ R => ?_)
  refine mmRC (by (repeat (first | exact Sel.here | apply Sel.there))) (fun L rv hA hg => ?_)
  have hlen : (L.map Prod.fst).length = A.length := by rw [← hA]; simp
  have hlen' : L.length = A.length := by rw [← hA]; simp
  refine mmOwnA (by (repeat (first | exact Sel.here | apply Sel.there))) (fun ra rc hv _ _ hp => ?_)
  subst hv
  (repeat (first | refine EntL.qx ?_ | (apply Ent.seq) | (apply Ent.region) | (apply EntL.nil) | (apply EntX.then_normal) | refine EntL.ux ?_ | (refine EntL.nn (fun _ _ => ?_)) | (apply Ent.block) | (apply Ent.exit) | (apply Ent.ret) | (apply Ent.skip) | (apply EntX.then_ret) | (apply EntX.block_ret) | (apply EntX.then_exit) | (apply EntX.block_exit; exact rfl) | (apply EntX.block_exit_other; exact rfl) | (apply EntX.block_normal) | refine EntL.g1x ?_ | refine EntL.g2x ?_ | refine EntL.g3 ?_ | refine Ent.c1x ?_ | refine Ent.c2x ?_))
  refine Ent.draw 10 [cl c [.int .i64 most, .slice ra (L.map Prod.fst).length rc]] mixed ?_
  ((first | refine EntD.qx 0 ?_ | refine EntD.px 0 ?_); (first | refine EntD.qx 1 ?_ | refine EntD.px 1 ?_); (first | refine EntD.qx 2 ?_ | refine EntD.px 2 ?_); (first | refine EntD.qx 3 ?_ | refine EntD.px 3 ?_); (first | refine EntD.qx 4 ?_ | refine EntD.px 4 ?_); (first | refine EntD.qx 5 ?_ | refine EntD.px 5 ?_); (first | refine EntD.qx 6 ?_ | refine EntD.px 6 ?_); (first | refine EntD.qx 7 ?_ | refine EntD.px 7 ?_); (first | refine EntD.qx 8 ?_ | refine EntD.px 8 ?_); (first | refine EntD.qx 9 ?_ | refine EntD.px 9 ?_))
  (apply EntD.done; decide +kernel)
  by_cases h1 : (A.length : Int) < most
  · (repeat (first | refine EntL.qx ?_ | (apply Ent.seq) | (apply Ent.region) | (apply EntL.nil) | (apply EntX.then_normal) | refine EntL.ux ?_ | (refine EntL.nn (fun _ _ => ?_)) | (apply Ent.block) | (apply Ent.exit) | (apply Ent.ret) | (apply Ent.skip) | (apply EntX.then_ret) | (apply EntX.block_ret) | (apply EntX.then_exit) | (apply EntX.block_exit; exact rfl) | (apply EntX.block_exit_other; exact rfl) | (apply EntX.block_normal) | refine EntL.g1x ?_ | refine EntL.g2x ?_ | refine EntL.g3 ?_ | refine Ent.c1x ?_ | refine Ent.c2x ?_))
    have hr : roomA most A = some A := by simp [roomA, h1]
    refine EntX.ret_of (res1 rfl rfl) () trivial (by rw [hr]; rfl) (by rw [hr]; exact shutRC hA hg rfl rfl (by (repeat (first | exact Fits.rfl | exact Fits.nil | exact Sel.here | apply Sel.there | apply Fits.cons | apply Fits.drop))))
  · (repeat (first | refine EntL.qx ?_ | (apply Ent.seq) | (apply Ent.region) | (apply EntL.nil) | (apply EntX.then_normal) | refine EntL.ux ?_ | (refine EntL.nn (fun _ _ => ?_)) | (apply Ent.block) | (apply Ent.exit) | (apply Ent.ret) | (apply Ent.skip) | (apply EntX.then_ret) | (apply EntX.block_ret) | (apply EntX.then_exit) | (apply EntX.block_exit; exact rfl) | (apply EntX.block_exit_other; exact rfl) | (apply EntX.block_normal) | refine EntL.g1x ?_ | refine EntL.g2x ?_ | refine EntL.g3 ?_ | refine Ent.c1x ?_ | refine Ent.c2x ?_))
    refine Ent.loop (α := Nat) (fun i => [(0, ptrV c), (3, .int .i64 i)])
      (fun _ => cl c [.int .i64 most, .slice ra (L.map Prod.fst).length rc] :: own 1 (.slice ra (L.map Prod.fst).length rc) (L.map Prod.fst).length ((L.map Prod.fst).map ptrV) :: entsR L :: R)
      (fun i => i ≤ firstIx Ab.free A) (fun i => A.length - i) 0 (Nat.zero_le _) (by repeat (first | exact EnvSub.nil | refine EnvSub.cons rfl ?_)) (fun _ h => h) (fun i hi => ?_)
    have hle := firstIx_le Ab.free A
    by_cases hil : i < A.length
    · have hfi := firstIx_get Ab.free A i hi hil
      obtain ⟨bb, rfl⟩ := hp (by omega)
      obtain ⟨L1, p, a, L2, rfl, rfl⟩ := row_at' (L := L) (i := i) (by omega)
      have hget := ptr_mid (L1 := L1) (L2 := L2) (p := p) (a := a)
      have hai : A[L1.length]'hil = a := by
        have : A = L1.map Prod.snd ++ a :: L2.map Prod.snd := by rw [← hA]; simp
        subst this; simp
      rw [hai] at hfi
      (repeat (first | refine EntL.qx ?_ | (apply Ent.seq) | (apply Ent.region) | (apply EntL.nil) | (apply EntX.then_normal) | refine EntL.ux ?_ | (refine EntL.nn (fun _ _ => ?_)) | (apply Ent.block) | (apply Ent.exit) | (apply Ent.ret) | (apply Ent.skip) | (apply EntX.then_ret) | (apply EntX.block_ret) | (apply EntX.then_exit) | (apply EntX.block_exit; exact rfl) | (apply EntX.block_exit_other; exact rfl) | (apply EntX.block_normal) | refine EntL.g1x ?_ | refine EntL.g2x ?_ | refine EntL.g3 ?_ | refine Ent.c1x ?_ | refine Ent.c2x ?_))
      refine mmEntR (E1 := L1) (E2 := L2) (by (repeat (first | exact Sel.here | apply Sel.there))) (fun dv => ?_)
      cases hf : a.free
      · cases hd : a.dirty
        · have hpn : a.pins ≠ 0 := by simpa [Ab.free, hd] using hf
          (repeat (first | refine EntL.qx ?_ | (apply Ent.seq) | (apply Ent.region) | (apply EntL.nil) | (apply EntX.then_normal) | refine EntL.ux ?_ | (refine EntL.nn (fun _ _ => ?_)) | (apply Ent.block) | (apply Ent.exit) | (apply Ent.ret) | (apply Ent.skip) | (apply EntX.then_ret) | (apply EntX.block_ret) | (apply EntX.then_exit) | (apply EntX.block_exit; exact rfl) | (apply EntX.block_exit_other; exact rfl) | (apply EntX.block_normal) | refine EntL.g1x ?_ | refine EntL.g2x ?_ | refine EntL.g3 ?_ | refine Ent.c1x ?_ | refine Ent.c2x ?_))
          exact EntX.round_end (L1.length + 1) (hfi.2 hf) (by omega) (by repeat (first | exact EnvSub.nil | refine EnvSub.cons rfl ?_)) (mem_trans (shutEntR (E1 := L1) (E2 := L2) (p := p) (a := a) (dv := dv) (by rw [hd]; (repeat (first | exact Fits.rfl | exact Fits.nil | exact Sel.here | apply Sel.there | apply Fits.cons | apply Fits.drop)))) (by exact Fits.keep (by (repeat (first | exact Fits.rfl | exact Fits.nil | exact Sel.here | apply Sel.there | apply Fits.cons | apply Fits.drop)))))
        · (repeat (first | refine EntL.qx ?_ | (apply Ent.seq) | (apply Ent.region) | (apply EntL.nil) | (apply EntX.then_normal) | refine EntL.ux ?_ | (refine EntL.nn (fun _ _ => ?_)) | (apply Ent.block) | (apply Ent.exit) | (apply Ent.ret) | (apply Ent.skip) | (apply EntX.then_ret) | (apply EntX.block_ret) | (apply EntX.then_exit) | (apply EntX.block_exit; exact rfl) | (apply EntX.block_exit_other; exact rfl) | (apply EntX.block_normal) | refine EntL.g1x ?_ | refine EntL.g2x ?_ | refine EntL.g3 ?_ | refine Ent.c1x ?_ | refine Ent.c2x ?_))
          exact EntX.round_end (L1.length + 1) (hfi.2 hf) (by omega) (by repeat (first | exact EnvSub.nil | refine EnvSub.cons rfl ?_)) (mem_trans (shutEntR (E1 := L1) (E2 := L2) (p := p) (a := a) (dv := dv) (by rw [hd]; (repeat (first | exact Fits.rfl | exact Fits.nil | exact Sel.here | apply Sel.there | apply Fits.cons | apply Fits.drop)))) (by exact Fits.keep (by (repeat (first | exact Fits.rfl | exact Fits.nil | exact Sel.here | apply Sel.there | apply Fits.cons | apply Fits.drop)))))
      · have hd : a.dirty = false ∧ a.pins = 0 := by simpa [Ab.free] using hf
        rw [hd.1]
        have hpn := hd.2
        have hr : roomA most A = some ((L1 ++ L2).map Prod.snd) := by
          have hix := hfi.1 hf
          have : A = L1.map Prod.snd ++ a :: L2.map Prod.snd := by rw [← hA]; simp
          simp only [roomA, h1, if_false, hix, hil, if_true]
          rw [this, show L1.length = (L1.map Prod.snd).length by simp, List.eraseIdx_append_of_length_le (Nat.le_refl _)]
          simp
        (repeat (first | refine EntL.qx ?_ | (apply Ent.seq) | (apply Ent.region) | (apply EntL.nil) | (apply EntX.then_normal) | refine EntL.ux ?_ | (refine EntL.nn (fun _ _ => ?_)) | (apply Ent.block) | (apply Ent.exit) | (apply Ent.ret) | (apply Ent.skip) | (apply EntX.then_ret) | (apply EntX.block_ret) | (apply EntX.then_exit) | (apply EntX.block_exit; exact rfl) | (apply EntX.block_exit_other; exact rfl) | (apply EntX.block_normal) | refine EntL.g1x ?_ | refine EntL.g2x ?_ | refine EntL.g3 ?_ | refine Ent.c1x ?_ | refine Ent.c2x ?_))
        refine mm (shutEntR (E1 := L1) (E2 := L2) (p := p) (a := a) (dv := dv) (by rw [hd.1]; (repeat (first | exact Fits.rfl | exact Fits.nil | exact Sel.here | apply Sel.there | apply Fits.cons | apply Fits.drop)))) ?_
        refine EntL.call (gone_spec c p (.int .i64 most) _ ((L1 ++ (p, a) :: L2).map Prod.fst) (L1 ++ (p, a) :: L2) (by omega) (fun q hq => hq) (by simp)) rfl (by (repeat (first | exact Fits.rfl | exact Fits.nil | exact Sel.here | apply Sel.there | apply Fits.cons | apply Fits.drop))) rfl ?_
        rintro _ ⟨va, vc, rfl⟩
        rw [hg.mid_keep]
        (repeat (first | refine EntL.qx ?_ | (apply Ent.seq) | (apply Ent.region) | (apply EntL.nil) | (apply EntX.then_normal) | refine EntL.ux ?_ | (refine EntL.nn (fun _ _ => ?_)) | (apply Ent.block) | (apply Ent.exit) | (apply Ent.ret) | (apply Ent.skip) | (apply EntX.then_ret) | (apply EntX.block_ret) | (apply EntX.then_exit) | (apply EntX.block_exit; exact rfl) | (apply EntX.block_exit_other; exact rfl) | (apply EntX.block_normal) | refine EntL.g1x ?_ | refine EntL.g2x ?_ | refine EntL.g3 ?_ | refine Ent.c1x ?_ | refine Ent.c2x ?_))
        refine EntX.mem (entsR_drop (L1 := L1) (L2 := L2) (p := p) (a := a) (by (repeat (first | exact Fits.rfl | exact Fits.nil | exact Sel.here | apply Sel.there | apply Fits.cons | apply Fits.drop)))) ?_
        refine EntX.ret_of (res1 rfl rfl) () trivial (by rw [hr]; rfl) (by rw [hr]; exact shutRC (L := L1 ++ L2) rfl hg.mid_del rfl rfl (by (repeat (first | exact Fits.rfl | exact Fits.nil | exact Sel.here | apply Sel.there | apply Fits.cons | apply Fits.drop))))
    · have hr : roomA most A = none := by simp [roomA, h1]; omega
      (repeat (first | refine EntL.qx ?_ | (apply Ent.seq) | (apply Ent.region) | (apply EntL.nil) | (apply EntX.then_normal) | refine EntL.ux ?_ | (refine EntL.nn (fun _ _ => ?_)) | (apply Ent.block) | (apply Ent.exit) | (apply Ent.ret) | (apply Ent.skip) | (apply EntX.then_ret) | (apply EntX.block_ret) | (apply EntX.then_exit) | (apply EntX.block_exit; exact rfl) | (apply EntX.block_exit_other; exact rfl) | (apply EntX.block_normal) | refine EntL.g1x ?_ | refine EntL.g2x ?_ | refine EntL.g3 ?_ | refine Ent.c1x ?_ | refine Ent.c2x ?_))
      refine EntX.ret_of (res1 rfl rfl) () trivial (by rw [hr]; rfl) (by rw [hr]; exact shutRC hA hg rfl rfl (by (repeat (first | exact Fits.rfl | exact Fits.nil | exact Sel.here | apply Sel.there | apply Fits.cons | apply Fits.drop))))
end Go.Proofs.Ythlbimdlpadhdaa
