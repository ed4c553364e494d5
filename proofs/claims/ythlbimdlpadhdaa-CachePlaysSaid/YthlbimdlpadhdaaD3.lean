/- The reference's cache: New, Get, Fill, Put, Pin, Unpin, Clean, Drop, Held. -/
import Derived.Test.YthlbimdlpadhdaaD2
namespace Go.Proofs.Ythlbimdlpadhdaa
open Go Go.Sl

theorem newR_spec (n : Int) (h1 : 1 ≤ n) (h2 : n ≤ 1024) : Ctr Try.prog 7 [.int .i64 n] (fun R => R) (fun _ : Nat => True) (fun c => .tuple #[ptrV c, .int .i64 0]) (fun c R => RC c n [] :: R) := by
  refine Ctr.of_ent Try.func7 rfl Try.ntmps7 rfl (fun σ R => ?_)
  (repeat (first | refine EntL.qx ?_ | (apply Ent.seq) | (apply Ent.region) | (apply EntL.nil) | (apply EntX.then_normal) | refine EntL.ux ?_ | (refine EntL.nn (fun _ _ => ?_)) | (apply Ent.block) | (apply Ent.exit) | (apply Ent.ret) | (apply Ent.skip) | (apply EntX.then_ret) | (apply EntX.block_ret) | (apply EntX.then_exit) | (apply EntX.block_exit; exact rfl) | (apply EntX.block_exit_other; exact rfl) | (apply EntX.block_normal) | refine EntL.g1x ?_ | refine EntL.g2x ?_ | refine EntL.g3 ?_ | refine Ent.c1x ?_ | refine Ent.c2x ?_))
  refine EntX.ret_of (res2 rfl rfl rfl) _ trivial rfl (mem_trans (own_none (sz := 1)) (mem_trans entsR_intro (shutRC' (L := []) (by (repeat (first | exact Fits.rfl | exact Fits.nil | exact Sel.here | apply Sel.there | apply Fits.cons | apply Fits.drop))) rfl rfl rfl GoodR.nil)))
theorem newR_bad (n : Int) (h : n < 1 ∨ 1024 < n) : Ctr Try.prog 7 [.int .i64 n] (fun R => R) (fun _ : Unit => True) (fun _ => .tuple #[.pointer none, .int .i64 1]) (fun _ R => R) := by
  refine Ctr.of_ent Try.func7 rfl Try.ntmps7 rfl (fun σ R => ?_)
  by_cases h1 : n < 1
  · (repeat (first | refine EntL.qx ?_ | (apply Ent.seq) | (apply Ent.region) | (apply EntL.nil) | (apply EntX.then_normal) | refine EntL.ux ?_ | (refine EntL.nn (fun _ _ => ?_)) | (apply Ent.block) | (apply Ent.exit) | (apply Ent.ret) | (apply Ent.skip) | (apply EntX.then_ret) | (apply EntX.block_ret) | (apply EntX.then_exit) | (apply EntX.block_exit; exact rfl) | (apply EntX.block_exit_other; exact rfl) | (apply EntX.block_normal) | refine EntL.g1x ?_ | refine EntL.g2x ?_ | refine EntL.g3 ?_ | refine Ent.c1x ?_ | refine Ent.c2x ?_))
    refine EntX.ret_of (res2 rfl rfl rfl) () trivial rfl (by exact Fits.keep (by (repeat (first | exact Fits.rfl | exact Fits.nil | exact Sel.here | apply Sel.there | apply Fits.cons | apply Fits.drop))))
  · (repeat (first | refine EntL.qx ?_ | (apply Ent.seq) | (apply Ent.region) | (apply EntL.nil) | (apply EntX.then_normal) | refine EntL.ux ?_ | (refine EntL.nn (fun _ _ => ?_)) | (apply Ent.block) | (apply Ent.exit) | (apply Ent.ret) | (apply Ent.skip) | (apply EntX.then_ret) | (apply EntX.block_ret) | (apply EntX.then_exit) | (apply EntX.block_exit; exact rfl) | (apply EntX.block_exit_other; exact rfl) | (apply EntX.block_normal) | refine EntL.g1x ?_ | refine EntL.g2x ?_ | refine EntL.g3 ?_ | refine Ent.c1x ?_ | refine Ent.c2x ?_))
    refine EntX.ret_of (res2 rfl rfl rfl) () trivial rfl (by exact Fits.keep (by (repeat (first | exact Fits.rfl | exact Fits.nil | exact Sel.here | apply Sel.there | apply Fits.cons | apply Fits.drop))))
theorem snd_miss {L : Row} {A : List Ab} {b : Int} (hA : L.map Prod.snd = A) (h : ∀ a ∈ A, a.n ≠ b) : ∀ e ∈ L, e.2.n ≠ b := fun e he => h e.2 (hA ▸ List.mem_map_of_mem he)

theorem getR_miss (c : Nat) (most b : Int) (A : List Ab) (h : ∀ a ∈ A, a.n ≠ b) (hl : A.length ≤ 1500) : Ctr Try.prog 24 [ptrV c, .int .i64 b] (fun R => RC c most A :: R) (fun _ : Unit => True) (fun _ => .tuple #[.slice none 0 0, .int .i64 17]) (fun _ R => RC c most A :: R) := by
  refine Ctr.of_ent Try.func24 rfl Try.ntmps24 rfl (fun σ R => ?_)
  refine mmRC (by (repeat (first | exact Sel.here | apply Sel.there))) (fun L rv hA hg => ?_)
  have hlen' : L.length = A.length := by rw [← hA]; simp
  (repeat (first | refine EntL.qx ?_ | (apply Ent.seq) | (apply Ent.region) | (apply EntL.nil) | (apply EntX.then_normal) | refine EntL.ux ?_ | (refine EntL.nn (fun _ _ => ?_)) | (apply Ent.block) | (apply Ent.exit) | (apply Ent.ret) | (apply Ent.skip) | (apply EntX.then_ret) | (apply EntX.block_ret) | (apply EntX.then_exit) | (apply EntX.block_exit; exact rfl) | (apply EntX.block_exit_other; exact rfl) | (apply EntX.block_normal) | refine EntL.g1x ?_ | refine EntL.g2x ?_ | refine EntL.g3 ?_ | refine Ent.c1x ?_ | refine Ent.c2x ?_))
  refine EntL.call (at_spec c (.int .i64 most) rv b L (by omega)) rfl (by (repeat (first | exact Fits.rfl | exact Fits.nil | exact Sel.here | apply Sel.there | apply Fits.cons | apply Fits.drop))) rfl ?_
  rintro _ -
  rw [foundR_miss (snd_miss hA h)]
  (repeat (first | refine EntL.qx ?_ | (apply Ent.seq) | (apply Ent.region) | (apply EntL.nil) | (apply EntX.then_normal) | refine EntL.ux ?_ | (refine EntL.nn (fun _ _ => ?_)) | (apply Ent.block) | (apply Ent.exit) | (apply Ent.ret) | (apply Ent.skip) | (apply EntX.then_ret) | (apply EntX.block_ret) | (apply EntX.then_exit) | (apply EntX.block_exit; exact rfl) | (apply EntX.block_exit_other; exact rfl) | (apply EntX.block_normal) | refine EntL.g1x ?_ | refine EntL.g2x ?_ | refine EntL.g3 ?_ | refine Ent.c1x ?_ | refine Ent.c2x ?_))
  refine EntX.ret_of (res2 rfl rfl rfl) () trivial rfl (shutRC hA hg rfl rfl (by (repeat (first | exact Fits.rfl | exact Fits.nil | exact Sel.here | apply Sel.there | apply Fits.cons | apply Fits.drop))))
theorem getR_hit (c : Nat) (most : Int) (A1 A2 : List Ab) (a : Ab) (h1 : ∀ x ∈ A1, x.n ≠ a.n) (hl : (A1 ++ a :: A2).length ≤ 1500) (hd : a.d.length ≤ 1000000) :
    Ctr Try.prog 24 [ptrV c, .int .i64 a.n] (fun R => RC c most (A1 ++ a :: A2) :: R) (fun v : Value => IsSl a.d.length v) (fun v => .tuple #[v, .int .i64 0]) (fun v R => own 1 v a.d.length (bv a.d) :: RC c most (A1 ++ A2 ++ [a]) :: R) := by
  refine Ctr.of_ent Try.func24 rfl Try.ntmps24 rfl (fun σ R => ?_)
  refine mmRC (by (repeat (first | exact Sel.here | apply Sel.there))) (fun L rv hA hg => ?_)
  have hlen' : L.length = (A1 ++ a :: A2).length := by rw [← hA]; simp
  obtain ⟨L1, p, L2, rfl, rfl, rfl⟩ := map_snd_mid hA
  have hlen : (List.map Prod.fst (L1 ++ (p, a) :: L2)).length = (L1 ++ (p, a) :: L2).length := by simp
  (repeat (first | refine EntL.qx ?_ | (apply Ent.seq) | (apply Ent.region) | (apply EntL.nil) | (apply EntX.then_normal) | refine EntL.ux ?_ | (refine EntL.nn (fun _ _ => ?_)) | (apply Ent.block) | (apply Ent.exit) | (apply Ent.ret) | (apply Ent.skip) | (apply EntX.then_ret) | (apply EntX.block_ret) | (apply EntX.then_exit) | (apply EntX.block_exit; exact rfl) | (apply EntX.block_exit_other; exact rfl) | (apply EntX.block_normal) | refine EntL.g1x ?_ | refine EntL.g2x ?_ | refine EntL.g3 ?_ | refine Ent.c1x ?_ | refine Ent.c2x ?_))
  refine EntL.call (at_spec c (.int .i64 most) rv a.n (L1 ++ (p, a) :: L2) (by omega)) rfl (by (repeat (first | exact Fits.rfl | exact Fits.nil | exact Sel.here | apply Sel.there | apply Fits.cons | apply Fits.drop))) rfl ?_
  rintro _ -
  rw [foundR_hit rfl h1]
  (repeat (first | refine EntL.qx ?_ | (apply Ent.seq) | (apply Ent.region) | (apply EntL.nil) | (apply EntX.then_normal) | refine EntL.ux ?_ | (refine EntL.nn (fun _ _ => ?_)) | (apply Ent.block) | (apply Ent.exit) | (apply Ent.ret) | (apply Ent.skip) | (apply EntX.then_ret) | (apply EntX.block_ret) | (apply EntX.then_exit) | (apply EntX.block_exit; exact rfl) | (apply EntX.block_exit_other; exact rfl) | (apply EntX.block_normal) | refine EntL.g1x ?_ | refine EntL.g2x ?_ | refine EntL.g3 ?_ | refine Ent.c1x ?_ | refine Ent.c2x ?_))
  refine EntL.call (useR_spec c p (.int .i64 most) rv ((L1 ++ (p, a) :: L2).map Prod.fst) (L1 ++ (p, a) :: L2) (by omega) (fun q hq => hq) (by simp)) rfl (by (repeat (first | exact Fits.rfl | exact Fits.nil | exact Sel.here | apply Sel.there | apply Fits.cons | apply Fits.drop))) rfl ?_
  rintro _ ⟨ra, rc, rfl⟩
  rw [hg.mid_keep]
  (repeat (first | refine EntL.qx ?_ | (apply Ent.seq) | (apply Ent.region) | (apply EntL.nil) | (apply EntX.then_normal) | refine EntL.ux ?_ | (refine EntL.nn (fun _ _ => ?_)) | (apply Ent.block) | (apply Ent.exit) | (apply Ent.ret) | (apply Ent.skip) | (apply EntX.then_ret) | (apply EntX.block_ret) | (apply EntX.then_exit) | (apply EntX.block_exit; exact rfl) | (apply EntX.block_exit_other; exact rfl) | (apply EntX.block_normal) | refine EntL.g1x ?_ | refine EntL.g2x ?_ | refine EntL.g3 ?_ | refine Ent.c1x ?_ | refine Ent.c2x ?_))
  refine mmEntR (E1 := L1) (E2 := L2) (by (repeat (first | exact Sel.here | apply Sel.there))) (fun dv => ?_)
  refine mmOwnA (k := a.d.length) (cs := bv a.d) (by (repeat (first | exact Sel.here | apply Sel.there))) (fun da dc hv _ _ _ => ?_)
  subst hv
  (repeat (first | refine EntL.qx ?_ | (apply Ent.seq) | (apply Ent.region) | (apply EntL.nil) | (apply EntX.then_normal) | refine EntL.ux ?_ | (refine EntL.nn (fun _ _ => ?_)) | (apply Ent.block) | (apply Ent.exit) | (apply Ent.ret) | (apply Ent.skip) | (apply EntX.then_ret) | (apply EntX.block_ret) | (apply EntX.then_exit) | (apply EntX.block_exit; exact rfl) | (apply EntX.block_exit_other; exact rfl) | (apply EntX.block_normal) | refine EntL.g1x ?_ | refine EntL.g2x ?_ | refine EntL.g3 ?_ | refine Ent.c1x ?_ | refine Ent.c2x ?_))
  (apply EntL.new; (focus (apply OpTo.append; exact rfl; exact rfl; (first | exact own_sel (by (repeat (first | exact Sel.here | apply Sel.there))) | exact own_none | (apply own_cl; (focus (repeat (first | exact Sel.here | apply Sel.there))); exact rfl)); (first | exact reads_own (by (repeat (first | exact Sel.here | apply Sel.there))) | exact reads_none | (refine reads_blk inferInstance rfl ?_; (focus (first | (simp; done) | omega | (simp; omega))))); exact rfl; exact rfl; (first | exact bv_one _ | (focus (simp [Value.oneCell']; done)) | assumption); (first | (unfold room; omega) | (unfold room; simp; omega)); (first | omega | (simp; omega)))); exact rfl)
  rintro _ ⟨va, vc, rfl⟩
  rw [Nat.zero_add, List.nil_append]
  (repeat (first | refine EntL.qx ?_ | (apply Ent.seq) | (apply Ent.region) | (apply EntL.nil) | (apply EntX.then_normal) | refine EntL.ux ?_ | (refine EntL.nn (fun _ _ => ?_)) | (apply Ent.block) | (apply Ent.exit) | (apply Ent.ret) | (apply Ent.skip) | (apply EntX.then_ret) | (apply EntX.block_ret) | (apply EntX.then_exit) | (apply EntX.block_exit; exact rfl) | (apply EntX.block_exit_other; exact rfl) | (apply EntX.block_normal) | refine EntL.g1x ?_ | refine EntL.g2x ?_ | refine EntL.g3 ?_ | refine Ent.c1x ?_ | refine Ent.c2x ?_))
  refine EntX.ret_of (res2 rfl rfl rfl) (.slice va (0 + a.d.length) vc) ⟨_, _, by rw [Nat.zero_add]⟩ rfl ?_
  simp only [Nat.zero_add]
  refine mem_trans (shutEntR (E1 := L1) (E2 := L2) (p := p) (a := a) (dv := .slice da a.d.length dc) (by (repeat (first | exact Fits.rfl | exact Fits.nil | exact Sel.here | apply Sel.there | apply Fits.cons | apply Fits.drop)))) ?_
  rw [entsR_perm ((mid_perm L1 L2 (p, a)).trans (List.perm_append_comm (l₁ := [(p, a)])))]
  exact mem_trans (shutRC' (L := L1 ++ L2 ++ [(p, a)]) (A := L1.map Prod.snd ++ L2.map Prod.snd ++ [a]) (by (repeat (first | exact Fits.rfl | exact Fits.nil | exact Sel.here | apply Sel.there | apply Fits.cons | apply Fits.drop))) (by simp [Nat.add_assoc]) (by simp) (by simp) hg.mid_move) (by exact Fits.keep (by (repeat (first | exact Fits.rfl | exact Fits.nil | exact Sel.here | apply Sel.there | apply Fits.cons | apply Fits.drop))))
set_option maxHeartbeats 1000000 in
theorem fillR_spec (c : Nat) (most b : Int) (A : List Ab) (v : Value) (d : List UInt8) (hl : A.length ≤ 1500) (hd : d.length ≤ 1000000) : Ctr Try.prog 25 [ptrV c, .int .i64 b, v] (fun R => RC c most A :: own 1 v d.length (bv d) :: R) (fun _ : Unit => True)
    (fun _ => .int .i64 (fillA most b d A).1) (fun _ R => RC c most (fillA most b d A).2 :: own 1 v d.length (bv d) :: R) := by
  refine Ctr.of_ent Try.func25 rfl Try.ntmps25 rfl (fun σ R => ?_)
  refine mmOwnA (k := d.length) (cs := bv d) (by (repeat (first | exact Sel.here | apply Sel.there))) (fun da dc hv _ _ _ => ?_)
  subst hv
  (repeat (first | refine EntL.qx ?_ | (apply Ent.seq) | (apply Ent.region) | (apply EntL.nil) | (apply EntX.then_normal) | refine EntL.ux ?_ | (refine EntL.nn (fun _ _ => ?_)) | (apply Ent.block) | (apply Ent.exit) | (apply Ent.ret) | (apply Ent.skip) | (apply EntX.then_ret) | (apply EntX.block_ret) | (apply EntX.then_exit) | (apply EntX.block_exit; exact rfl) | (apply EntX.block_exit_other; exact rfl) | (apply EntX.block_normal) | refine EntL.g1x ?_ | refine EntL.g2x ?_ | refine EntL.g3 ?_ | refine Ent.c1x ?_ | refine Ent.c2x ?_))
  refine EntL.call (badR_spec b (.slice da d.length dc) d.length ⟨_, _, rfl⟩) rfl (by (repeat (first | exact Fits.rfl | exact Fits.nil | exact Sel.here | apply Sel.there | apply Fits.cons | apply Fits.drop))) rfl ?_
  rintro _ -
  rw [show (if b < 0 then (1 : Int) else if d.length = 512 then 0 else 14) = wrongA b d from rfl]
  by_cases hw : wrongA b d = 0
  · have hb : decide (wrongA b d ≠ 0) = false := by simpa using hw
    have hb' : (!decide (wrongA b d = 0)) = false := by simpa using hw
    (repeat (first | refine EntL.qx ?_ | (apply Ent.seq) | (apply Ent.region) | (apply EntL.nil) | (apply EntX.then_normal) | refine EntL.ux ?_ | (refine EntL.nn (fun _ _ => ?_)) | (apply Ent.block) | (apply Ent.exit) | (apply Ent.ret) | (apply Ent.skip) | (apply EntX.then_ret) | (apply EntX.block_ret) | (apply EntX.then_exit) | (apply EntX.block_exit; exact rfl) | (apply EntX.block_exit_other; exact rfl) | (apply EntX.block_normal) | refine EntL.g1x ?_ | refine EntL.g2x ?_ | refine EntL.g3 ?_ | refine Ent.c1x ?_ | refine Ent.c2x ?_))
    refine mmRC (by (repeat (first | exact Sel.here | apply Sel.there))) (fun L rv hA hg => ?_)
    have hlen' : L.length = A.length := by rw [← hA]; simp
    refine EntL.call (at_spec c (.int .i64 most) rv b L (by omega)) rfl (by (repeat (first | exact Fits.rfl | exact Fits.nil | exact Sel.here | apply Sel.there | apply Fits.cons | apply Fits.drop))) rfl ?_
    rintro _ -
    rcases hit_or b A with hm | ⟨A1, a, A2, hAA, hab, hA1⟩
    · rw [foundR_miss (snd_miss hA hm)]
      (repeat (first | refine EntL.qx ?_ | (apply Ent.seq) | (apply Ent.region) | (apply EntL.nil) | (apply EntX.then_normal) | refine EntL.ux ?_ | (refine EntL.nn (fun _ _ => ?_)) | (apply Ent.block) | (apply Ent.exit) | (apply Ent.ret) | (apply Ent.skip) | (apply EntX.then_ret) | (apply EntX.block_ret) | (apply EntX.then_exit) | (apply EntX.block_exit; exact rfl) | (apply EntX.block_exit_other; exact rfl) | (apply EntX.block_normal) | refine EntL.g1x ?_ | refine EntL.g2x ?_ | refine EntL.g3 ?_ | refine Ent.c1x ?_ | refine Ent.c2x ?_))
      refine mm (shutRC hA hg rfl rfl (by (repeat (first | exact Fits.rfl | exact Fits.nil | exact Sel.here | apply Sel.there | apply Fits.cons | apply Fits.drop)))) ?_
      refine EntL.call (roomR_spec c most A hl) rfl (by (repeat (first | exact Fits.rfl | exact Fits.nil | exact Sel.here | apply Sel.there | apply Fits.cons | apply Fits.drop))) rfl ?_
      rintro _ -
      cases hr : roomA most A with
      | none =>
        have hb2 : decide ((if (none : Option (List Ab)).isSome = true then (0 : Int) else 7) = 0) = false := by simp
        (repeat (first | refine EntL.qx ?_ | (apply Ent.seq) | (apply Ent.region) | (apply EntL.nil) | (apply EntX.then_normal) | refine EntL.ux ?_ | (refine EntL.nn (fun _ _ => ?_)) | (apply Ent.block) | (apply Ent.exit) | (apply Ent.ret) | (apply Ent.skip) | (apply EntX.then_ret) | (apply EntX.block_ret) | (apply EntX.then_exit) | (apply EntX.block_exit; exact rfl) | (apply EntX.block_exit_other; exact rfl) | (apply EntX.block_normal) | refine EntL.g1x ?_ | refine EntL.g2x ?_ | refine EntL.g3 ?_ | refine Ent.c1x ?_ | refine Ent.c2x ?_))
        refine EntX.ret_of (res1 rfl rfl) () trivial (by simp [fillA, hw, layA, atN_miss hm, hr]) (by simp only [fillA, hw, if_true, layA, atN_miss hm, hr]; exact Fits.keep (by (repeat (first | exact Fits.rfl | exact Fits.nil | exact Sel.here | apply Sel.there | apply Fits.cons | apply Fits.drop))))
      | some A' =>
        have hb2 : decide ((if (some A').isSome = true then (0 : Int) else 7) = 0) = true := by simp
        have hle := roomA_le hr
        have hno : ∀ a ∈ A', a.n ≠ b := fun x hx => hm x (roomA_mem hr x hx)
        simp only [Option.getD_some]
        refine mmRC (by (repeat (first | exact Sel.here | apply Sel.there))) (fun L' rv' hA' hg' => ?_)
        have hlen2 : (L'.map Prod.fst).length = A'.length := by rw [← hA']; simp
        refine mmOwnA (k := (L'.map Prod.fst).length) (by (repeat (first | exact Sel.here | apply Sel.there))) (fun ra rc hv _ _ _ => ?_)
        subst hv
        (repeat (first | refine EntL.qx ?_ | (apply Ent.seq) | (apply Ent.region) | (apply EntL.nil) | (apply EntX.then_normal) | refine EntL.ux ?_ | (refine EntL.nn (fun _ _ => ?_)) | (apply Ent.block) | (apply Ent.exit) | (apply Ent.ret) | (apply Ent.skip) | (apply EntX.then_ret) | (apply EntX.block_ret) | (apply EntX.then_exit) | (apply EntX.block_exit; exact rfl) | (apply EntX.block_exit_other; exact rfl) | (apply EntX.block_normal) | refine EntL.g1x ?_ | refine EntL.g2x ?_ | refine EntL.g3 ?_ | refine Ent.c1x ?_ | refine Ent.c2x ?_))
        refine Ent.draw 15 [cl c [.int .i64 most, .slice ra (L'.map Prod.fst).length rc]] mixed ?_
        ((first | refine EntD.qx 0 ?_ | refine EntD.px 0 ?_); (first | refine EntD.qx 1 ?_ | refine EntD.px 1 ?_); (first | refine EntD.qx 2 ?_ | refine EntD.px 2 ?_); (first | refine EntD.qx 3 ?_ | refine EntD.px 3 ?_); (first | refine EntD.qx 4 ?_ | refine EntD.px 4 ?_); (first | refine EntD.qx 5 ?_ | refine EntD.px 5 ?_))
        (first | refine EntD.qx 7 ?_ | refine EntD.px 7 ?_)
        (refine EntD.one 6 (by decide +kernel) rfl ?_; first | refine EntO.qx ?_ | refine EntO.ux ?_ | refine EntO.nx (fun _ _ => ?_))
        (refine EntD.one 8 (by decide +kernel) rfl ?_; (apply EntO.to; exact want_none rfl; exact rfl; (focus (apply OpTo.append; exact rfl; exact rfl; (first | exact own_sel (by (repeat (first | exact Sel.here | apply Sel.there))) | exact own_none | (apply own_cl; (focus (repeat (first | exact Sel.here | apply Sel.there))); exact rfl)); (first | exact reads_own (by (repeat (first | exact Sel.here | apply Sel.there))) | exact reads_none | (refine reads_blk inferInstance rfl ?_; (focus (first | (simp; done) | omega | (simp; omega))))); exact rfl; exact rfl; (first | exact bv_one _ | (focus (simp [Value.oneCell']; done)) | assumption); (first | (unfold room; omega) | (unfold room; simp; omega)); (first | omega | (simp; omega))))); exact fun _ _ => by first | exact .inl ⟨rfl, rfl⟩ | exact .inr (by exact Fits.keep (by (repeat (first | exact Fits.rfl | exact Fits.nil | exact Sel.here | apply Sel.there | apply Fits.cons | apply Fits.drop)))))
        rintro _ ⟨va, vc, rfl⟩
        (refine EntD.one 9 (by decide +kernel) rfl ?_; first | refine EntO.qx ?_ | refine EntO.ux ?_ | refine EntO.nx (fun _ _ => ?_))
        (refine EntD.one 10 (by decide +kernel) rfl ?_; first | refine EntO.qx ?_ | refine EntO.ux ?_ | refine EntO.nx (fun _ _ => ?_))
        rename_i q _
        (refine EntD.one 11 (by decide +kernel) rfl ?_; first | refine EntO.qx ?_ | refine EntO.ux ?_ | refine EntO.nx (fun _ _ => ?_))
        (refine EntD.one 12 (by decide +kernel) rfl ?_; (apply EntO.to; exact want_none rfl; exact rfl; (focus (apply OpTo.append; exact rfl; exact rfl; (first | exact own_sel (by (repeat (first | exact Sel.here | apply Sel.there))) | exact own_none | (apply own_cl; (focus (repeat (first | exact Sel.here | apply Sel.there))); exact rfl)); (first | exact reads_own (by (repeat (first | exact Sel.here | apply Sel.there))) | exact reads_none | (refine reads_blk inferInstance rfl ?_; (focus (first | (simp; done) | omega | (simp; omega))))); exact rfl; exact rfl; (first | exact bv_one _ | (focus (simp [Value.oneCell']; done)) | assumption); (first | (unfold room; omega) | (unfold room; simp; omega)); (first | omega | (simp; omega))))); exact fun _ _ => by first | exact .inl ⟨rfl, rfl⟩ | exact .inr (by exact Fits.keep (by (repeat (first | exact Fits.rfl | exact Fits.nil | exact Sel.here | apply Sel.there | apply Fits.cons | apply Fits.drop)))))
        rintro _ ⟨wa, wc, rfl⟩
        (refine EntD.one 13 (by decide +kernel) rfl ?_; first | refine EntO.qx ?_ | refine EntO.ux ?_ | refine EntO.nx (fun _ _ => ?_))
        (refine EntD.one 14 (by decide +kernel) rfl ?_; first | refine EntO.qx ?_ | refine EntO.ux ?_ | refine EntO.nx (fun _ _ => ?_))
        (refine EntD.one 15 (by decide +kernel) rfl ?_; first | refine EntO.qx ?_ | refine EntO.ux ?_ | refine EntO.nx (fun _ _ => ?_))
        (apply EntD.done; decide +kernel)
        (repeat (first | refine EntL.qx ?_ | (apply Ent.seq) | (apply Ent.region) | (apply EntL.nil) | (apply EntX.then_normal) | refine EntL.ux ?_ | (refine EntL.nn (fun _ _ => ?_)) | (apply Ent.block) | (apply Ent.exit) | (apply Ent.ret) | (apply Ent.skip) | (apply EntX.then_ret) | (apply EntX.block_ret) | (apply EntX.then_exit) | (apply EntX.block_exit; exact rfl) | (apply EntX.block_exit_other; exact rfl) | (apply EntX.block_normal) | refine EntL.g1x ?_ | refine EntL.g2x ?_ | refine EntL.g3 ?_ | refine Ent.c1x ?_ | refine Ent.c2x ?_))
        refine mmFact (fun w st => entsR_fresh (q := q) (L := L') (by (repeat (first | exact Sel.here | apply Sel.there))) (by (repeat (first | exact Sel.here | apply Sel.there))) st) (fun hf => ?_)
        refine EntX.ret_of (res1 rfl rfl) () trivial (by simp [fillA, hw, layA, atN_miss hm, hr]) ?_
        simp only [fillA, hw, if_true, layA, atN_miss hm, hr, Option.isSome_none, Bool.false_eq_true, if_false]
        refine mem_trans (shutEntR (E1 := L') (E2 := []) (p := q) (a := ⟨b, d, false, 0⟩) (dv := .slice va (0 + d.length) vc) (by simp only [Nat.zero_add, List.nil_append, List.append_nil]; (repeat (first | exact Fits.rfl | exact Fits.nil | exact Sel.here | apply Sel.there | apply Fits.cons | apply Fits.drop)))) ?_
        exact mem_trans (shutRC' (L := L' ++ [(q, ⟨b, d, false, 0⟩)]) (A := A' ++ [⟨b, d, false, 0⟩]) (by (repeat (first | exact Fits.rfl | exact Fits.nil | exact Sel.here | apply Sel.there | apply Fits.cons | apply Fits.drop))) (by simp) (by simp) (by simp [hA']) (hg'.push hf (snd_miss hA' hno))) (by exact Fits.keep (by (repeat (first | exact Fits.rfl | exact Fits.nil | exact Sel.here | apply Sel.there | apply Fits.cons | apply Fits.drop))))
    · subst hAA
      obtain ⟨L1, p, L2, rfl, rfl, rfl⟩ := map_snd_mid hA
      rw [foundR_hit hab hA1]
      (repeat (first | refine EntL.qx ?_ | (apply Ent.seq) | (apply Ent.region) | (apply EntL.nil) | (apply EntX.then_normal) | refine EntL.ux ?_ | (refine EntL.nn (fun _ _ => ?_)) | (apply Ent.block) | (apply Ent.exit) | (apply Ent.ret) | (apply Ent.skip) | (apply EntX.then_ret) | (apply EntX.block_ret) | (apply EntX.then_exit) | (apply EntX.block_exit; exact rfl) | (apply EntX.block_exit_other; exact rfl) | (apply EntX.block_normal) | refine EntL.g1x ?_ | refine EntL.g2x ?_ | refine EntL.g3 ?_ | refine Ent.c1x ?_ | refine Ent.c2x ?_))
      refine EntX.ret_of (res1 rfl rfl) () trivial (by simp [fillA, atN_hit hab hA1, hw]) (by simp only [fillA, hw, if_true, atN_hit hab hA1]; exact shutRC hA hg rfl rfl (by (repeat (first | exact Fits.rfl | exact Fits.nil | exact Sel.here | apply Sel.there | apply Fits.cons | apply Fits.drop))))
  · have hb : decide (wrongA b d ≠ 0) = true := by simpa using hw
    have hb' : (!decide (wrongA b d = 0)) = true := by simpa using hw
    (repeat (first | refine EntL.qx ?_ | (apply Ent.seq) | (apply Ent.region) | (apply EntL.nil) | (apply EntX.then_normal) | refine EntL.ux ?_ | (refine EntL.nn (fun _ _ => ?_)) | (apply Ent.block) | (apply Ent.exit) | (apply Ent.ret) | (apply Ent.skip) | (apply EntX.then_ret) | (apply EntX.block_ret) | (apply EntX.then_exit) | (apply EntX.block_exit; exact rfl) | (apply EntX.block_exit_other; exact rfl) | (apply EntX.block_normal) | refine EntL.g1x ?_ | refine EntL.g2x ?_ | refine EntL.g3 ?_ | refine Ent.c1x ?_ | refine Ent.c2x ?_))
    refine EntX.ret_of (res1 rfl rfl) () trivial (by simp [fillA, hw]) (by simp only [fillA, hw, if_false]; exact Fits.keep (by (repeat (first | exact Fits.rfl | exact Fits.nil | exact Sel.here | apply Sel.there | apply Fits.cons | apply Fits.drop))))
end Go.Proofs.Ythlbimdlpadhdaa
