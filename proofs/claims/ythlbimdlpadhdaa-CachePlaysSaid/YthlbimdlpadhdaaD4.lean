/- The reference's cache: Put, Pin, Unpin, Clean, Drop, Held. -/
import Derived.Test.YthlbimdlpadhdaaD3
namespace Go.Proofs.Ythlbimdlpadhdaa
open Go Go.Sl

theorem put_hit {most b : Int} {d : List UInt8} {A1 A2 : List Ab} {a : Ab} (h1 : a.n = b) (h2 : ∀ x ∈ A1, x.n ≠ b) (hn : (numsOf (A1 ++ a :: A2)).Nodup) (hw : wrongA b d = 0) :
    putA most b d (A1 ++ a :: A2) = (0, A1 ++ A2 ++ [{ a with d := d, dirty := true }]) := by
  have hr := hit_rest h1 hn
  have : turnN b (fun a => { a with dirty := true }) (A1 ++ A2) = A1 ++ A2 := turnN_miss hr
  simp only [putA, hw, if_true, layA, atN_hit h1 h2, rest_hit h1 h2]
  simp only [turnN, List.map_append, List.map_cons, List.map_nil] at this ⊢
  rw [this]
  simp [h1]
theorem put_miss {most b : Int} {d : List UInt8} {A A' : List Ab} (h : ∀ a ∈ A, a.n ≠ b) (hr : roomA most A = some A') (hw : wrongA b d = 0) : putA most b d A = (0, A' ++ [⟨b, d, true, 0⟩]) := by
  have hr' : ∀ x ∈ A', x.n ≠ b := fun x hx => h x (roomA_mem hr x hx)
  have : turnN b (fun a => { a with dirty := true }) A' = A' := turnN_miss hr'
  simp only [putA, hw, if_true, layA, atN_miss h, hr]
  simp only [turnN, List.map_append, List.map_cons, List.map_nil] at this ⊢
  rw [this]
  simp
theorem put_full {most b : Int} {d : List UInt8} {A : List Ab} (h : ∀ a ∈ A, a.n ≠ b) (hr : roomA most A = none) (hw : wrongA b d = 0) : putA most b d A = (7, A) := by
  simp [putA, hw, layA, atN_miss h, hr]
theorem entsR_end {L1 L2 : Row} {p : Nat} {a : Ab} : entsR (L1 ++ (p, a) :: L2) = entsR (L1 ++ L2 ++ [(p, a)]) := entsR_perm ((mid_perm L1 L2 (p, a)).trans (List.perm_append_comm (l₁ := [(p, a)])))

set_option maxHeartbeats 1000000 in
theorem putR_spec (c : Nat) (most b : Int) (A : List Ab) (v : Value) (d : List UInt8) (hl : A.length ≤ 1500) (hd : d.length ≤ 1000000) : Ctr Try.prog 26 [ptrV c, .int .i64 b, v] (fun R => RC c most A :: own 1 v d.length (bv d) :: R) (fun _ : Unit => True)
    (fun _ => .int .i64 (putA most b d A).1) (fun _ R => RC c most (putA most b d A).2 :: own 1 v d.length (bv d) :: R) := by
  refine Ctr.of_ent Try.func26 rfl Try.ntmps26 rfl (fun σ R => ?_)
  refine mmOwnA (k := d.length) (cs := bv d) (by (repeat (first | exact Sel.here | apply Sel.there))) (fun da dc hv _ _ _ => ?_)
  subst hv
  (repeat (first | refine EntL.qx ?_ | (apply Ent.seq) | (apply Ent.region) | (apply EntL.nil) | (apply EntX.then_normal) | refine EntL.ux ?_ | (refine EntL.nn (fun _ _ => ?_)) | (apply Ent.block) | (apply Ent.exit) | (apply Ent.ret) | (apply Ent.skip) | (apply EntX.then_ret) | (apply EntX.block_ret) | (apply EntX.then_exit) | (apply EntX.block_exit; exact rfl) | (apply EntX.block_exit_other; exact rfl) | (apply EntX.block_normal) | refine EntL.g1x ?_ | refine EntL.g2x ?_ | refine EntL.g3 ?_ | refine Ent.c1x ?_ | refine Ent.c2x ?_))
  refine EntL.call (badR_spec b (.slice da d.length dc) d.length ⟨_, _, rfl⟩) rfl (by (repeat (first | exact Fits.rfl | exact Fits.nil | exact Sel.here | apply Sel.there | apply Fits.cons | apply Fits.drop))) rfl ?_
  rintro _ -
  rw [show (if b < 0 then (1 : Int) else if d.length = 512 then 0 else 14) = wrongA b d from rfl]
  by_cases hw : wrongA b d = 0
  · have hb' : (!decide (wrongA b d = 0)) = false := by simpa using hw
    have hb : decide (wrongA b d ≠ 0) = false := by simpa using hw
    (repeat (first | refine EntL.qx ?_ | (apply Ent.seq) | (apply Ent.region) | (apply EntL.nil) | (apply EntX.then_normal) | refine EntL.ux ?_ | (refine EntL.nn (fun _ _ => ?_)) | (apply Ent.block) | (apply Ent.exit) | (apply Ent.ret) | (apply Ent.skip) | (apply EntX.then_ret) | (apply EntX.block_ret) | (apply EntX.then_exit) | (apply EntX.block_exit; exact rfl) | (apply EntX.block_exit_other; exact rfl) | (apply EntX.block_normal) | refine EntL.g1x ?_ | refine EntL.g2x ?_ | refine EntL.g3 ?_ | refine Ent.c1x ?_ | refine Ent.c2x ?_))
    refine mmRC (by (repeat (first | exact Sel.here | apply Sel.there))) (fun L rv hA hg => ?_)
    have hlen' : L.length = A.length := by rw [← hA]; simp
    have hlen : (L.map Prod.fst).length = A.length := by rw [← hA]; simp
    refine EntL.call (at_spec c (.int .i64 most) rv b L (by omega)) rfl (by (repeat (first | exact Fits.rfl | exact Fits.nil | exact Sel.here | apply Sel.there | apply Fits.cons | apply Fits.drop))) rfl ?_
    rintro _ -
    rcases hit_or b A with hm | ⟨A1, a, A2, hAA, hab, hA1⟩
    · rw [foundR_miss (snd_miss hA hm)]
      (repeat (first | refine EntL.qx ?_ | (apply Ent.seq) | (apply Ent.region) | (apply EntL.nil) | (apply EntX.then_normal) | refine EntL.ux ?_ | (refine EntL.nn (fun _ _ => ?_)) | (apply Ent.block) | (apply Ent.exit) | (apply Ent.ret) | (apply Ent.skip) | (apply EntX.then_ret) | (apply EntX.block_ret) | (apply EntX.then_exit) | (apply EntX.block_exit; exact rfl) | (apply EntX.block_exit_other; exact rfl) | (apply EntX.block_normal) | refine EntL.g1x ?_ | refine EntL.g2x ?_ | refine EntL.g3 ?_ | refine Ent.c1x ?_ | refine Ent.c2x ?_))
      refine mm (shutRC hA hg rfl rfl (by (repeat (first | exact Fits.rfl | exact Fits.nil | exact Sel.here | apply Sel.there | apply Fits.cons | apply Fits.drop)))) ?_
      refine EntL.call (roomR_spec c most A hl) rfl (by (repeat (first | exact Fits.rfl | exact Fits.nil | exact Sel.here | apply Sel.there | apply Fits.cons | apply Fits.drop))) rfl ?_
      rintro _ -
      cases hr : roomA most A with
      | none =>
        have hb2 : decide ((if (none : Option (List Ab)).isSome = true then (0 : Int) else 7) ≠ 0) = true := by simp
        have hb3 : (!decide ((if (none : Option (List Ab)).isSome = true then (0 : Int) else 7) = 0)) = true := by simp
        (repeat (first | refine EntL.qx ?_ | (apply Ent.seq) | (apply Ent.region) | (apply EntL.nil) | (apply EntX.then_normal) | refine EntL.ux ?_ | (refine EntL.nn (fun _ _ => ?_)) | (apply Ent.block) | (apply Ent.exit) | (apply Ent.ret) | (apply Ent.skip) | (apply EntX.then_ret) | (apply EntX.block_ret) | (apply EntX.then_exit) | (apply EntX.block_exit; exact rfl) | (apply EntX.block_exit_other; exact rfl) | (apply EntX.block_normal) | refine EntL.g1x ?_ | refine EntL.g2x ?_ | refine EntL.g3 ?_ | refine Ent.c1x ?_ | refine Ent.c2x ?_))
        rw [put_full hm hr hw]
        refine EntX.ret_of (res1 rfl rfl) () trivial (by simp) (by simp only [Option.getD_none]; exact Fits.keep (by (repeat (first | exact Fits.rfl | exact Fits.nil | exact Sel.here | apply Sel.there | apply Fits.cons | apply Fits.drop))))
      | some A' =>
        have hb2 : decide ((if (some A').isSome = true then (0 : Int) else 7) ≠ 0) = false := by simp
        have hb3 : (!decide ((if (some A').isSome = true then (0 : Int) else 7) = 0)) = false := by simp
        have hle := roomA_le hr
        have hno : ∀ a ∈ A', a.n ≠ b := fun x hx => hm x (roomA_mem hr x hx)
        simp only [Option.getD_some]
        rw [put_miss hm hr hw]
        (repeat (first | refine EntL.qx ?_ | (apply Ent.seq) | (apply Ent.region) | (apply EntL.nil) | (apply EntX.then_normal) | refine EntL.ux ?_ | (refine EntL.nn (fun _ _ => ?_)) | (apply Ent.block) | (apply Ent.exit) | (apply Ent.ret) | (apply Ent.skip) | (apply EntX.then_ret) | (apply EntX.block_ret) | (apply EntX.then_exit) | (apply EntX.block_exit; exact rfl) | (apply EntX.block_exit_other; exact rfl) | (apply EntX.block_normal) | refine EntL.g1x ?_ | refine EntL.g2x ?_ | refine EntL.g3 ?_ | refine Ent.c1x ?_ | refine Ent.c2x ?_))
        rename_i q _ _ _
        (apply EntL.new; (focus (apply OpTo.append; exact rfl; exact rfl; (first | exact own_sel (by (repeat (first | exact Sel.here | apply Sel.there))) | exact own_none | (apply own_cl; (focus (repeat (first | exact Sel.here | apply Sel.there))); exact rfl)); (first | exact reads_own (by (repeat (first | exact Sel.here | apply Sel.there))) | exact reads_none | (refine reads_blk inferInstance rfl ?_; (focus (first | (simp; done) | omega | (simp; omega))))); exact rfl; exact rfl; (first | exact bv_one _ | (focus (simp [Value.oneCell']; done)) | assumption); (first | (unfold room; omega) | (unfold room; simp; omega)); (first | omega | (simp; omega)))); exact rfl)
        rintro _ ⟨va, vc, rfl⟩
        rw [List.nil_append]
        (repeat (first | refine EntL.qx ?_ | (apply Ent.seq) | (apply Ent.region) | (apply EntL.nil) | (apply EntX.then_normal) | refine EntL.ux ?_ | (refine EntL.nn (fun _ _ => ?_)) | (apply Ent.block) | (apply Ent.exit) | (apply Ent.ret) | (apply Ent.skip) | (apply EntX.then_ret) | (apply EntX.block_ret) | (apply EntX.then_exit) | (apply EntX.block_exit; exact rfl) | (apply EntX.block_exit_other; exact rfl) | (apply EntX.block_normal) | refine EntL.g1x ?_ | refine EntL.g2x ?_ | refine EntL.g3 ?_ | refine Ent.c1x ?_ | refine Ent.c2x ?_))
        refine mmRC (by (repeat (first | exact Sel.here | apply Sel.there))) (fun L' rv' hA' hg' => ?_)
        have hlen2 : (L'.map Prod.fst).length = A'.length := by rw [← hA']; simp
        refine mmFact (fun w st => entsR_fresh (q := q) (L := L') (by (repeat (first | exact Sel.here | apply Sel.there))) (by (repeat (first | exact Sel.here | apply Sel.there))) st) (fun hf => ?_)
        refine mm (shutEntR (E1 := L') (E2 := []) (p := q) (a := ⟨b, d, true, 0⟩) (dv := .slice va (0 + d.length) vc) (by simp only [Nat.zero_add, List.append_nil]; (repeat (first | exact Fits.rfl | exact Fits.nil | exact Sel.here | apply Sel.there | apply Fits.cons | apply Fits.drop)))) ?_
        refine EntL.call (useR_spec c q (.int .i64 most) rv' (L'.map Prod.fst) (L' ++ [(q, ⟨b, d, true, 0⟩)]) (by omega) (fun q hq => by simp at hq ⊢; exact .inl hq) (by simp)) rfl (by (repeat (first | exact Fits.rfl | exact Fits.nil | exact Sel.here | apply Sel.there | apply Fits.cons | apply Fits.drop))) rfl ?_
        rintro _ ⟨va', vc', rfl⟩
        rw [keep_out hf]
        (repeat (first | refine EntL.qx ?_ | (apply Ent.seq) | (apply Ent.region) | (apply EntL.nil) | (apply EntX.then_normal) | refine EntL.ux ?_ | (refine EntL.nn (fun _ _ => ?_)) | (apply Ent.block) | (apply Ent.exit) | (apply Ent.ret) | (apply Ent.skip) | (apply EntX.then_ret) | (apply EntX.block_ret) | (apply EntX.then_exit) | (apply EntX.block_exit; exact rfl) | (apply EntX.block_exit_other; exact rfl) | (apply EntX.block_normal) | refine EntL.g1x ?_ | refine EntL.g2x ?_ | refine EntL.g3 ?_ | refine Ent.c1x ?_ | refine Ent.c2x ?_))
        refine EntX.ret_of (res1 rfl rfl) () trivial rfl ?_
        exact mem_trans (shutRC' (L := L' ++ [(q, ⟨b, d, true, 0⟩)]) (A := A' ++ [⟨b, d, true, 0⟩]) (by (repeat (first | exact Fits.rfl | exact Fits.nil | exact Sel.here | apply Sel.there | apply Fits.cons | apply Fits.drop))) (by simp) (by simp) (by simp [hA']) (hg'.push hf (snd_miss hA' hno))) (by exact Fits.keep (by (repeat (first | exact Fits.rfl | exact Fits.nil | exact Sel.here | apply Sel.there | apply Fits.cons | apply Fits.drop))))
    · subst hAA
      obtain ⟨L1, p, L2, rfl, rfl, rfl⟩ := map_snd_mid hA
      rw [foundR_hit hab hA1]
      rw [put_hit hab hA1 (hg.numsA hA) hw]
      (repeat (first | refine EntL.qx ?_ | (apply Ent.seq) | (apply Ent.region) | (apply EntL.nil) | (apply EntX.then_normal) | refine EntL.ux ?_ | (refine EntL.nn (fun _ _ => ?_)) | (apply Ent.block) | (apply Ent.exit) | (apply Ent.ret) | (apply Ent.skip) | (apply EntX.then_ret) | (apply EntX.block_ret) | (apply EntX.then_exit) | (apply EntX.block_exit; exact rfl) | (apply EntX.block_exit_other; exact rfl) | (apply EntX.block_normal) | refine EntL.g1x ?_ | refine EntL.g2x ?_ | refine EntL.g3 ?_ | refine Ent.c1x ?_ | refine Ent.c2x ?_))
      (apply EntL.new; (focus (apply OpTo.append; exact rfl; exact rfl; (first | exact own_sel (by (repeat (first | exact Sel.here | apply Sel.there))) | exact own_none | (apply own_cl; (focus (repeat (first | exact Sel.here | apply Sel.there))); exact rfl)); (first | exact reads_own (by (repeat (first | exact Sel.here | apply Sel.there))) | exact reads_none | (refine reads_blk inferInstance rfl ?_; (focus (first | (simp; done) | omega | (simp; omega))))); exact rfl; exact rfl; (first | exact bv_one _ | (focus (simp [Value.oneCell']; done)) | assumption); (first | (unfold room; omega) | (unfold room; simp; omega)); (first | omega | (simp; omega)))); exact rfl)
      rintro _ ⟨va, vc, rfl⟩
      rw [List.nil_append]
      refine mmEntR (E1 := L1) (E2 := L2) (by (repeat (first | exact Sel.here | apply Sel.there))) (fun dv => ?_)
      (repeat (first | refine EntL.qx ?_ | (apply Ent.seq) | (apply Ent.region) | (apply EntL.nil) | (apply EntX.then_normal) | refine EntL.ux ?_ | (refine EntL.nn (fun _ _ => ?_)) | (apply Ent.block) | (apply Ent.exit) | (apply Ent.ret) | (apply Ent.skip) | (apply EntX.then_ret) | (apply EntX.block_ret) | (apply EntX.then_exit) | (apply EntX.block_exit; exact rfl) | (apply EntX.block_exit_other; exact rfl) | (apply EntX.block_normal) | refine EntL.g1x ?_ | refine EntL.g2x ?_ | refine EntL.g3 ?_ | refine Ent.c1x ?_ | refine Ent.c2x ?_))
      refine mm (shutEntR (E1 := L1) (E2 := L2) (p := p) (a := { a with d := d, dirty := true }) (dv := .slice va (0 + d.length) vc) (by simp only [Nat.zero_add]; (repeat (first | exact Fits.rfl | exact Fits.nil | exact Sel.here | apply Sel.there | apply Fits.cons | apply Fits.drop)))) ?_
      refine EntL.call (useR_spec c p (.int .i64 most) rv ((L1 ++ (p, a) :: L2).map Prod.fst) (L1 ++ (p, { a with d := d, dirty := true }) :: L2) (by omega) (fun q hq => by simpa using hq) (by simp)) rfl (by (repeat (first | exact Fits.rfl | exact Fits.nil | exact Sel.here | apply Sel.there | apply Fits.cons | apply Fits.drop))) rfl ?_
      rintro _ ⟨va', vc', rfl⟩
      rw [hg.mid_keep]
      (repeat (first | refine EntL.qx ?_ | (apply Ent.seq) | (apply Ent.region) | (apply EntL.nil) | (apply EntX.then_normal) | refine EntL.ux ?_ | (refine EntL.nn (fun _ _ => ?_)) | (apply Ent.block) | (apply Ent.exit) | (apply Ent.ret) | (apply Ent.skip) | (apply EntX.then_ret) | (apply EntX.block_ret) | (apply EntX.then_exit) | (apply EntX.block_exit; exact rfl) | (apply EntX.block_exit_other; exact rfl) | (apply EntX.block_normal) | refine EntL.g1x ?_ | refine EntL.g2x ?_ | refine EntL.g3 ?_ | refine Ent.c1x ?_ | refine Ent.c2x ?_))
      refine EntX.ret_of (res1 rfl rfl) () trivial rfl ?_
      rw [entsR_end]
      exact mem_trans (shutRC' (L := L1 ++ L2 ++ [(p, { a with d := d, dirty := true })]) (A := L1.map Prod.snd ++ L2.map Prod.snd ++ [{ a with d := d, dirty := true }]) (by (repeat (first | exact Fits.rfl | exact Fits.nil | exact Sel.here | apply Sel.there | apply Fits.cons | apply Fits.drop))) (by simp [Nat.add_assoc]) (by simp) (by simp) (GoodR.mid_move (hg.turn rfl))) (by exact Fits.keep (by (repeat (first | exact Fits.rfl | exact Fits.nil | exact Sel.here | apply Sel.there | apply Fits.cons | apply Fits.drop))))
  · have hb : decide (wrongA b d ≠ 0) = true := by simpa using hw
    have hb' : (!decide (wrongA b d = 0)) = true := by simpa using hw
    (repeat (first | refine EntL.qx ?_ | (apply Ent.seq) | (apply Ent.region) | (apply EntL.nil) | (apply EntX.then_normal) | refine EntL.ux ?_ | (refine EntL.nn (fun _ _ => ?_)) | (apply Ent.block) | (apply Ent.exit) | (apply Ent.ret) | (apply Ent.skip) | (apply EntX.then_ret) | (apply EntX.block_ret) | (apply EntX.then_exit) | (apply EntX.block_exit; exact rfl) | (apply EntX.block_exit_other; exact rfl) | (apply EntX.block_normal) | refine EntL.g1x ?_ | refine EntL.g2x ?_ | refine EntL.g3 ?_ | refine Ent.c1x ?_ | refine Ent.c2x ?_))
    refine EntX.ret_of (res1 rfl rfl) () trivial (by simp [putA, hw]) (by simp only [putA, hw, if_false]; exact Fits.keep (by (repeat (first | exact Fits.rfl | exact Fits.nil | exact Sel.here | apply Sel.there | apply Fits.cons | apply Fits.drop))))
theorem pinR_spec (c : Nat) (most b : Int) (A : List Ab) (hp : ∀ a ∈ A, -10000 ≤ a.pins ∧ a.pins ≤ 10000) (hl : A.length ≤ 1500) : Ctr Try.prog 27 [ptrV c, .int .i64 b] (fun R => RC c most A :: R) (fun _ : Unit => True)
    (fun _ => .int .i64 (pinA b A).1) (fun _ R => RC c most (pinA b A).2 :: R) := by
  refine Ctr.of_ent Try.func27 rfl Try.ntmps27 rfl (fun σ R => ?_)
  refine mmRC (by (repeat (first | exact Sel.here | apply Sel.there))) (fun L rv hA hg => ?_)
  have hlen' : L.length = A.length := by rw [← hA]; simp
  (repeat (first | refine EntL.qx ?_ | (apply Ent.seq) | (apply Ent.region) | (apply EntL.nil) | (apply EntX.then_normal) | refine EntL.ux ?_ | (refine EntL.nn (fun _ _ => ?_)) | (apply Ent.block) | (apply Ent.exit) | (apply Ent.ret) | (apply Ent.skip) | (apply EntX.then_ret) | (apply EntX.block_ret) | (apply EntX.then_exit) | (apply EntX.block_exit; exact rfl) | (apply EntX.block_exit_other; exact rfl) | (apply EntX.block_normal) | refine EntL.g1x ?_ | refine EntL.g2x ?_ | refine EntL.g3 ?_ | refine Ent.c1x ?_ | refine Ent.c2x ?_))
  refine EntL.call (at_spec c (.int .i64 most) rv b L (by omega)) rfl (by (repeat (first | exact Fits.rfl | exact Fits.nil | exact Sel.here | apply Sel.there | apply Fits.cons | apply Fits.drop))) rfl ?_
  rintro _ -
  rcases hit_or b A with hm | ⟨A1, a, A2, hAA, hab, hA1⟩
  · rw [foundR_miss (snd_miss hA hm)]
    (repeat (first | refine EntL.qx ?_ | (apply Ent.seq) | (apply Ent.region) | (apply EntL.nil) | (apply EntX.then_normal) | refine EntL.ux ?_ | (refine EntL.nn (fun _ _ => ?_)) | (apply Ent.block) | (apply Ent.exit) | (apply Ent.ret) | (apply Ent.skip) | (apply EntX.then_ret) | (apply EntX.block_ret) | (apply EntX.then_exit) | (apply EntX.block_exit; exact rfl) | (apply EntX.block_exit_other; exact rfl) | (apply EntX.block_normal) | refine EntL.g1x ?_ | refine EntL.g2x ?_ | refine EntL.g3 ?_ | refine Ent.c1x ?_ | refine Ent.c2x ?_))
    refine EntX.ret_of (res1 rfl rfl) () trivial (by simp [pinA, atN_miss hm]) (by simp only [pinA, atN_miss hm]; exact shutRC hA hg rfl rfl (by (repeat (first | exact Fits.rfl | exact Fits.nil | exact Sel.here | apply Sel.there | apply Fits.cons | apply Fits.drop))))
  · subst hAA
    obtain ⟨L1, p, L2, rfl, rfl, rfl⟩ := map_snd_mid hA
    rw [foundR_hit hab hA1]
    have hpa := hp a (by simp)
    (repeat (first | refine EntL.qx ?_ | (apply Ent.seq) | (apply Ent.region) | (apply EntL.nil) | (apply EntX.then_normal) | refine EntL.ux ?_ | (refine EntL.nn (fun _ _ => ?_)) | (apply Ent.block) | (apply Ent.exit) | (apply Ent.ret) | (apply Ent.skip) | (apply EntX.then_ret) | (apply EntX.block_ret) | (apply EntX.then_exit) | (apply EntX.block_exit; exact rfl) | (apply EntX.block_exit_other; exact rfl) | (apply EntX.block_normal) | refine EntL.g1x ?_ | refine EntL.g2x ?_ | refine EntL.g3 ?_ | refine Ent.c1x ?_ | refine Ent.c2x ?_))
    refine mmEntR (E1 := L1) (E2 := L2) (by (repeat (first | exact Sel.here | apply Sel.there))) (fun dv => ?_)
    (repeat (first | refine EntL.qx ?_ | (apply Ent.seq) | (apply Ent.region) | (apply EntL.nil) | (apply EntX.then_normal) | refine EntL.ux ?_ | (refine EntL.nn (fun _ _ => ?_)) | (apply Ent.block) | (apply Ent.exit) | (apply Ent.ret) | (apply Ent.skip) | (apply EntX.then_ret) | (apply EntX.block_ret) | (apply EntX.then_exit) | (apply EntX.block_exit; exact rfl) | (apply EntX.block_exit_other; exact rfl) | (apply EntX.block_normal) | refine EntL.g1x ?_ | refine EntL.g2x ?_ | refine EntL.g3 ?_ | refine Ent.c1x ?_ | refine Ent.c2x ?_))
    refine EntX.ret_of (res1 rfl rfl) () trivial (by simp [pinA, atN_hit hab hA1]) ?_
    simp only [pinA, atN_hit hab hA1, Option.isSome_some, if_true, turnN_hit hab (hg.numsA hA)]
    exact mem_trans (shutEntR (E1 := L1) (E2 := L2) (p := p) (a := { a with pins := a.pins + 1 }) (dv := dv) (by (repeat (first | exact Fits.rfl | exact Fits.nil | exact Sel.here | apply Sel.there | apply Fits.cons | apply Fits.drop)))) (shutRC' (L := L1 ++ (p, { a with pins := a.pins + 1 }) :: L2) (by (repeat (first | exact Fits.rfl | exact Fits.nil | exact Sel.here | apply Sel.there | apply Fits.cons | apply Fits.drop))) (by simp) (by simp) (by simp) (hg.turn rfl))
theorem unpinR_spec (c : Nat) (most b : Int) (A : List Ab) (hp : ∀ a ∈ A, -10000 ≤ a.pins ∧ a.pins ≤ 10000) (hl : A.length ≤ 1500) : Ctr Try.prog 28 [ptrV c, .int .i64 b] (fun R => RC c most A :: R) (fun _ : Unit => True)
    (fun _ => .int .i64 (unpinA b A).1) (fun _ R => RC c most (unpinA b A).2 :: R) := by
  refine Ctr.of_ent Try.func28 rfl Try.ntmps28 rfl (fun σ R => ?_)
  refine mmRC (by (repeat (first | exact Sel.here | apply Sel.there))) (fun L rv hA hg => ?_)
  have hlen' : L.length = A.length := by rw [← hA]; simp
  (repeat (first | refine EntL.qx ?_ | (apply Ent.seq) | (apply Ent.region) | (apply EntL.nil) | (apply EntX.then_normal) | refine EntL.ux ?_ | (refine EntL.nn (fun _ _ => ?_)) | (apply Ent.block) | (apply Ent.exit) | (apply Ent.ret) | (apply Ent.skip) | (apply EntX.then_ret) | (apply EntX.block_ret) | (apply EntX.then_exit) | (apply EntX.block_exit; exact rfl) | (apply EntX.block_exit_other; exact rfl) | (apply EntX.block_normal) | refine EntL.g1x ?_ | refine EntL.g2x ?_ | refine EntL.g3 ?_ | refine Ent.c1x ?_ | refine Ent.c2x ?_))
  refine EntL.call (at_spec c (.int .i64 most) rv b L (by omega)) rfl (by (repeat (first | exact Fits.rfl | exact Fits.nil | exact Sel.here | apply Sel.there | apply Fits.cons | apply Fits.drop))) rfl ?_
  rintro _ -
  rcases hit_or b A with hm | ⟨A1, a, A2, hAA, hab, hA1⟩
  · rw [foundR_miss (snd_miss hA hm)]
    (repeat (first | refine EntL.qx ?_ | (apply Ent.seq) | (apply Ent.region) | (apply EntL.nil) | (apply EntX.then_normal) | refine EntL.ux ?_ | (refine EntL.nn (fun _ _ => ?_)) | (apply Ent.block) | (apply Ent.exit) | (apply Ent.ret) | (apply Ent.skip) | (apply EntX.then_ret) | (apply EntX.block_ret) | (apply EntX.then_exit) | (apply EntX.block_exit; exact rfl) | (apply EntX.block_exit_other; exact rfl) | (apply EntX.block_normal) | refine EntL.g1x ?_ | refine EntL.g2x ?_ | refine EntL.g3 ?_ | refine Ent.c1x ?_ | refine Ent.c2x ?_))
    refine EntX.ret_of (res1 rfl rfl) () trivial (by simp [unpinA, atN_miss hm]) (by simp only [unpinA, atN_miss hm]; exact shutRC hA hg rfl rfl (by (repeat (first | exact Fits.rfl | exact Fits.nil | exact Sel.here | apply Sel.there | apply Fits.cons | apply Fits.drop))))
  · subst hAA
    obtain ⟨L1, p, L2, rfl, rfl, rfl⟩ := map_snd_mid hA
    rw [foundR_hit hab hA1]
    have hpa := hp a (by simp)
    by_cases h0 : a.pins = 0
    · (repeat (first | refine EntL.qx ?_ | (apply Ent.seq) | (apply Ent.region) | (apply EntL.nil) | (apply EntX.then_normal) | refine EntL.ux ?_ | (refine EntL.nn (fun _ _ => ?_)) | (apply Ent.block) | (apply Ent.exit) | (apply Ent.ret) | (apply Ent.skip) | (apply EntX.then_ret) | (apply EntX.block_ret) | (apply EntX.then_exit) | (apply EntX.block_exit; exact rfl) | (apply EntX.block_exit_other; exact rfl) | (apply EntX.block_normal) | refine EntL.g1x ?_ | refine EntL.g2x ?_ | refine EntL.g3 ?_ | refine Ent.c1x ?_ | refine Ent.c2x ?_))
      refine mmEntR (E1 := L1) (E2 := L2) (by (repeat (first | exact Sel.here | apply Sel.there))) (fun dv => ?_)
      (repeat (first | refine EntL.qx ?_ | (apply Ent.seq) | (apply Ent.region) | (apply EntL.nil) | (apply EntX.then_normal) | refine EntL.ux ?_ | (refine EntL.nn (fun _ _ => ?_)) | (apply Ent.block) | (apply Ent.exit) | (apply Ent.ret) | (apply Ent.skip) | (apply EntX.then_ret) | (apply EntX.block_ret) | (apply EntX.then_exit) | (apply EntX.block_exit; exact rfl) | (apply EntX.block_exit_other; exact rfl) | (apply EntX.block_normal) | refine EntL.g1x ?_ | refine EntL.g2x ?_ | refine EntL.g3 ?_ | refine Ent.c1x ?_ | refine Ent.c2x ?_))
      refine EntX.ret_of (res1 rfl rfl) () trivial (by simp [unpinA, atN_hit hab hA1, h0]) ?_
      rw [show unpinA b (L1.map Prod.snd ++ a :: L2.map Prod.snd) = (1, L1.map Prod.snd ++ a :: L2.map Prod.snd) by simp [unpinA, atN_hit hab hA1, h0]]
      exact mem_trans (shutEntR (E1 := L1) (E2 := L2) (p := p) (a := a) (dv := dv) (by (repeat (first | exact Fits.rfl | exact Fits.nil | exact Sel.here | apply Sel.there | apply Fits.cons | apply Fits.drop)))) (shutRC' (L := L1 ++ (p, a) :: L2) (by (repeat (first | exact Fits.rfl | exact Fits.nil | exact Sel.here | apply Sel.there | apply Fits.cons | apply Fits.drop))) (by simp) (by simp) (by simp) hg)
    · (repeat (first | refine EntL.qx ?_ | (apply Ent.seq) | (apply Ent.region) | (apply EntL.nil) | (apply EntX.then_normal) | refine EntL.ux ?_ | (refine EntL.nn (fun _ _ => ?_)) | (apply Ent.block) | (apply Ent.exit) | (apply Ent.ret) | (apply Ent.skip) | (apply EntX.then_ret) | (apply EntX.block_ret) | (apply EntX.then_exit) | (apply EntX.block_exit; exact rfl) | (apply EntX.block_exit_other; exact rfl) | (apply EntX.block_normal) | refine EntL.g1x ?_ | refine EntL.g2x ?_ | refine EntL.g3 ?_ | refine Ent.c1x ?_ | refine Ent.c2x ?_))
      refine mmEntR (E1 := L1) (E2 := L2) (by (repeat (first | exact Sel.here | apply Sel.there))) (fun dv => ?_)
      (repeat (first | refine EntL.qx ?_ | (apply Ent.seq) | (apply Ent.region) | (apply EntL.nil) | (apply EntX.then_normal) | refine EntL.ux ?_ | (refine EntL.nn (fun _ _ => ?_)) | (apply Ent.block) | (apply Ent.exit) | (apply Ent.ret) | (apply Ent.skip) | (apply EntX.then_ret) | (apply EntX.block_ret) | (apply EntX.then_exit) | (apply EntX.block_exit; exact rfl) | (apply EntX.block_exit_other; exact rfl) | (apply EntX.block_normal) | refine EntL.g1x ?_ | refine EntL.g2x ?_ | refine EntL.g3 ?_ | refine Ent.c1x ?_ | refine Ent.c2x ?_))
      refine EntX.ret_of (res1 rfl rfl) () trivial (by simp [unpinA, atN_hit hab hA1, h0]) ?_
      simp only [unpinA, atN_hit hab hA1, h0, if_false, turnN_hit hab (hg.numsA hA)]
      exact mem_trans (shutEntR (E1 := L1) (E2 := L2) (p := p) (a := { a with pins := a.pins - 1 }) (dv := dv) (by (repeat (first | exact Fits.rfl | exact Fits.nil | exact Sel.here | apply Sel.there | apply Fits.cons | apply Fits.drop)))) (shutRC' (L := L1 ++ (p, { a with pins := a.pins - 1 }) :: L2) (by (repeat (first | exact Fits.rfl | exact Fits.nil | exact Sel.here | apply Sel.there | apply Fits.cons | apply Fits.drop))) (by simp) (by simp) (by simp) (hg.turn rfl))
theorem cleanR_spec (c : Nat) (most b : Int) (A : List Ab) (hl : A.length ≤ 1500) : Ctr Try.prog 29 [ptrV c, .int .i64 b] (fun R => RC c most A :: R) (fun _ : Unit => True)
    (fun _ => .int .i64 (cleanA b A).1) (fun _ R => RC c most (cleanA b A).2 :: R) := by
  refine Ctr.of_ent Try.func29 rfl Try.ntmps29 rfl (fun σ R => ?_)
  refine mmRC (by (repeat (first | exact Sel.here | apply Sel.there))) (fun L rv hA hg => ?_)
  have hlen' : L.length = A.length := by rw [← hA]; simp
  (repeat (first | refine EntL.qx ?_ | (apply Ent.seq) | (apply Ent.region) | (apply EntL.nil) | (apply EntX.then_normal) | refine EntL.ux ?_ | (refine EntL.nn (fun _ _ => ?_)) | (apply Ent.block) | (apply Ent.exit) | (apply Ent.ret) | (apply Ent.skip) | (apply EntX.then_ret) | (apply EntX.block_ret) | (apply EntX.then_exit) | (apply EntX.block_exit; exact rfl) | (apply EntX.block_exit_other; exact rfl) | (apply EntX.block_normal) | refine EntL.g1x ?_ | refine EntL.g2x ?_ | refine EntL.g3 ?_ | refine Ent.c1x ?_ | refine Ent.c2x ?_))
  refine EntL.call (at_spec c (.int .i64 most) rv b L (by omega)) rfl (by (repeat (first | exact Fits.rfl | exact Fits.nil | exact Sel.here | apply Sel.there | apply Fits.cons | apply Fits.drop))) rfl ?_
  rintro _ -
  rcases hit_or b A with hm | ⟨A1, a, A2, hAA, hab, hA1⟩
  · rw [foundR_miss (snd_miss hA hm)]
    (repeat (first | refine EntL.qx ?_ | (apply Ent.seq) | (apply Ent.region) | (apply EntL.nil) | (apply EntX.then_normal) | refine EntL.ux ?_ | (refine EntL.nn (fun _ _ => ?_)) | (apply Ent.block) | (apply Ent.exit) | (apply Ent.ret) | (apply Ent.skip) | (apply EntX.then_ret) | (apply EntX.block_ret) | (apply EntX.then_exit) | (apply EntX.block_exit; exact rfl) | (apply EntX.block_exit_other; exact rfl) | (apply EntX.block_normal) | refine EntL.g1x ?_ | refine EntL.g2x ?_ | refine EntL.g3 ?_ | refine Ent.c1x ?_ | refine Ent.c2x ?_))
    refine EntX.ret_of (res1 rfl rfl) () trivial (by simp [cleanA, atN_miss hm]) (by simp only [cleanA, atN_miss hm]; exact shutRC hA hg rfl rfl (by (repeat (first | exact Fits.rfl | exact Fits.nil | exact Sel.here | apply Sel.there | apply Fits.cons | apply Fits.drop))))
  · subst hAA
    obtain ⟨L1, p, L2, rfl, rfl, rfl⟩ := map_snd_mid hA
    rw [foundR_hit hab hA1]
    (repeat (first | refine EntL.qx ?_ | (apply Ent.seq) | (apply Ent.region) | (apply EntL.nil) | (apply EntX.then_normal) | refine EntL.ux ?_ | (refine EntL.nn (fun _ _ => ?_)) | (apply Ent.block) | (apply Ent.exit) | (apply Ent.ret) | (apply Ent.skip) | (apply EntX.then_ret) | (apply EntX.block_ret) | (apply EntX.then_exit) | (apply EntX.block_exit; exact rfl) | (apply EntX.block_exit_other; exact rfl) | (apply EntX.block_normal) | refine EntL.g1x ?_ | refine EntL.g2x ?_ | refine EntL.g3 ?_ | refine Ent.c1x ?_ | refine Ent.c2x ?_))
    refine mmEntR (E1 := L1) (E2 := L2) (by (repeat (first | exact Sel.here | apply Sel.there))) (fun dv => ?_)
    (repeat (first | refine EntL.qx ?_ | (apply Ent.seq) | (apply Ent.region) | (apply EntL.nil) | (apply EntX.then_normal) | refine EntL.ux ?_ | (refine EntL.nn (fun _ _ => ?_)) | (apply Ent.block) | (apply Ent.exit) | (apply Ent.ret) | (apply Ent.skip) | (apply EntX.then_ret) | (apply EntX.block_ret) | (apply EntX.then_exit) | (apply EntX.block_exit; exact rfl) | (apply EntX.block_exit_other; exact rfl) | (apply EntX.block_normal) | refine EntL.g1x ?_ | refine EntL.g2x ?_ | refine EntL.g3 ?_ | refine Ent.c1x ?_ | refine Ent.c2x ?_))
    refine EntX.ret_of (res1 rfl rfl) () trivial (by simp [cleanA, atN_hit hab hA1]) ?_
    simp only [cleanA, atN_hit hab hA1, Option.isSome_some, if_true, turnN_hit hab (hg.numsA hA)]
    exact mem_trans (shutEntR (E1 := L1) (E2 := L2) (p := p) (a := { a with dirty := false }) (dv := dv) (by (repeat (first | exact Fits.rfl | exact Fits.nil | exact Sel.here | apply Sel.there | apply Fits.cons | apply Fits.drop)))) (shutRC' (L := L1 ++ (p, { a with dirty := false }) :: L2) (by (repeat (first | exact Fits.rfl | exact Fits.nil | exact Sel.here | apply Sel.there | apply Fits.cons | apply Fits.drop))) (by simp) (by simp) (by simp) (hg.turn rfl))
theorem dropR_spec (c : Nat) (most b : Int) (A : List Ab) (hp : ∀ a ∈ A, 0 ≤ a.pins) (hl : A.length ≤ 1500) : Ctr Try.prog 30 [ptrV c, .int .i64 b] (fun R => RC c most A :: R) (fun _ : Unit => True)
    (fun _ => .int .i64 (dropA b A).1) (fun _ R => RC c most (dropA b A).2 :: R) := by
  refine Ctr.of_ent Try.func30 rfl Try.ntmps30 rfl (fun σ R => ?_)
  refine mmRC (by (repeat (first | exact Sel.here | apply Sel.there))) (fun L rv hA hg => ?_)
  have hlen' : L.length = A.length := by rw [← hA]; simp
  have hlen : (L.map Prod.fst).length = A.length := by rw [← hA]; simp
  (repeat (first | refine EntL.qx ?_ | (apply Ent.seq) | (apply Ent.region) | (apply EntL.nil) | (apply EntX.then_normal) | refine EntL.ux ?_ | (refine EntL.nn (fun _ _ => ?_)) | (apply Ent.block) | (apply Ent.exit) | (apply Ent.ret) | (apply Ent.skip) | (apply EntX.then_ret) | (apply EntX.block_ret) | (apply EntX.then_exit) | (apply EntX.block_exit; exact rfl) | (apply EntX.block_exit_other; exact rfl) | (apply EntX.block_normal) | refine EntL.g1x ?_ | refine EntL.g2x ?_ | refine EntL.g3 ?_ | refine Ent.c1x ?_ | refine Ent.c2x ?_))
  refine EntL.call (at_spec c (.int .i64 most) rv b L (by omega)) rfl (by (repeat (first | exact Fits.rfl | exact Fits.nil | exact Sel.here | apply Sel.there | apply Fits.cons | apply Fits.drop))) rfl ?_
  rintro _ -
  rcases hit_or b A with hm | ⟨A1, a, A2, hAA, hab, hA1⟩
  · rw [foundR_miss (snd_miss hA hm)]
    (repeat (first | refine EntL.qx ?_ | (apply Ent.seq) | (apply Ent.region) | (apply EntL.nil) | (apply EntX.then_normal) | refine EntL.ux ?_ | (refine EntL.nn (fun _ _ => ?_)) | (apply Ent.block) | (apply Ent.exit) | (apply Ent.ret) | (apply Ent.skip) | (apply EntX.then_ret) | (apply EntX.block_ret) | (apply EntX.then_exit) | (apply EntX.block_exit; exact rfl) | (apply EntX.block_exit_other; exact rfl) | (apply EntX.block_normal) | refine EntL.g1x ?_ | refine EntL.g2x ?_ | refine EntL.g3 ?_ | refine Ent.c1x ?_ | refine Ent.c2x ?_))
    refine EntX.ret_of (res1 rfl rfl) () trivial (by simp [dropA, atN_miss hm]) (by simp only [dropA, atN_miss hm]; exact shutRC hA hg rfl rfl (by (repeat (first | exact Fits.rfl | exact Fits.nil | exact Sel.here | apply Sel.there | apply Fits.cons | apply Fits.drop))))
  · subst hAA
    obtain ⟨L1, p, L2, rfl, rfl, rfl⟩ := map_snd_mid hA
    rw [foundR_hit hab hA1]
    have hpa := hp a (by simp)
    (repeat (first | refine EntL.qx ?_ | (apply Ent.seq) | (apply Ent.region) | (apply EntL.nil) | (apply EntX.then_normal) | refine EntL.ux ?_ | (refine EntL.nn (fun _ _ => ?_)) | (apply Ent.block) | (apply Ent.exit) | (apply Ent.ret) | (apply Ent.skip) | (apply EntX.then_ret) | (apply EntX.block_ret) | (apply EntX.then_exit) | (apply EntX.block_exit; exact rfl) | (apply EntX.block_exit_other; exact rfl) | (apply EntX.block_normal) | refine EntL.g1x ?_ | refine EntL.g2x ?_ | refine EntL.g3 ?_ | refine Ent.c1x ?_ | refine Ent.c2x ?_))
    refine mmEntR (E1 := L1) (E2 := L2) (by (repeat (first | exact Sel.here | apply Sel.there))) (fun dv => ?_)
    by_cases h0 : 0 < a.pins
    · have hf : a.free = false := by simp [Ab.free]; omega
      (repeat (first | refine EntL.qx ?_ | (apply Ent.seq) | (apply Ent.region) | (apply EntL.nil) | (apply EntX.then_normal) | refine EntL.ux ?_ | (refine EntL.nn (fun _ _ => ?_)) | (apply Ent.block) | (apply Ent.exit) | (apply Ent.ret) | (apply Ent.skip) | (apply EntX.then_ret) | (apply EntX.block_ret) | (apply EntX.then_exit) | (apply EntX.block_exit; exact rfl) | (apply EntX.block_exit_other; exact rfl) | (apply EntX.block_normal) | refine EntL.g1x ?_ | refine EntL.g2x ?_ | refine EntL.g3 ?_ | refine Ent.c1x ?_ | refine Ent.c2x ?_))
      refine EntX.ret_of (res1 rfl rfl) () trivial (by simp [dropA, atN_hit hab hA1, hf]) ?_
      simp only [dropA, atN_hit hab hA1, hf]
      exact mem_trans (shutEntR (E1 := L1) (E2 := L2) (p := p) (a := a) (dv := dv) (by (repeat (first | exact Fits.rfl | exact Fits.nil | exact Sel.here | apply Sel.there | apply Fits.cons | apply Fits.drop)))) (shutRC' (L := L1 ++ (p, a) :: L2) (by (repeat (first | exact Fits.rfl | exact Fits.nil | exact Sel.here | apply Sel.there | apply Fits.cons | apply Fits.drop))) (by simp) (by simp) (by simp) hg)
    · cases hd : a.dirty
      · have hf : a.free = true := by simp [Ab.free, hd]; omega
        (repeat (first | refine EntL.qx ?_ | (apply Ent.seq) | (apply Ent.region) | (apply EntL.nil) | (apply EntX.then_normal) | refine EntL.ux ?_ | (refine EntL.nn (fun _ _ => ?_)) | (apply Ent.block) | (apply Ent.exit) | (apply Ent.ret) | (apply Ent.skip) | (apply EntX.then_ret) | (apply EntX.block_ret) | (apply EntX.then_exit) | (apply EntX.block_exit; exact rfl) | (apply EntX.block_exit_other; exact rfl) | (apply EntX.block_normal) | refine EntL.g1x ?_ | refine EntL.g2x ?_ | refine EntL.g3 ?_ | refine Ent.c1x ?_ | refine Ent.c2x ?_))
        refine mm (shutEntR (E1 := L1) (E2 := L2) (p := p) (a := a) (dv := dv) (by rw [hd]; (repeat (first | exact Fits.rfl | exact Fits.nil | exact Sel.here | apply Sel.there | apply Fits.cons | apply Fits.drop)))) ?_
        refine EntL.call (gone_spec c p (.int .i64 most) rv ((L1 ++ (p, a) :: L2).map Prod.fst) (L1 ++ (p, a) :: L2) (by omega) (fun q hq => hq) (by simp)) rfl (by (repeat (first | exact Fits.rfl | exact Fits.nil | exact Sel.here | apply Sel.there | apply Fits.cons | apply Fits.drop))) rfl ?_
        rintro _ ⟨va, vc, rfl⟩
        rw [hg.mid_keep]
        (repeat (first | refine EntL.qx ?_ | (apply Ent.seq) | (apply Ent.region) | (apply EntL.nil) | (apply EntX.then_normal) | refine EntL.ux ?_ | (refine EntL.nn (fun _ _ => ?_)) | (apply Ent.block) | (apply Ent.exit) | (apply Ent.ret) | (apply Ent.skip) | (apply EntX.then_ret) | (apply EntX.block_ret) | (apply EntX.then_exit) | (apply EntX.block_exit; exact rfl) | (apply EntX.block_exit_other; exact rfl) | (apply EntX.block_normal) | refine EntL.g1x ?_ | refine EntL.g2x ?_ | refine EntL.g3 ?_ | refine Ent.c1x ?_ | refine Ent.c2x ?_))
        refine EntX.mem (entsR_drop (L1 := L1) (L2 := L2) (p := p) (a := a) (by (repeat (first | exact Fits.rfl | exact Fits.nil | exact Sel.here | apply Sel.there | apply Fits.cons | apply Fits.drop)))) ?_
        refine EntX.ret_of (res1 rfl rfl) () trivial (by simp [dropA, atN_hit hab hA1, hf]) ?_
        simp only [dropA, atN_hit hab hA1, hf, if_true, rest_hit hab hA1]
        exact shutRC' (L := L1 ++ L2) (by (repeat (first | exact Fits.rfl | exact Fits.nil | exact Sel.here | apply Sel.there | apply Fits.cons | apply Fits.drop))) rfl rfl (by simp) hg.mid_del
      · have hf : a.free = false := by simp [Ab.free, hd]
        (repeat (first | refine EntL.qx ?_ | (apply Ent.seq) | (apply Ent.region) | (apply EntL.nil) | (apply EntX.then_normal) | refine EntL.ux ?_ | (refine EntL.nn (fun _ _ => ?_)) | (apply Ent.block) | (apply Ent.exit) | (apply Ent.ret) | (apply Ent.skip) | (apply EntX.then_ret) | (apply EntX.block_ret) | (apply EntX.then_exit) | (apply EntX.block_exit; exact rfl) | (apply EntX.block_exit_other; exact rfl) | (apply EntX.block_normal) | refine EntL.g1x ?_ | refine EntL.g2x ?_ | refine EntL.g3 ?_ | refine Ent.c1x ?_ | refine Ent.c2x ?_))
        refine EntX.ret_of (res1 rfl rfl) () trivial (by simp [dropA, atN_hit hab hA1, hf]) ?_
        simp only [dropA, atN_hit hab hA1, hf]
        exact mem_trans (shutEntR (E1 := L1) (E2 := L2) (p := p) (a := a) (dv := dv) (by rw [hd]; (repeat (first | exact Fits.rfl | exact Fits.nil | exact Sel.here | apply Sel.there | apply Fits.cons | apply Fits.drop)))) (shutRC' (L := L1 ++ (p, a) :: L2) (by (repeat (first | exact Fits.rfl | exact Fits.nil | exact Sel.here | apply Sel.there | apply Fits.cons | apply Fits.drop))) (by simp) (by simp) (by simp) hg)
theorem heldR_spec (c : Nat) (most : Int) (A : List Ab) (hl : A.length ≤ 1500) : Ctr Try.prog 11 [ptrV c] (fun R => RC c most A :: R) (fun v : Value => IsSl A.length v)
    (fun v => v) (fun v R => own 1 v A.length (ints (numsOf A)) :: RC c most A :: R) := by
  refine Ctr.of_ent Try.func11 rfl Try.ntmps11 rfl (fun σ R => ?_)
  refine mmRC (by (repeat (first | exact Sel.here | apply Sel.there))) (fun L rv hA hg => ?_)
  have hlen' : L.length = A.length := by rw [← hA]; simp
  have hlen : (L.map Prod.fst).length = A.length := by rw [← hA]; simp
  refine mmOwnA (by (repeat (first | exact Sel.here | apply Sel.there))) (fun ra rc hv _ _ hp => ?_)
  subst hv
  (repeat (first | refine EntL.qx ?_ | (apply Ent.seq) | (apply Ent.region) | (apply EntL.nil) | (apply EntX.then_normal) | refine EntL.ux ?_ | (refine EntL.nn (fun _ _ => ?_)) | (apply Ent.block) | (apply Ent.exit) | (apply Ent.ret) | (apply Ent.skip) | (apply EntX.then_ret) | (apply EntX.block_ret) | (apply EntX.then_exit) | (apply EntX.block_exit; exact rfl) | (apply EntX.block_exit_other; exact rfl) | (apply EntX.block_normal) | refine EntL.g1x ?_ | refine EntL.g2x ?_ | refine EntL.g3 ?_ | refine Ent.c1x ?_ | refine Ent.c2x ?_))
  refine mm (own_none (sz := 1)) ?_
  refine Ent.loop (α := Nat × Value) (fun x => [(0, ptrV c), (3, x.2), (4, .int .i64 x.1)])
    (fun x => own 1 x.2 x.1 (ints (numsOf (A.take x.1))) :: cl c [.int .i64 most, .slice ra (L.map Prod.fst).length rc] :: own 1 (.slice ra (L.map Prod.fst).length rc) (L.map Prod.fst).length ((L.map Prod.fst).map ptrV) :: entsR L :: R)
    (fun x => x.1 ≤ A.length) (fun x => A.length - x.1) (0, .slice none 0 0) (Nat.zero_le _) (by repeat (first | exact EnvSub.nil | refine EnvSub.cons rfl ?_)) (fun _ h => h) ?_
  rintro ⟨i, v⟩ hi
  simp only at hi ⊢
  refine mmOwnA (k := i) (cs := ints (numsOf (A.take i))) (by (repeat (first | exact Sel.here | apply Sel.there))) (fun va vc hv _ _ _ => ?_)
  subst hv
  by_cases hil : i < A.length
  · obtain ⟨bb, rfl⟩ := hp (by omega)
    obtain ⟨L1, p, a, L2, rfl, rfl⟩ := row_at' (L := L) (i := i) (by omega)
    have hget := ptr_mid (L1 := L1) (L2 := L2) (p := p) (a := a)
    have hAe : A.take (L1.length + 1) = A.take L1.length ++ [a] := by
      have e1 : A = L1.map Prod.snd ++ a :: L2.map Prod.snd := by rw [← hA]; simp
      have e2 : L1.length = (L1.map Prod.snd).length := by simp
      rw [e1, e2, take_mid, take_mid0]
    (repeat (first | refine EntL.qx ?_ | (apply Ent.seq) | (apply Ent.region) | (apply EntL.nil) | (apply EntX.then_normal) | refine EntL.ux ?_ | (refine EntL.nn (fun _ _ => ?_)) | (apply Ent.block) | (apply Ent.exit) | (apply Ent.ret) | (apply Ent.skip) | (apply EntX.then_ret) | (apply EntX.block_ret) | (apply EntX.then_exit) | (apply EntX.block_exit; exact rfl) | (apply EntX.block_exit_other; exact rfl) | (apply EntX.block_normal) | refine EntL.g1x ?_ | refine EntL.g2x ?_ | refine EntL.g3 ?_ | refine Ent.c1x ?_ | refine Ent.c2x ?_))
    refine mmEntR (E1 := L1) (E2 := L2) (by (repeat (first | exact Sel.here | apply Sel.there))) (fun dv => ?_)
    (repeat (first | refine EntL.qx ?_ | (apply Ent.seq) | (apply Ent.region) | (apply EntL.nil) | (apply EntX.then_normal) | refine EntL.ux ?_ | (refine EntL.nn (fun _ _ => ?_)) | (apply Ent.block) | (apply Ent.exit) | (apply Ent.ret) | (apply Ent.skip) | (apply EntX.then_ret) | (apply EntX.block_ret) | (apply EntX.then_exit) | (apply EntX.block_exit; exact rfl) | (apply EntX.block_exit_other; exact rfl) | (apply EntX.block_normal) | refine EntL.g1x ?_ | refine EntL.g2x ?_ | refine EntL.g3 ?_ | refine Ent.c1x ?_ | refine Ent.c2x ?_))
    (apply EntL.new; (focus (apply OpTo.append; exact rfl; exact rfl; (first | exact own_sel (by (repeat (first | exact Sel.here | apply Sel.there))) | exact own_none | (apply own_cl; (focus (repeat (first | exact Sel.here | apply Sel.there))); exact rfl)); (first | exact reads_own (by (repeat (first | exact Sel.here | apply Sel.there))) | exact reads_none | (refine reads_blk inferInstance rfl ?_; (focus (first | (simp; done) | omega | (simp; omega))))); exact rfl; exact rfl; (first | exact bv_one _ | (focus (simp [Value.oneCell']; done)) | assumption); (first | (unfold room; omega) | (unfold room; simp; omega)); (first | omega | (simp; omega)))); exact rfl)
    rintro _ ⟨a', c', rfl⟩
    (repeat (first | refine EntL.qx ?_ | (apply Ent.seq) | (apply Ent.region) | (apply EntL.nil) | (apply EntX.then_normal) | refine EntL.ux ?_ | (refine EntL.nn (fun _ _ => ?_)) | (apply Ent.block) | (apply Ent.exit) | (apply Ent.ret) | (apply Ent.skip) | (apply EntX.then_ret) | (apply EntX.block_ret) | (apply EntX.then_exit) | (apply EntX.block_exit; exact rfl) | (apply EntX.block_exit_other; exact rfl) | (apply EntX.block_normal) | refine EntL.g1x ?_ | refine EntL.g2x ?_ | refine EntL.g3 ?_ | refine Ent.c1x ?_ | refine Ent.c2x ?_))
    refine EntX.round_end (L1.length + 1, _) (by simp only; omega) (by simp only; omega) (by repeat (first | exact EnvSub.nil | refine EnvSub.cons rfl ?_)) ?_
    rw [hAe]
    simp only [numsOf, List.map_append, List.map_cons, List.map_nil]
    exact mem_trans (shutEntR (E1 := L1) (E2 := L2) (p := p) (a := a) (dv := dv) (by (repeat (first | exact Fits.rfl | exact Fits.nil | exact Sel.here | apply Sel.there | apply Fits.cons | apply Fits.drop)))) (by exact Fits.keep (by (repeat (first | exact Fits.rfl | exact Fits.nil | exact Sel.here | apply Sel.there | apply Fits.cons | apply Fits.drop))))
  · have : i = A.length := by omega
    subst this
    rw [List.take_of_length_le (Nat.le_refl _)]
    (repeat (first | refine EntL.qx ?_ | (apply Ent.seq) | (apply Ent.region) | (apply EntL.nil) | (apply EntX.then_normal) | refine EntL.ux ?_ | (refine EntL.nn (fun _ _ => ?_)) | (apply Ent.block) | (apply Ent.exit) | (apply Ent.ret) | (apply Ent.skip) | (apply EntX.then_ret) | (apply EntX.block_ret) | (apply EntX.then_exit) | (apply EntX.block_exit; exact rfl) | (apply EntX.block_exit_other; exact rfl) | (apply EntX.block_normal) | refine EntL.g1x ?_ | refine EntL.g2x ?_ | refine EntL.g3 ?_ | refine Ent.c1x ?_ | refine Ent.c2x ?_))
    refine EntX.ret_of (res1 rfl rfl) (.slice va A.length vc) ⟨_, _, rfl⟩ rfl (mem_trans (shutRC' (L := L) (A := A) (by (repeat (first | exact Fits.rfl | exact Fits.nil | exact Sel.here | apply Sel.there | apply Fits.cons | apply Fits.drop))) rfl rfl hA hg) (by exact Fits.keep (by (repeat (first | exact Fits.rfl | exact Fits.nil | exact Sel.here | apply Sel.there | apply Fits.cons | apply Fits.drop)))))
end Go.Proofs.Ythlbimdlpadhdaa
