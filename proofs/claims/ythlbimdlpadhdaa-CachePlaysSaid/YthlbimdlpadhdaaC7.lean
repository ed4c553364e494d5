/- The cache's Fill, Put, Pin, Unpin, Clean, Drop. -/
import Derived.Test.YthlbimdlpadhdaaC6
namespace Go.Proofs.Ythlbimdlpadhdaa
open Go Go.Sl

theorem pin_spec (c : Nat) (most b : Int) (A : List Ab) (hp : ∀ a ∈ A, -10000 ≤ a.pins ∧ a.pins ≤ 10000) : Ctr Try.prog 18 [ptrV c, .int .i64 b] (fun R => CA c most A :: R) (fun _ : Unit => True)
    (fun _ => .int .i64 (pinA b A).1) (fun _ R => CA c most (pinA b A).2 :: R) := by
  refine Ctr.of_ent Try.func18 rfl Try.ntmps18 rfl (fun σ R => ?_)
  rcases hit_or b A with hm | ⟨A1, a, A2, rfl, rfl, hA1⟩
  · refine Ent.openCA (by (repeat (first | exact Sel.here | apply Sel.there))) (fun L rv mb kv hA hg => ?_)
    have hk := hg.no b (fun e he => hm e.2 (hA ▸ List.mem_map_of_mem he))
    (repeat (first | refine EntL.qq ?_ | (apply Ent.seq) | (apply Ent.region) | (apply EntL.nil) | (apply EntX.then_normal) | refine EntL.uu ?_ | (refine EntL.nn (fun _ _ => ?_)) | (apply Ent.block) | (apply Ent.exit) | (apply Ent.ret) | (apply Ent.skip) | (apply EntX.then_ret) | (apply EntX.block_ret) | (apply EntX.then_exit) | (apply EntX.block_exit; exact rfl) | (apply EntX.block_exit_other; exact rfl) | (apply EntX.block_normal) | refine EntL.g1 ?_ | refine EntL.g2 ?_ | refine EntL.g3 ?_ | refine Ent.c1 ?_ | refine Ent.c2 ?_))
    rw [hk]
    (repeat (first | refine EntL.qq ?_ | (apply Ent.seq) | (apply Ent.region) | (apply EntL.nil) | (apply EntX.then_normal) | refine EntL.uu ?_ | (refine EntL.nn (fun _ _ => ?_)) | (apply Ent.block) | (apply Ent.exit) | (apply Ent.ret) | (apply Ent.skip) | (apply EntX.then_ret) | (apply EntX.block_ret) | (apply EntX.then_exit) | (apply EntX.block_exit; exact rfl) | (apply EntX.block_exit_other; exact rfl) | (apply EntX.block_normal) | refine EntL.g1 ?_ | refine EntL.g2 ?_ | refine EntL.g3 ?_ | refine Ent.c1 ?_ | refine Ent.c2 ?_))
    refine EntX.ret_of (res1 rfl rfl) () trivial (by simp [pinA, atN_miss hm]) (by simp only [pinA, atN_miss hm]; exact shutCA hA hg (by (repeat (first | exact Fits.rfl | exact Fits.nil | exact Sel.here | apply Sel.there | apply Fits.cons | apply Fits.drop))))
  · refine Ent.openCA (by (repeat (first | exact Sel.here | apply Sel.there))) (fun L rv mb kv hA hg => ?_)
    have hn := hg.numsA hA
    have hp := hp a (by simp)
    obtain ⟨L1, p, L2, rfl, rfl, rfl⟩ := map_snd_mid hA
    have hk := hg.yes (p, a) (by simp)
    (repeat (first | refine EntL.qq ?_ | (apply Ent.seq) | (apply Ent.region) | (apply EntL.nil) | (apply EntX.then_normal) | refine EntL.uu ?_ | (refine EntL.nn (fun _ _ => ?_)) | (apply Ent.block) | (apply Ent.exit) | (apply Ent.ret) | (apply Ent.skip) | (apply EntX.then_ret) | (apply EntX.block_ret) | (apply EntX.then_exit) | (apply EntX.block_exit; exact rfl) | (apply EntX.block_exit_other; exact rfl) | (apply EntX.block_normal) | refine EntL.g1 ?_ | refine EntL.g2 ?_ | refine EntL.g3 ?_ | refine Ent.c1 ?_ | refine Ent.c2 ?_))
    rw [hk]
    (repeat (first | refine EntL.qq ?_ | (apply Ent.seq) | (apply Ent.region) | (apply EntL.nil) | (apply EntX.then_normal) | refine EntL.uu ?_ | (refine EntL.nn (fun _ _ => ?_)) | (apply Ent.block) | (apply Ent.exit) | (apply Ent.ret) | (apply Ent.skip) | (apply EntX.then_ret) | (apply EntX.block_ret) | (apply EntX.then_exit) | (apply EntX.block_exit; exact rfl) | (apply EntX.block_exit_other; exact rfl) | (apply EntX.block_normal) | refine EntL.g1 ?_ | refine EntL.g2 ?_ | refine EntL.g3 ?_ | refine Ent.c1 ?_ | refine Ent.c2 ?_))
    refine EntL.memEx (St.openEnt (E1 := L1) (E2 := L2) (p := p) (a := a) (by (repeat (first | exact Sel.here | apply Sel.there)))) (fun dv _ => ?_)
    (repeat (first | refine EntL.qq ?_ | (apply Ent.seq) | (apply Ent.region) | (apply EntL.nil) | (apply EntX.then_normal) | refine EntL.uu ?_ | (refine EntL.nn (fun _ _ => ?_)) | (apply Ent.block) | (apply Ent.exit) | (apply Ent.ret) | (apply Ent.skip) | (apply EntX.then_ret) | (apply EntX.block_ret) | (apply EntX.then_exit) | (apply EntX.block_exit; exact rfl) | (apply EntX.block_exit_other; exact rfl) | (apply EntX.block_normal) | refine EntL.g1 ?_ | refine EntL.g2 ?_ | refine EntL.g3 ?_ | refine Ent.c1 ?_ | refine Ent.c2 ?_))
    refine EntX.ret_of (res1 rfl rfl) () trivial (by simp [pinA, atN_hit rfl hA1]) ?_
    simp only [pinA, atN_hit rfl hA1, Option.isSome_some, if_true, turnN_hit rfl hn]
    exact shutCAe (L := L1 ++ (p, { a with pins := a.pins + 1 }) :: L2) (E := L1 ++ L2) (p := p) (a := { a with pins := a.pins + 1 }) (dv := dv) (A := L1.map Prod.snd ++ { a with pins := a.pins + 1 } :: L2.map Prod.snd) List.perm_middle (by (repeat (first | exact Fits.rfl | exact Fits.nil | exact Sel.here | apply Sel.there | apply Fits.cons | apply Fits.drop))) (by simp) (by simp) (by simp) (hg.mid_turn rfl)

theorem unpin_spec (c : Nat) (most b : Int) (A : List Ab) (hp : ∀ a ∈ A, -10000 ≤ a.pins ∧ a.pins ≤ 10000) : Ctr Try.prog 19 [ptrV c, .int .i64 b] (fun R => CA c most A :: R) (fun _ : Unit => True)
    (fun _ => .int .i64 (unpinA b A).1) (fun _ R => CA c most (unpinA b A).2 :: R) := by
  refine Ctr.of_ent Try.func19 rfl Try.ntmps19 rfl (fun σ R => ?_)
  rcases hit_or b A with hm | ⟨A1, a, A2, rfl, rfl, hA1⟩
  · refine Ent.openCA (by (repeat (first | exact Sel.here | apply Sel.there))) (fun L rv mb kv hA hg => ?_)
    have hk := hg.no b (fun e he => hm e.2 (hA ▸ List.mem_map_of_mem he))
    (repeat (first | refine EntL.qq ?_ | (apply Ent.seq) | (apply Ent.region) | (apply EntL.nil) | (apply EntX.then_normal) | refine EntL.uu ?_ | (refine EntL.nn (fun _ _ => ?_)) | (apply Ent.block) | (apply Ent.exit) | (apply Ent.ret) | (apply Ent.skip) | (apply EntX.then_ret) | (apply EntX.block_ret) | (apply EntX.then_exit) | (apply EntX.block_exit; exact rfl) | (apply EntX.block_exit_other; exact rfl) | (apply EntX.block_normal) | refine EntL.g1 ?_ | refine EntL.g2 ?_ | refine EntL.g3 ?_ | refine Ent.c1 ?_ | refine Ent.c2 ?_))
    rw [hk]
    (repeat (first | refine EntL.qq ?_ | (apply Ent.seq) | (apply Ent.region) | (apply EntL.nil) | (apply EntX.then_normal) | refine EntL.uu ?_ | (refine EntL.nn (fun _ _ => ?_)) | (apply Ent.block) | (apply Ent.exit) | (apply Ent.ret) | (apply Ent.skip) | (apply EntX.then_ret) | (apply EntX.block_ret) | (apply EntX.then_exit) | (apply EntX.block_exit; exact rfl) | (apply EntX.block_exit_other; exact rfl) | (apply EntX.block_normal) | refine EntL.g1 ?_ | refine EntL.g2 ?_ | refine EntL.g3 ?_ | refine Ent.c1 ?_ | refine Ent.c2 ?_))
    refine EntX.ret_of (res1 rfl rfl) () trivial (by simp [unpinA, atN_miss hm]) (by simp only [unpinA, atN_miss hm]; exact shutCA hA hg (by (repeat (first | exact Fits.rfl | exact Fits.nil | exact Sel.here | apply Sel.there | apply Fits.cons | apply Fits.drop))))
  · refine Ent.openCA (by (repeat (first | exact Sel.here | apply Sel.there))) (fun L rv mb kv hA hg => ?_)
    have hn := hg.numsA hA
    have hp := hp a (by simp)
    obtain ⟨L1, p, L2, rfl, rfl, rfl⟩ := map_snd_mid hA
    have hk := hg.yes (p, a) (by simp)
    by_cases h0 : a.pins = 0
    · have hb : decide (a.pins = 0) = true := by simpa using h0
      (repeat (first | refine EntL.qq ?_ | (apply Ent.seq) | (apply Ent.region) | (apply EntL.nil) | (apply EntX.then_normal) | refine EntL.uu ?_ | (refine EntL.nn (fun _ _ => ?_)) | (apply Ent.block) | (apply Ent.exit) | (apply Ent.ret) | (apply Ent.skip) | (apply EntX.then_ret) | (apply EntX.block_ret) | (apply EntX.then_exit) | (apply EntX.block_exit; exact rfl) | (apply EntX.block_exit_other; exact rfl) | (apply EntX.block_normal) | refine EntL.g1 ?_ | refine EntL.g2 ?_ | refine EntL.g3 ?_ | refine Ent.c1 ?_ | refine Ent.c2 ?_))
      rw [hk]
      (repeat (first | refine EntL.qq ?_ | (apply Ent.seq) | (apply Ent.region) | (apply EntL.nil) | (apply EntX.then_normal) | refine EntL.uu ?_ | (refine EntL.nn (fun _ _ => ?_)) | (apply Ent.block) | (apply Ent.exit) | (apply Ent.ret) | (apply Ent.skip) | (apply EntX.then_ret) | (apply EntX.block_ret) | (apply EntX.then_exit) | (apply EntX.block_exit; exact rfl) | (apply EntX.block_exit_other; exact rfl) | (apply EntX.block_normal) | refine EntL.g1 ?_ | refine EntL.g2 ?_ | refine EntL.g3 ?_ | refine Ent.c1 ?_ | refine Ent.c2 ?_))
      refine EntL.memEx (St.openEnt (E1 := L1) (E2 := L2) (p := p) (a := a) (by (repeat (first | exact Sel.here | apply Sel.there)))) (fun dv _ => ?_)
      (repeat (first | refine EntL.qq ?_ | (apply Ent.seq) | (apply Ent.region) | (apply EntL.nil) | (apply EntX.then_normal) | refine EntL.uu ?_ | (refine EntL.nn (fun _ _ => ?_)) | (apply Ent.block) | (apply Ent.exit) | (apply Ent.ret) | (apply Ent.skip) | (apply EntX.then_ret) | (apply EntX.block_ret) | (apply EntX.then_exit) | (apply EntX.block_exit; exact rfl) | (apply EntX.block_exit_other; exact rfl) | (apply EntX.block_normal) | refine EntL.g1 ?_ | refine EntL.g2 ?_ | refine EntL.g3 ?_ | refine Ent.c1 ?_ | refine Ent.c2 ?_))
      refine EntX.ret_of (res1 rfl rfl) () trivial (by simp [unpinA, atN_hit rfl hA1, h0]) ?_
      simp only [unpinA, atN_hit rfl hA1, if_pos h0]
      exact shutCAe (L := L1 ++ (p, a) :: L2) (E := L1 ++ L2) (p := p) (a := a) (dv := dv) (A := L1.map Prod.snd ++ a :: L2.map Prod.snd) List.perm_middle (by (repeat (first | exact Fits.rfl | exact Fits.nil | exact Sel.here | apply Sel.there | apply Fits.cons | apply Fits.drop))) (by simp) (by simp) (by simp) hg
    · have hb : decide (a.pins = 0) = false := by simpa using h0
      (repeat (first | refine EntL.qq ?_ | (apply Ent.seq) | (apply Ent.region) | (apply EntL.nil) | (apply EntX.then_normal) | refine EntL.uu ?_ | (refine EntL.nn (fun _ _ => ?_)) | (apply Ent.block) | (apply Ent.exit) | (apply Ent.ret) | (apply Ent.skip) | (apply EntX.then_ret) | (apply EntX.block_ret) | (apply EntX.then_exit) | (apply EntX.block_exit; exact rfl) | (apply EntX.block_exit_other; exact rfl) | (apply EntX.block_normal) | refine EntL.g1 ?_ | refine EntL.g2 ?_ | refine EntL.g3 ?_ | refine Ent.c1 ?_ | refine Ent.c2 ?_))
      rw [hk]
      (repeat (first | refine EntL.qq ?_ | (apply Ent.seq) | (apply Ent.region) | (apply EntL.nil) | (apply EntX.then_normal) | refine EntL.uu ?_ | (refine EntL.nn (fun _ _ => ?_)) | (apply Ent.block) | (apply Ent.exit) | (apply Ent.ret) | (apply Ent.skip) | (apply EntX.then_ret) | (apply EntX.block_ret) | (apply EntX.then_exit) | (apply EntX.block_exit; exact rfl) | (apply EntX.block_exit_other; exact rfl) | (apply EntX.block_normal) | refine EntL.g1 ?_ | refine EntL.g2 ?_ | refine EntL.g3 ?_ | refine Ent.c1 ?_ | refine Ent.c2 ?_))
      refine EntL.memEx (St.openEnt (E1 := L1) (E2 := L2) (p := p) (a := a) (by (repeat (first | exact Sel.here | apply Sel.there)))) (fun dv _ => ?_)
      (repeat (first | refine EntL.qq ?_ | (apply Ent.seq) | (apply Ent.region) | (apply EntL.nil) | (apply EntX.then_normal) | refine EntL.uu ?_ | (refine EntL.nn (fun _ _ => ?_)) | (apply Ent.block) | (apply Ent.exit) | (apply Ent.ret) | (apply Ent.skip) | (apply EntX.then_ret) | (apply EntX.block_ret) | (apply EntX.then_exit) | (apply EntX.block_exit; exact rfl) | (apply EntX.block_exit_other; exact rfl) | (apply EntX.block_normal) | refine EntL.g1 ?_ | refine EntL.g2 ?_ | refine EntL.g3 ?_ | refine Ent.c1 ?_ | refine Ent.c2 ?_))
      refine EntX.ret_of (res1 rfl rfl) () trivial (by simp [unpinA, atN_hit rfl hA1, h0]) ?_
      simp only [unpinA, atN_hit rfl hA1, if_neg h0, turnN_hit rfl hn]
      exact shutCAe (L := L1 ++ (p, { a with pins := a.pins - 1 }) :: L2) (E := L1 ++ L2) (p := p) (a := { a with pins := a.pins - 1 }) (dv := dv) (A := L1.map Prod.snd ++ { a with pins := a.pins - 1 } :: L2.map Prod.snd) List.perm_middle (by (repeat (first | exact Fits.rfl | exact Fits.nil | exact Sel.here | apply Sel.there | apply Fits.cons | apply Fits.drop))) (by simp) (by simp) (by simp) (hg.mid_turn rfl)

theorem clean_spec (c : Nat) (most b : Int) (A : List Ab) : Ctr Try.prog 20 [ptrV c, .int .i64 b] (fun R => CA c most A :: R) (fun _ : Unit => True)
    (fun _ => .int .i64 (cleanA b A).1) (fun _ R => CA c most (cleanA b A).2 :: R) := by
  refine Ctr.of_ent Try.func20 rfl Try.ntmps20 rfl (fun σ R => ?_)
  rcases hit_or b A with hm | ⟨A1, a, A2, rfl, rfl, hA1⟩
  · refine Ent.openCA (by (repeat (first | exact Sel.here | apply Sel.there))) (fun L rv mb kv hA hg => ?_)
    have hk := hg.no b (fun e he => hm e.2 (hA ▸ List.mem_map_of_mem he))
    (repeat (first | refine EntL.qq ?_ | (apply Ent.seq) | (apply Ent.region) | (apply EntL.nil) | (apply EntX.then_normal) | refine EntL.uu ?_ | (refine EntL.nn (fun _ _ => ?_)) | (apply Ent.block) | (apply Ent.exit) | (apply Ent.ret) | (apply Ent.skip) | (apply EntX.then_ret) | (apply EntX.block_ret) | (apply EntX.then_exit) | (apply EntX.block_exit; exact rfl) | (apply EntX.block_exit_other; exact rfl) | (apply EntX.block_normal) | refine EntL.g1 ?_ | refine EntL.g2 ?_ | refine EntL.g3 ?_ | refine Ent.c1 ?_ | refine Ent.c2 ?_))
    rw [hk]
    (repeat (first | refine EntL.qq ?_ | (apply Ent.seq) | (apply Ent.region) | (apply EntL.nil) | (apply EntX.then_normal) | refine EntL.uu ?_ | (refine EntL.nn (fun _ _ => ?_)) | (apply Ent.block) | (apply Ent.exit) | (apply Ent.ret) | (apply Ent.skip) | (apply EntX.then_ret) | (apply EntX.block_ret) | (apply EntX.then_exit) | (apply EntX.block_exit; exact rfl) | (apply EntX.block_exit_other; exact rfl) | (apply EntX.block_normal) | refine EntL.g1 ?_ | refine EntL.g2 ?_ | refine EntL.g3 ?_ | refine Ent.c1 ?_ | refine Ent.c2 ?_))
    refine EntX.ret_of (res1 rfl rfl) () trivial (by simp [cleanA, atN_miss hm]) (by simp only [cleanA, atN_miss hm]; exact shutCA hA hg (by (repeat (first | exact Fits.rfl | exact Fits.nil | exact Sel.here | apply Sel.there | apply Fits.cons | apply Fits.drop))))
  · refine Ent.openCA (by (repeat (first | exact Sel.here | apply Sel.there))) (fun L rv mb kv hA hg => ?_)
    have hn := hg.numsA hA
    obtain ⟨L1, p, L2, rfl, rfl, rfl⟩ := map_snd_mid hA
    have hk := hg.yes (p, a) (by simp)
    (repeat (first | refine EntL.qq ?_ | (apply Ent.seq) | (apply Ent.region) | (apply EntL.nil) | (apply EntX.then_normal) | refine EntL.uu ?_ | (refine EntL.nn (fun _ _ => ?_)) | (apply Ent.block) | (apply Ent.exit) | (apply Ent.ret) | (apply Ent.skip) | (apply EntX.then_ret) | (apply EntX.block_ret) | (apply EntX.then_exit) | (apply EntX.block_exit; exact rfl) | (apply EntX.block_exit_other; exact rfl) | (apply EntX.block_normal) | refine EntL.g1 ?_ | refine EntL.g2 ?_ | refine EntL.g3 ?_ | refine Ent.c1 ?_ | refine Ent.c2 ?_))
    rw [hk]
    (repeat (first | refine EntL.qq ?_ | (apply Ent.seq) | (apply Ent.region) | (apply EntL.nil) | (apply EntX.then_normal) | refine EntL.uu ?_ | (refine EntL.nn (fun _ _ => ?_)) | (apply Ent.block) | (apply Ent.exit) | (apply Ent.ret) | (apply Ent.skip) | (apply EntX.then_ret) | (apply EntX.block_ret) | (apply EntX.then_exit) | (apply EntX.block_exit; exact rfl) | (apply EntX.block_exit_other; exact rfl) | (apply EntX.block_normal) | refine EntL.g1 ?_ | refine EntL.g2 ?_ | refine EntL.g3 ?_ | refine Ent.c1 ?_ | refine Ent.c2 ?_))
    refine EntL.memEx (St.openEnt (E1 := L1) (E2 := L2) (p := p) (a := a) (by (repeat (first | exact Sel.here | apply Sel.there)))) (fun dv _ => ?_)
    (repeat (first | refine EntL.qq ?_ | (apply Ent.seq) | (apply Ent.region) | (apply EntL.nil) | (apply EntX.then_normal) | refine EntL.uu ?_ | (refine EntL.nn (fun _ _ => ?_)) | (apply Ent.block) | (apply Ent.exit) | (apply Ent.ret) | (apply Ent.skip) | (apply EntX.then_ret) | (apply EntX.block_ret) | (apply EntX.then_exit) | (apply EntX.block_exit; exact rfl) | (apply EntX.block_exit_other; exact rfl) | (apply EntX.block_normal) | refine EntL.g1 ?_ | refine EntL.g2 ?_ | refine EntL.g3 ?_ | refine Ent.c1 ?_ | refine Ent.c2 ?_))
    refine EntX.ret_of (res1 rfl rfl) () trivial (by simp [cleanA, atN_hit rfl hA1]) ?_
    simp only [cleanA, atN_hit rfl hA1, Option.isSome_some, if_true, turnN_hit rfl hn]
    exact shutCAe (L := L1 ++ (p, { a with dirty := false }) :: L2) (E := L1 ++ L2) (p := p) (a := { a with dirty := false }) (dv := dv) (A := L1.map Prod.snd ++ { a with dirty := false } :: L2.map Prod.snd) List.perm_middle (by (repeat (first | exact Fits.rfl | exact Fits.nil | exact Sel.here | apply Sel.there | apply Fits.cons | apply Fits.drop))) (by simp) (by simp) (by simp) (hg.mid_turn rfl)

theorem drop_spec (c : Nat) (most b : Int) (A : List Ab) (hl : A.length ≤ 1500) : Ctr Try.prog 21 [ptrV c, .int .i64 b] (fun R => CA c most A :: R) (fun _ : Unit => True)
    (fun _ => .int .i64 (dropA b A).1) (fun _ R => CA c most (dropA b A).2 :: R) := by
  refine Ctr.of_ent Try.func21 rfl Try.ntmps21 rfl (fun σ R => ?_)
  rcases hit_or b A with hm | ⟨A1, a, A2, rfl, rfl, hA1⟩
  · refine Ent.openCA (by (repeat (first | exact Sel.here | apply Sel.there))) (fun L rv mb kv hA hg => ?_)
    have hk := hg.no b (fun e he => hm e.2 (hA ▸ List.mem_map_of_mem he))
    (repeat (first | refine EntL.qq ?_ | (apply Ent.seq) | (apply Ent.region) | (apply EntL.nil) | (apply EntX.then_normal) | refine EntL.uu ?_ | (refine EntL.nn (fun _ _ => ?_)) | (apply Ent.block) | (apply Ent.exit) | (apply Ent.ret) | (apply Ent.skip) | (apply EntX.then_ret) | (apply EntX.block_ret) | (apply EntX.then_exit) | (apply EntX.block_exit; exact rfl) | (apply EntX.block_exit_other; exact rfl) | (apply EntX.block_normal) | refine EntL.g1 ?_ | refine EntL.g2 ?_ | refine EntL.g3 ?_ | refine Ent.c1 ?_ | refine Ent.c2 ?_))
    rw [hk]
    (repeat (first | refine EntL.qq ?_ | (apply Ent.seq) | (apply Ent.region) | (apply EntL.nil) | (apply EntX.then_normal) | refine EntL.uu ?_ | (refine EntL.nn (fun _ _ => ?_)) | (apply Ent.block) | (apply Ent.exit) | (apply Ent.ret) | (apply Ent.skip) | (apply EntX.then_ret) | (apply EntX.block_ret) | (apply EntX.then_exit) | (apply EntX.block_exit; exact rfl) | (apply EntX.block_exit_other; exact rfl) | (apply EntX.block_normal) | refine EntL.g1 ?_ | refine EntL.g2 ?_ | refine EntL.g3 ?_ | refine Ent.c1 ?_ | refine Ent.c2 ?_))
    refine EntX.ret_of (res1 rfl rfl) () trivial (by simp [dropA, atN_miss hm]) (by simp only [dropA, atN_miss hm]; exact shutCA hA hg (by (repeat (first | exact Fits.rfl | exact Fits.nil | exact Sel.here | apply Sel.there | apply Fits.cons | apply Fits.drop))))
  · refine Ent.openCA (by (repeat (first | exact Sel.here | apply Sel.there))) (fun L rv mb kv hA hg => ?_)
    obtain ⟨L1, p, L2, rfl, rfl, rfl⟩ := map_snd_mid hA
    have hk := hg.yes (p, a) (by simp)
    (repeat (first | refine EntL.qq ?_ | (apply Ent.seq) | (apply Ent.region) | (apply EntL.nil) | (apply EntX.then_normal) | refine EntL.uu ?_ | (refine EntL.nn (fun _ _ => ?_)) | (apply Ent.block) | (apply Ent.exit) | (apply Ent.ret) | (apply Ent.skip) | (apply EntX.then_ret) | (apply EntX.block_ret) | (apply EntX.then_exit) | (apply EntX.block_exit; exact rfl) | (apply EntX.block_exit_other; exact rfl) | (apply EntX.block_normal) | refine EntL.g1 ?_ | refine EntL.g2 ?_ | refine EntL.g3 ?_ | refine Ent.c1 ?_ | refine Ent.c2 ?_))
    rw [hk]
    (repeat (first | refine EntL.qq ?_ | (apply Ent.seq) | (apply Ent.region) | (apply EntL.nil) | (apply EntX.then_normal) | refine EntL.uu ?_ | (refine EntL.nn (fun _ _ => ?_)) | (apply Ent.block) | (apply Ent.exit) | (apply Ent.ret) | (apply Ent.skip) | (apply EntX.then_ret) | (apply EntX.block_ret) | (apply EntX.then_exit) | (apply EntX.block_exit; exact rfl) | (apply EntX.block_exit_other; exact rfl) | (apply EntX.block_normal) | refine EntL.g1 ?_ | refine EntL.g2 ?_ | refine EntL.g3 ?_ | refine Ent.c1 ?_ | refine Ent.c2 ?_))
    refine EntL.call (free_spec L1 L2 p a) rfl (by (repeat (first | exact Fits.rfl | exact Fits.nil | exact Sel.here | apply Sel.there | apply Fits.cons | apply Fits.drop))) rfl ?_
    rintro _ -
    cases hf : a.free
    · have hb : (!false) = true := rfl
      (repeat (first | refine EntL.qq ?_ | (apply Ent.seq) | (apply Ent.region) | (apply EntL.nil) | (apply EntX.then_normal) | refine EntL.uu ?_ | (refine EntL.nn (fun _ _ => ?_)) | (apply Ent.block) | (apply Ent.exit) | (apply Ent.ret) | (apply Ent.skip) | (apply EntX.then_ret) | (apply EntX.block_ret) | (apply EntX.then_exit) | (apply EntX.block_exit; exact rfl) | (apply EntX.block_exit_other; exact rfl) | (apply EntX.block_normal) | refine EntL.g1 ?_ | refine EntL.g2 ?_ | refine EntL.g3 ?_ | refine Ent.c1 ?_ | refine Ent.c2 ?_))
      refine EntX.ret_of (res1 rfl rfl) () trivial (by simp [dropA, atN_hit rfl hA1, hf]) (by simp only [dropA, atN_hit rfl hA1, hf]; exact shutCA hA hg (by (repeat (first | exact Fits.rfl | exact Fits.nil | exact Sel.here | apply Sel.there | apply Fits.cons | apply Fits.drop))))
    · have hb : (!true) = false := rfl
      (repeat (first | refine EntL.qq ?_ | (apply Ent.seq) | (apply Ent.region) | (apply EntL.nil) | (apply EntX.then_normal) | refine EntL.uu ?_ | (refine EntL.nn (fun _ _ => ?_)) | (apply Ent.block) | (apply Ent.exit) | (apply Ent.ret) | (apply Ent.skip) | (apply EntX.then_ret) | (apply EntX.block_ret) | (apply EntX.then_exit) | (apply EntX.block_exit; exact rfl) | (apply EntX.block_exit_other; exact rfl) | (apply EntX.block_normal) | refine EntL.g1 ?_ | refine EntL.g2 ?_ | refine EntL.g3 ?_ | refine Ent.c1 ?_ | refine Ent.c2 ?_))
      refine EntL.call (lose_spec c p mb (.int .i64 most) rv kv ((L1 ++ (p, a) :: L2).map Prod.fst) L1 L2 a (by simp at hl ⊢; omega) (fun q hq => hq)) rfl (by (repeat (first | exact Fits.rfl | exact Fits.nil | exact Sel.here | apply Sel.there | apply Fits.cons | apply Fits.drop))) rfl ?_
      rintro _ ⟨ra', rc', rfl⟩
      rw [hg.mid_keep]
      (repeat (first | refine EntL.qq ?_ | (apply Ent.seq) | (apply Ent.region) | (apply EntL.nil) | (apply EntX.then_normal) | refine EntL.uu ?_ | (refine EntL.nn (fun _ _ => ?_)) | (apply Ent.block) | (apply Ent.exit) | (apply Ent.ret) | (apply Ent.skip) | (apply EntX.then_ret) | (apply EntX.block_ret) | (apply EntX.then_exit) | (apply EntX.block_exit; exact rfl) | (apply EntX.block_exit_other; exact rfl) | (apply EntX.block_normal) | refine EntL.g1 ?_ | refine EntL.g2 ?_ | refine EntL.g3 ?_ | refine Ent.c1 ?_ | refine Ent.c2 ?_))
      refine EntX.mem (ents_drop (L1 := L1) (L2 := L2) (p := p) (a := a) (R := cl c [.int .i64 most, .slice ra' ((L1 ++ L2).map Prod.fst).length rc', .map (some mb)] :: own 1 (.slice ra' ((L1 ++ L2).map Prod.fst).length rc') ((L1 ++ L2).map Prod.fst).length (((L1 ++ L2).map Prod.fst).map ptrV) :: mpi mb (kvDel kv a.n) :: R) (by (repeat (first | exact Fits.rfl | exact Fits.nil | exact Sel.here | apply Sel.there | apply Fits.cons | apply Fits.drop)))) ?_
      refine EntX.ret_of (res1 rfl rfl) () trivial (by simp [dropA, atN_hit rfl hA1, hf]) ?_
      simp only [dropA, atN_hit rfl hA1, hf, if_true, rest_hit rfl hA1]
      exact shutCA (L := L1 ++ L2) (by simp) hg.mid_del (by (repeat (first | exact Fits.rfl | exact Fits.nil | exact Sel.here | apply Sel.there | apply Fits.cons | apply Fits.drop)))

theorem fill_spec (c : Nat) (most b : Int) (A : List Ab) (v : Value) (d : List UInt8) (hv : IsSl d.length v) (hl : A.length ≤ 1500) (hd : d.length ≤ 1000000) : Ctr Try.prog 15 [ptrV c, .int .i64 b, v] (fun R => CA c most A :: own 1 v d.length (bv d) :: R) (fun _ : Unit => True)
    (fun _ => .int .i64 (fillA most b d A).1) (fun _ R => CA c most (fillA most b d A).2 :: own 1 v d.length (bv d) :: R) := by
  refine Ctr.of_ent Try.func15 rfl Try.ntmps15 rfl (fun σ R => ?_)
  (repeat (first | refine EntL.qq ?_ | (apply Ent.seq) | (apply Ent.region) | (apply EntL.nil) | (apply EntX.then_normal) | refine EntL.uu ?_ | (refine EntL.nn (fun _ _ => ?_)) | (apply Ent.block) | (apply Ent.exit) | (apply Ent.ret) | (apply Ent.skip) | (apply EntX.then_ret) | (apply EntX.block_ret) | (apply EntX.then_exit) | (apply EntX.block_exit; exact rfl) | (apply EntX.block_exit_other; exact rfl) | (apply EntX.block_normal) | refine EntL.g1 ?_ | refine EntL.g2 ?_ | refine EntL.g3 ?_ | refine Ent.c1 ?_ | refine Ent.c2 ?_))
  refine EntL.call (wrong_spec b v d.length hv) rfl (by (repeat (first | exact Fits.rfl | exact Fits.nil | exact Sel.here | apply Sel.there | apply Fits.cons | apply Fits.drop))) rfl ?_
  rintro _ -
  rw [show (if b < 0 then (1 : Int) else if d.length = 512 then 0 else 14) = wrongA b d from rfl]
  by_cases hw : wrongA b d = 0
  · have hb : decide (wrongA b d ≠ 0) = false := by simpa using hw
    (repeat (first | refine EntL.qq ?_ | (apply Ent.seq) | (apply Ent.region) | (apply EntL.nil) | (apply EntX.then_normal) | refine EntL.uu ?_ | (refine EntL.nn (fun _ _ => ?_)) | (apply Ent.block) | (apply Ent.exit) | (apply Ent.ret) | (apply Ent.skip) | (apply EntX.then_ret) | (apply EntX.block_ret) | (apply EntX.then_exit) | (apply EntX.block_exit; exact rfl) | (apply EntX.block_exit_other; exact rfl) | (apply EntX.block_normal) | refine EntL.g1 ?_ | refine EntL.g2 ?_ | refine EntL.g3 ?_ | refine Ent.c1 ?_ | refine Ent.c2 ?_))
    rcases hit_or b A with hm | ⟨A1, a, A2, rfl, rfl, hA1⟩
    · refine EntL.openCA (by (repeat (first | exact Sel.here | apply Sel.there))) (fun L rv mb kv hA hg => ?_)
      have hk := hg.no b (fun e he => hm e.2 (hA ▸ List.mem_map_of_mem he))
      (repeat (first | refine EntL.qq ?_ | (apply Ent.seq) | (apply Ent.region) | (apply EntL.nil) | (apply EntX.then_normal) | refine EntL.uu ?_ | (refine EntL.nn (fun _ _ => ?_)) | (apply Ent.block) | (apply Ent.exit) | (apply Ent.ret) | (apply Ent.skip) | (apply EntX.then_ret) | (apply EntX.block_ret) | (apply EntX.then_exit) | (apply EntX.block_exit; exact rfl) | (apply EntX.block_exit_other; exact rfl) | (apply EntX.block_normal) | refine EntL.g1 ?_ | refine EntL.g2 ?_ | refine EntL.g3 ?_ | refine Ent.c1 ?_ | refine Ent.c2 ?_))
      rw [hk]
      (repeat (first | refine EntL.qq ?_ | (apply Ent.seq) | (apply Ent.region) | (apply EntL.nil) | (apply EntX.then_normal) | refine EntL.uu ?_ | (refine EntL.nn (fun _ _ => ?_)) | (apply Ent.block) | (apply Ent.exit) | (apply Ent.ret) | (apply Ent.skip) | (apply EntX.then_ret) | (apply EntX.block_ret) | (apply EntX.then_exit) | (apply EntX.block_exit; exact rfl) | (apply EntX.block_exit_other; exact rfl) | (apply EntX.block_normal) | refine EntL.g1 ?_ | refine EntL.g2 ?_ | refine EntL.g3 ?_ | refine Ent.c1 ?_ | refine Ent.c2 ?_))
      refine EntL.mem (shutCA hA hg (R := own 1 v d.length (bv d) :: R) (by (repeat (first | exact Fits.rfl | exact Fits.nil | exact Sel.here | apply Sel.there | apply Fits.cons | apply Fits.drop)))) ?_
      refine EntL.call (lay_spec c most b A v d hl hd) rfl (by (repeat (first | exact Fits.rfl | exact Fits.nil | exact Sel.here | apply Sel.there | apply Fits.cons | apply Fits.drop))) rfl ?_
      rintro _ -
      (repeat (first | refine EntL.qq ?_ | (apply Ent.seq) | (apply Ent.region) | (apply EntL.nil) | (apply EntX.then_normal) | refine EntL.uu ?_ | (refine EntL.nn (fun _ _ => ?_)) | (apply Ent.block) | (apply Ent.exit) | (apply Ent.ret) | (apply Ent.skip) | (apply EntX.then_ret) | (apply EntX.block_ret) | (apply EntX.then_exit) | (apply EntX.block_exit; exact rfl) | (apply EntX.block_exit_other; exact rfl) | (apply EntX.block_normal) | refine EntL.g1 ?_ | refine EntL.g2 ?_ | refine EntL.g3 ?_ | refine Ent.c1 ?_ | refine Ent.c2 ?_))
      refine EntX.ret_of (res1 rfl rfl) () trivial (by simp [fillA, atN_miss hm, hw]) (by simp only [fillA, hw, if_true, atN_miss hm]; exact Fits.keep (by (repeat (first | exact Fits.rfl | exact Fits.nil | exact Sel.here | apply Sel.there | apply Fits.cons | apply Fits.drop))))
    · refine EntL.openCA (by (repeat (first | exact Sel.here | apply Sel.there))) (fun L rv mb kv hA hg => ?_)
      obtain ⟨L1, p, L2, rfl, rfl, rfl⟩ := map_snd_mid hA
      have hk := hg.yes (p, a) (by simp)
      (repeat (first | refine EntL.qq ?_ | (apply Ent.seq) | (apply Ent.region) | (apply EntL.nil) | (apply EntX.then_normal) | refine EntL.uu ?_ | (refine EntL.nn (fun _ _ => ?_)) | (apply Ent.block) | (apply Ent.exit) | (apply Ent.ret) | (apply Ent.skip) | (apply EntX.then_ret) | (apply EntX.block_ret) | (apply EntX.then_exit) | (apply EntX.block_exit; exact rfl) | (apply EntX.block_exit_other; exact rfl) | (apply EntX.block_normal) | refine EntL.g1 ?_ | refine EntL.g2 ?_ | refine EntL.g3 ?_ | refine Ent.c1 ?_ | refine Ent.c2 ?_))
      rw [hk]
      (repeat (first | refine EntL.qq ?_ | (apply Ent.seq) | (apply Ent.region) | (apply EntL.nil) | (apply EntX.then_normal) | refine EntL.uu ?_ | (refine EntL.nn (fun _ _ => ?_)) | (apply Ent.block) | (apply Ent.exit) | (apply Ent.ret) | (apply Ent.skip) | (apply EntX.then_ret) | (apply EntX.block_ret) | (apply EntX.then_exit) | (apply EntX.block_exit; exact rfl) | (apply EntX.block_exit_other; exact rfl) | (apply EntX.block_normal) | refine EntL.g1 ?_ | refine EntL.g2 ?_ | refine EntL.g3 ?_ | refine Ent.c1 ?_ | refine Ent.c2 ?_))
      refine EntX.ret_of (res1 rfl rfl) () trivial (by simp [fillA, atN_hit rfl hA1, hw]) (by simp only [fillA, hw, if_true, atN_hit rfl hA1]; exact shutCA hA hg (by (repeat (first | exact Fits.rfl | exact Fits.nil | exact Sel.here | apply Sel.there | apply Fits.cons | apply Fits.drop))))
  · have hb : decide (wrongA b d ≠ 0) = true := by simpa using hw
    (repeat (first | refine EntL.qq ?_ | (apply Ent.seq) | (apply Ent.region) | (apply EntL.nil) | (apply EntX.then_normal) | refine EntL.uu ?_ | (refine EntL.nn (fun _ _ => ?_)) | (apply Ent.block) | (apply Ent.exit) | (apply Ent.ret) | (apply Ent.skip) | (apply EntX.then_ret) | (apply EntX.block_ret) | (apply EntX.then_exit) | (apply EntX.block_exit; exact rfl) | (apply EntX.block_exit_other; exact rfl) | (apply EntX.block_normal) | refine EntL.g1 ?_ | refine EntL.g2 ?_ | refine EntL.g3 ?_ | refine Ent.c1 ?_ | refine Ent.c2 ?_))
    refine EntX.ret_of (res1 rfl rfl) () trivial (by simp [fillA, hw]) (by simp only [fillA, hw, if_false]; exact Fits.keep (by (repeat (first | exact Fits.rfl | exact Fits.nil | exact Sel.here | apply Sel.there | apply Fits.cons | apply Fits.drop))))
theorem atN_n {b : Int} {A : List Ab} {a : Ab} (h : atN b A = some a) : a.n = b := by simpa using List.find?_some h
theorem lay_zero {most b : Int} {d : List UInt8} {A : List Ab} (h : (layA most b d A).1 = 0) : ∃ X a, (layA most b d A).2 = X ++ a :: [] ∧ a.n = b := by
  cases h1 : atN b A with
  | some a => exact ⟨rest b A, { a with d := d }, by simp [layA, h1], (show a.n = b from atN_n h1)⟩
  | none =>
    cases h2 : roomA most A with
    | some A' => exact ⟨A', ⟨b, d, false, 0⟩, by simp [layA, h1, h2], rfl⟩
    | none => simp [layA, h1, h2] at h
theorem put_spec (c : Nat) (most b : Int) (A : List Ab) (v : Value) (d : List UInt8) (hv : IsSl d.length v) (hl : A.length ≤ 1500) (hd : d.length ≤ 1000000) : Ctr Try.prog 17 [ptrV c, .int .i64 b, v] (fun R => CA c most A :: own 1 v d.length (bv d) :: R) (fun _ : Unit => True)
    (fun _ => .int .i64 (putA most b d A).1) (fun _ R => CA c most (putA most b d A).2 :: own 1 v d.length (bv d) :: R) := by
  refine Ctr.of_ent Try.func17 rfl Try.ntmps17 rfl (fun σ R => ?_)
  (repeat (first | refine EntL.qq ?_ | (apply Ent.seq) | (apply Ent.region) | (apply EntL.nil) | (apply EntX.then_normal) | refine EntL.uu ?_ | (refine EntL.nn (fun _ _ => ?_)) | (apply Ent.block) | (apply Ent.exit) | (apply Ent.ret) | (apply Ent.skip) | (apply EntX.then_ret) | (apply EntX.block_ret) | (apply EntX.then_exit) | (apply EntX.block_exit; exact rfl) | (apply EntX.block_exit_other; exact rfl) | (apply EntX.block_normal) | refine EntL.g1 ?_ | refine EntL.g2 ?_ | refine EntL.g3 ?_ | refine Ent.c1 ?_ | refine Ent.c2 ?_))
  refine EntL.call (wrong_spec b v d.length hv) rfl (by (repeat (first | exact Fits.rfl | exact Fits.nil | exact Sel.here | apply Sel.there | apply Fits.cons | apply Fits.drop))) rfl ?_
  rintro _ -
  rw [show (if b < 0 then (1 : Int) else if d.length = 512 then 0 else 14) = wrongA b d from rfl]
  by_cases hw : wrongA b d = 0
  · have hb : decide (wrongA b d ≠ 0) = false := by simpa using hw
    (repeat (first | refine EntL.qq ?_ | (apply Ent.seq) | (apply Ent.region) | (apply EntL.nil) | (apply EntX.then_normal) | refine EntL.uu ?_ | (refine EntL.nn (fun _ _ => ?_)) | (apply Ent.block) | (apply Ent.exit) | (apply Ent.ret) | (apply Ent.skip) | (apply EntX.then_ret) | (apply EntX.block_ret) | (apply EntX.then_exit) | (apply EntX.block_exit; exact rfl) | (apply EntX.block_exit_other; exact rfl) | (apply EntX.block_normal) | refine EntL.g1 ?_ | refine EntL.g2 ?_ | refine EntL.g3 ?_ | refine Ent.c1 ?_ | refine Ent.c2 ?_))
    refine EntL.call (lay_spec c most b A v d hl hd) rfl (by (repeat (first | exact Fits.rfl | exact Fits.nil | exact Sel.here | apply Sel.there | apply Fits.cons | apply Fits.drop))) rfl ?_
    rintro _ -
    by_cases h0 : (layA most b d A).1 = 0
    · have hb2 : decide ((layA most b d A).1 = 0) = true := by simpa using h0
      obtain ⟨X, a, hX, rfl⟩ := lay_zero h0
      rw [hX]
      (repeat (first | refine EntL.qq ?_ | (apply Ent.seq) | (apply Ent.region) | (apply EntL.nil) | (apply EntX.then_normal) | refine EntL.uu ?_ | (refine EntL.nn (fun _ _ => ?_)) | (apply Ent.block) | (apply Ent.exit) | (apply Ent.ret) | (apply Ent.skip) | (apply EntX.then_ret) | (apply EntX.block_ret) | (apply EntX.then_exit) | (apply EntX.block_exit; exact rfl) | (apply EntX.block_exit_other; exact rfl) | (apply EntX.block_normal) | refine EntL.g1 ?_ | refine EntL.g2 ?_ | refine EntL.g3 ?_ | refine Ent.c1 ?_ | refine Ent.c2 ?_))
      refine EntL.openCA (by (repeat (first | exact Sel.here | apply Sel.there))) (fun L rv mb kv hA hg => ?_)
      have hn := hg.numsA hA
      obtain ⟨L1, p, L2, rfl, rfl, h2⟩ := map_snd_mid hA
      cases L2 with
      | cons _ _ => simp at h2
      | nil =>
      have hk := hg.yes (p, a) (by simp)
      (repeat (first | refine EntL.qq ?_ | (apply Ent.seq) | (apply Ent.region) | (apply EntL.nil) | (apply EntX.then_normal) | refine EntL.uu ?_ | (refine EntL.nn (fun _ _ => ?_)) | (apply Ent.block) | (apply Ent.exit) | (apply Ent.ret) | (apply Ent.skip) | (apply EntX.then_ret) | (apply EntX.block_ret) | (apply EntX.then_exit) | (apply EntX.block_exit; exact rfl) | (apply EntX.block_exit_other; exact rfl) | (apply EntX.block_normal) | refine EntL.g1 ?_ | refine EntL.g2 ?_ | refine EntL.g3 ?_ | refine Ent.c1 ?_ | refine Ent.c2 ?_))
      rw [hk]
      (repeat (first | refine EntL.qq ?_ | (apply Ent.seq) | (apply Ent.region) | (apply EntL.nil) | (apply EntX.then_normal) | refine EntL.uu ?_ | (refine EntL.nn (fun _ _ => ?_)) | (apply Ent.block) | (apply Ent.exit) | (apply Ent.ret) | (apply Ent.skip) | (apply EntX.then_ret) | (apply EntX.block_ret) | (apply EntX.then_exit) | (apply EntX.block_exit; exact rfl) | (apply EntX.block_exit_other; exact rfl) | (apply EntX.block_normal) | refine EntL.g1 ?_ | refine EntL.g2 ?_ | refine EntL.g3 ?_ | refine Ent.c1 ?_ | refine Ent.c2 ?_))
      refine EntL.memEx (St.openEnt (E1 := L1) (E2 := []) (p := p) (a := a) (by (repeat (first | exact Sel.here | apply Sel.there)))) (fun dv _ => ?_)
      (repeat (first | refine EntL.qq ?_ | (apply Ent.seq) | (apply Ent.region) | (apply EntL.nil) | (apply EntX.then_normal) | refine EntL.uu ?_ | (refine EntL.nn (fun _ _ => ?_)) | (apply Ent.block) | (apply Ent.exit) | (apply Ent.ret) | (apply Ent.skip) | (apply EntX.then_ret) | (apply EntX.block_ret) | (apply EntX.then_exit) | (apply EntX.block_exit; exact rfl) | (apply EntX.block_exit_other; exact rfl) | (apply EntX.block_normal) | refine EntL.g1 ?_ | refine EntL.g2 ?_ | refine EntL.g3 ?_ | refine Ent.c1 ?_ | refine Ent.c2 ?_))
      rw [h0]
      refine EntX.ret_of (res1 rfl rfl) () trivial (by simp [putA, hw, h0]) ?_
      simp only [putA, hw, h0, if_true, hX, turnN_hit rfl hn]
      exact mem_trans (shutCAe (L := L1 ++ (p, { a with dirty := true }) :: []) (E := L1 ++ []) (p := p) (a := { a with dirty := true }) (dv := dv) (A := L1.map Prod.snd ++ { a with dirty := true } :: []) (R := own 1 v d.length (bv d) :: R) List.perm_middle (by (repeat (first | exact Fits.rfl | exact Fits.nil | exact Sel.here | apply Sel.there | apply Fits.cons | apply Fits.drop))) (by simp) (by simp) (by simp) (hg.mid_turn rfl)) (by exact Fits.keep (by (repeat (first | exact Fits.rfl | exact Fits.nil | exact Sel.here | apply Sel.there | apply Fits.cons | apply Fits.drop))))
    · have hb2 : decide ((layA most b d A).1 = 0) = false := by simpa using h0
      (repeat (first | refine EntL.qq ?_ | (apply Ent.seq) | (apply Ent.region) | (apply EntL.nil) | (apply EntX.then_normal) | refine EntL.uu ?_ | (refine EntL.nn (fun _ _ => ?_)) | (apply Ent.block) | (apply Ent.exit) | (apply Ent.ret) | (apply Ent.skip) | (apply EntX.then_ret) | (apply EntX.block_ret) | (apply EntX.then_exit) | (apply EntX.block_exit; exact rfl) | (apply EntX.block_exit_other; exact rfl) | (apply EntX.block_normal) | refine EntL.g1 ?_ | refine EntL.g2 ?_ | refine EntL.g3 ?_ | refine Ent.c1 ?_ | refine Ent.c2 ?_))
      refine EntX.ret_of (res1 rfl rfl) () trivial (by simp [putA, hw, h0]) (by simp only [putA, hw, if_true, if_neg h0]; exact Fits.keep (by (repeat (first | exact Fits.rfl | exact Fits.nil | exact Sel.here | apply Sel.there | apply Fits.cons | apply Fits.drop))))
  · have hb : decide (wrongA b d ≠ 0) = true := by simpa using hw
    (repeat (first | refine EntL.qq ?_ | (apply Ent.seq) | (apply Ent.region) | (apply EntL.nil) | (apply EntX.then_normal) | refine EntL.uu ?_ | (refine EntL.nn (fun _ _ => ?_)) | (apply Ent.block) | (apply Ent.exit) | (apply Ent.ret) | (apply Ent.skip) | (apply EntX.then_ret) | (apply EntX.block_ret) | (apply EntX.then_exit) | (apply EntX.block_exit; exact rfl) | (apply EntX.block_exit_other; exact rfl) | (apply EntX.block_normal) | refine EntL.g1 ?_ | refine EntL.g2 ?_ | refine EntL.g3 ?_ | refine Ent.c1 ?_ | refine Ent.c2 ?_))
    refine EntX.ret_of (res1 rfl rfl) () trivial (by simp [putA, hw]) (by simp only [putA, hw, if_false]; exact Fits.keep (by (repeat (first | exact Fits.rfl | exact Fits.nil | exact Sel.here | apply Sel.there | apply Fits.cons | apply Fits.drop))))
end Go.Proofs.Ythlbimdlpadhdaa
