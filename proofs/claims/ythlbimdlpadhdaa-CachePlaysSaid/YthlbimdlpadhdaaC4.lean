/- The cache's calls, by what they do to what is held: New, Get, Pin, Unpin, Clean, Drop. -/
import Derived.Test.YthlbimdlpadhdaaP3
namespace Go.Proofs.Ythlbimdlpadhdaa
open Go Go.Sl

theorem new_spec (n : Int) (h1 : 1 ≤ n) (h2 : n ≤ 1024) : Ctr Try.prog 6 [.int .i64 n] (fun R => R) (fun _ : Nat => True) (fun c => .tuple #[ptrV c, .int .i64 0]) (fun c R => CA c n [] :: R) := by
  refine Ctr.of_ent Try.func6 rfl Try.ntmps6 rfl (fun σ R => ?_)
  have hb1 : decide (n < 1) = false := by simp; omega
  have hb2 : decide (1024 < n) = false := by simp; omega
  (repeat (first | refine EntL.qq ?_ | (apply Ent.seq) | (apply Ent.region) | (apply EntL.nil) | (apply EntX.then_normal) | refine EntL.uu ?_ | (refine EntL.nn (fun _ _ => ?_)) | (apply Ent.block) | (apply Ent.exit) | (apply Ent.ret) | (apply Ent.skip) | (apply EntX.then_ret) | (apply EntX.block_ret) | (apply EntX.then_exit) | (apply EntX.block_exit; exact rfl) | (apply EntX.block_exit_other; exact rfl) | (apply EntX.block_normal) | refine EntL.g1 ?_ | refine EntL.g2 ?_ | refine EntL.g3 ?_ | refine Ent.c1 ?_ | refine Ent.c2 ?_))
  refine EntX.ret_of (res2 rfl rfl rfl) _ trivial rfl (mem_trans (own_none (sz := 1)) (mem_trans ents_intro (shutCA (L := []) (kv := []) rfl Good.nil (by (repeat (first | exact Fits.rfl | exact Fits.nil | exact Sel.here | apply Sel.there | apply Fits.cons | apply Fits.drop))))))
theorem new_bad (n : Int) (h : n < 1 ∨ 1024 < n) : Ctr Try.prog 6 [.int .i64 n] (fun R => R) (fun _ : Unit => True) (fun _ => .tuple #[.pointer none, .int .i64 1]) (fun _ R => R) := by
  refine Ctr.of_ent Try.func6 rfl Try.ntmps6 rfl (fun σ R => ?_)
  by_cases h1 : n < 1
  · have hb1 : decide (n < 1) = true := by simp; omega
    (repeat (first | refine EntL.qq ?_ | (apply Ent.seq) | (apply Ent.region) | (apply EntL.nil) | (apply EntX.then_normal) | refine EntL.uu ?_ | (refine EntL.nn (fun _ _ => ?_)) | (apply Ent.block) | (apply Ent.exit) | (apply Ent.ret) | (apply Ent.skip) | (apply EntX.then_ret) | (apply EntX.block_ret) | (apply EntX.then_exit) | (apply EntX.block_exit; exact rfl) | (apply EntX.block_exit_other; exact rfl) | (apply EntX.block_normal) | refine EntL.g1 ?_ | refine EntL.g2 ?_ | refine EntL.g3 ?_ | refine Ent.c1 ?_ | refine Ent.c2 ?_))
    refine EntX.ret_of (res2 rfl rfl rfl) () trivial rfl (by exact Fits.keep (by (repeat (first | exact Fits.rfl | exact Fits.nil | exact Sel.here | apply Sel.there | apply Fits.cons | apply Fits.drop))))
  · have hb1 : decide (n < 1) = false := by simp; omega
    have hb2 : decide (1024 < n) = true := by simp; omega
    (repeat (first | refine EntL.qq ?_ | (apply Ent.seq) | (apply Ent.region) | (apply EntL.nil) | (apply EntX.then_normal) | refine EntL.uu ?_ | (refine EntL.nn (fun _ _ => ?_)) | (apply Ent.block) | (apply Ent.exit) | (apply Ent.ret) | (apply Ent.skip) | (apply EntX.then_ret) | (apply EntX.block_ret) | (apply EntX.then_exit) | (apply EntX.block_exit; exact rfl) | (apply EntX.block_exit_other; exact rfl) | (apply EntX.block_normal) | refine EntL.g1 ?_ | refine EntL.g2 ?_ | refine EntL.g3 ?_ | refine Ent.c1 ?_ | refine Ent.c2 ?_))
    refine EntX.ret_of (res2 rfl rfl rfl) () trivial rfl (by exact Fits.keep (by (repeat (first | exact Fits.rfl | exact Fits.nil | exact Sel.here | apply Sel.there | apply Fits.cons | apply Fits.drop))))

theorem get_miss (c : Nat) (most b : Int) (A : List Ab) (h : ∀ a ∈ A, a.n ≠ b) : Ctr Try.prog 23 [ptrV c, .int .i64 b] (fun R => CA c most A :: R) (fun _ : Unit => True) (fun _ => .tuple #[.slice none 0 0, .int .i64 17]) (fun _ R => CA c most A :: R) := by
  refine Ctr.of_ent Try.func23 rfl Try.ntmps23 rfl (fun σ R => ?_)
  refine Ent.openCA (by (repeat (first | exact Sel.here | apply Sel.there))) (fun L rv mb kv hA hg => ?_)
  have hk := hg.no b (fun e he => h e.2 (hA ▸ List.mem_map_of_mem he))
  (repeat (first | refine EntL.qq ?_ | (apply Ent.seq) | (apply Ent.region) | (apply EntL.nil) | (apply EntX.then_normal) | refine EntL.uu ?_ | (refine EntL.nn (fun _ _ => ?_)) | (apply Ent.block) | (apply Ent.exit) | (apply Ent.ret) | (apply Ent.skip) | (apply EntX.then_ret) | (apply EntX.block_ret) | (apply EntX.then_exit) | (apply EntX.block_exit; exact rfl) | (apply EntX.block_exit_other; exact rfl) | (apply EntX.block_normal) | refine EntL.g1 ?_ | refine EntL.g2 ?_ | refine EntL.g3 ?_ | refine Ent.c1 ?_ | refine Ent.c2 ?_))
  rw [hk]
  (repeat (first | refine EntL.qq ?_ | (apply Ent.seq) | (apply Ent.region) | (apply EntL.nil) | (apply EntX.then_normal) | refine EntL.uu ?_ | (refine EntL.nn (fun _ _ => ?_)) | (apply Ent.block) | (apply Ent.exit) | (apply Ent.ret) | (apply Ent.skip) | (apply EntX.then_ret) | (apply EntX.block_ret) | (apply EntX.then_exit) | (apply EntX.block_exit; exact rfl) | (apply EntX.block_exit_other; exact rfl) | (apply EntX.block_normal) | refine EntL.g1 ?_ | refine EntL.g2 ?_ | refine EntL.g3 ?_ | refine Ent.c1 ?_ | refine Ent.c2 ?_))
  refine EntX.ret_of (res2 rfl rfl rfl) () trivial rfl (shutCA hA hg (by (repeat (first | exact Fits.rfl | exact Fits.nil | exact Sel.here | apply Sel.there | apply Fits.cons | apply Fits.drop))))
theorem get_hit (c : Nat) (most : Int) (A1 A2 : List Ab) (a : Ab) (hl : (A1 ++ a :: A2).length ≤ 1500) (hd : a.d.length ≤ 1000000) :
    Ctr Try.prog 23 [ptrV c, .int .i64 a.n] (fun R => CA c most (A1 ++ a :: A2) :: R) (fun v : Value => IsSl a.d.length v) (fun v => .tuple #[v, .int .i64 0]) (fun v R => own 1 v a.d.length (bv a.d) :: CA c most (A1 ++ A2 ++ [a]) :: R) := by
  refine Ctr.of_ent Try.func23 rfl Try.ntmps23 rfl (fun σ R => ?_)
  refine Ent.openCA (by (repeat (first | exact Sel.here | apply Sel.there))) (fun L rv mb kv hA hg => ?_)
  obtain ⟨L1, p, L2, rfl, rfl, rfl⟩ := map_snd_mid hA
  have hk := hg.yes (p, a) (by simp)
  (repeat (first | refine EntL.qq ?_ | (apply Ent.seq) | (apply Ent.region) | (apply EntL.nil) | (apply EntX.then_normal) | refine EntL.uu ?_ | (refine EntL.nn (fun _ _ => ?_)) | (apply Ent.block) | (apply Ent.exit) | (apply Ent.ret) | (apply Ent.skip) | (apply EntX.then_ret) | (apply EntX.block_ret) | (apply EntX.then_exit) | (apply EntX.block_exit; exact rfl) | (apply EntX.block_exit_other; exact rfl) | (apply EntX.block_normal) | refine EntL.g1 ?_ | refine EntL.g2 ?_ | refine EntL.g3 ?_ | refine Ent.c1 ?_ | refine Ent.c2 ?_))
  rw [hk]
  (repeat (first | refine EntL.qq ?_ | (apply Ent.seq) | (apply Ent.region) | (apply EntL.nil) | (apply EntX.then_normal) | refine EntL.uu ?_ | (refine EntL.nn (fun _ _ => ?_)) | (apply Ent.block) | (apply Ent.exit) | (apply Ent.ret) | (apply Ent.skip) | (apply EntX.then_ret) | (apply EntX.block_ret) | (apply EntX.then_exit) | (apply EntX.block_exit; exact rfl) | (apply EntX.block_exit_other; exact rfl) | (apply EntX.block_normal) | refine EntL.g1 ?_ | refine EntL.g2 ?_ | refine EntL.g3 ?_ | refine Ent.c1 ?_ | refine Ent.c2 ?_))
  refine EntL.call (use_spec c p (.int .i64 most) rv (.map (some mb)) ((L1 ++ (p, a) :: L2).map Prod.fst) (L1 ++ (p, a) :: L2) (by simp at hl ⊢; omega) (fun q hq => hq) (by simp)) rfl (by (repeat (first | exact Fits.rfl | exact Fits.nil | exact Sel.here | apply Sel.there | apply Fits.cons | apply Fits.drop))) rfl ?_
  rintro _ ⟨ra, rc, rfl⟩
  (repeat (first | refine EntL.qq ?_ | (apply Ent.seq) | (apply Ent.region) | (apply EntL.nil) | (apply EntX.then_normal) | refine EntL.uu ?_ | (refine EntL.nn (fun _ _ => ?_)) | (apply Ent.block) | (apply Ent.exit) | (apply Ent.ret) | (apply Ent.skip) | (apply EntX.then_ret) | (apply EntX.block_ret) | (apply EntX.then_exit) | (apply EntX.block_exit; exact rfl) | (apply EntX.block_exit_other; exact rfl) | (apply EntX.block_normal) | refine EntL.g1 ?_ | refine EntL.g2 ?_ | refine EntL.g3 ?_ | refine Ent.c1 ?_ | refine Ent.c2 ?_))
  refine EntL.memEx (St.openEnt (by (repeat (first | exact Sel.here | apply Sel.there)))) (fun dv _ => ?_)
  (repeat (first | refine EntL.qq ?_ | (apply Ent.seq) | (apply Ent.region) | (apply EntL.nil) | (apply EntX.then_normal) | refine EntL.uu ?_ | (refine EntL.nn (fun _ _ => ?_)) | (apply Ent.block) | (apply Ent.exit) | (apply Ent.ret) | (apply Ent.skip) | (apply EntX.then_ret) | (apply EntX.block_ret) | (apply EntX.then_exit) | (apply EntX.block_exit; exact rfl) | (apply EntX.block_exit_other; exact rfl) | (apply EntX.block_normal) | refine EntL.g1 ?_ | refine EntL.g2 ?_ | refine EntL.g3 ?_ | refine Ent.c1 ?_ | refine Ent.c2 ?_))
  refine EntL.call (clone_spec dv a.d hd) rfl (by (repeat (first | exact Fits.rfl | exact Fits.nil | exact Sel.here | apply Sel.there | apply Fits.cons | apply Fits.drop))) rfl ?_
  rintro _ ⟨va, vc, rfl⟩
  (repeat (first | refine EntL.qq ?_ | (apply Ent.seq) | (apply Ent.region) | (apply EntL.nil) | (apply EntX.then_normal) | refine EntL.uu ?_ | (refine EntL.nn (fun _ _ => ?_)) | (apply Ent.block) | (apply Ent.exit) | (apply Ent.ret) | (apply Ent.skip) | (apply EntX.then_ret) | (apply EntX.block_ret) | (apply EntX.then_exit) | (apply EntX.block_exit; exact rfl) | (apply EntX.block_exit_other; exact rfl) | (apply EntX.block_normal) | refine EntL.g1 ?_ | refine EntL.g2 ?_ | refine EntL.g3 ?_ | refine Ent.c1 ?_ | refine Ent.c2 ?_))
  have hkeep := hg.mid_keep
  rw [hkeep]
  refine EntX.ret_of (res2 rfl rfl rfl) _ ⟨_, _, rfl⟩ rfl (mem_trans (shutCAe (L := L1 ++ L2 ++ [(p, a)]) (E := L1 ++ L2) (p := p) (a := a) (dv := dv) (R := own 1 (.slice va a.d.length vc) a.d.length (bv a.d) :: R) List.perm_append_comm (by (repeat (first | exact Fits.rfl | exact Fits.nil | exact Sel.here | apply Sel.there | apply Fits.cons | apply Fits.drop))) (by simp [Nat.add_assoc]) (by simp) rfl hg.mid_move) (by simp only [List.map_append, List.map_cons, List.map_nil]; exact Fits.keep (by (repeat (first | exact Fits.rfl | exact Fits.nil | exact Sel.here | apply Sel.there | apply Fits.cons | apply Fits.drop)))))

theorem wrong_spec (b : Int) (v : Value) (m : Nat) (hv : IsSl m v) :
    Ctr Try.prog 32 [.int .i64 b, v] (fun R => R) (fun _ : Unit => True) (fun _ => .int .i64 (if b < 0 then 1 else if m = 512 then 0 else 14)) (fun _ R => R) := by
  refine Ctr.of_ent Try.func32 rfl Try.ntmps32 rfl (fun σ R => ?_)
  obtain ⟨a, cap, rfl⟩ := hv
  by_cases h1 : b < 0
  · have hb : decide (b < 0) = true := by simpa using h1
    (repeat (first | refine EntL.qq ?_ | (apply Ent.seq) | (apply Ent.region) | (apply EntL.nil) | (apply EntX.then_normal) | refine EntL.uu ?_ | (refine EntL.nn (fun _ _ => ?_)) | (apply Ent.block) | (apply Ent.exit) | (apply Ent.ret) | (apply Ent.skip) | (apply EntX.then_ret) | (apply EntX.block_ret) | (apply EntX.then_exit) | (apply EntX.block_exit; exact rfl) | (apply EntX.block_exit_other; exact rfl) | (apply EntX.block_normal) | refine EntL.g1 ?_ | refine EntL.g2 ?_ | refine EntL.g3 ?_ | refine Ent.c1 ?_ | refine Ent.c2 ?_))
    refine EntX.ret_of (res1 rfl rfl) () trivial (by simp [h1]) (by exact Fits.keep (by (repeat (first | exact Fits.rfl | exact Fits.nil | exact Sel.here | apply Sel.there | apply Fits.cons | apply Fits.drop))))
  · have hb : decide (b < 0) = false := by simpa using h1
    by_cases hm : m = 512
    · subst hm
      (repeat (first | refine EntL.qq ?_ | (apply Ent.seq) | (apply Ent.region) | (apply EntL.nil) | (apply EntX.then_normal) | refine EntL.uu ?_ | (refine EntL.nn (fun _ _ => ?_)) | (apply Ent.block) | (apply Ent.exit) | (apply Ent.ret) | (apply Ent.skip) | (apply EntX.then_ret) | (apply EntX.block_ret) | (apply EntX.then_exit) | (apply EntX.block_exit; exact rfl) | (apply EntX.block_exit_other; exact rfl) | (apply EntX.block_normal) | refine EntL.g1 ?_ | refine EntL.g2 ?_ | refine EntL.g3 ?_ | refine Ent.c1 ?_ | refine Ent.c2 ?_))
      refine EntX.ret_of (res1 rfl rfl) () trivial (by simp [h1]) (by exact Fits.keep (by (repeat (first | exact Fits.rfl | exact Fits.nil | exact Sel.here | apply Sel.there | apply Fits.cons | apply Fits.drop))))
    · have hb2 : (decide ((m : Int) = 512)) = false := by simp; omega
      (repeat' (first | refine EntL.qq ?_ | (apply Ent.seq) | (apply Ent.region) | (apply EntL.nil) | (apply EntX.then_normal) | refine EntL.uu ?_ | (refine EntL.nn (fun _ _ => ?_)) | (apply Ent.block) | (apply Ent.exit) | (apply Ent.ret) | (apply Ent.skip) | (apply EntX.then_ret) | (apply EntX.block_ret) | (apply EntX.then_exit) | (apply EntX.block_exit; exact rfl) | (apply EntX.block_exit_other; exact rfl) | (apply EntX.block_normal) | refine EntL.g1 ?_ | refine EntL.g2 ?_ | refine EntL.g3 ?_ | refine Ent.c1 ?_ | refine Ent.c2 ?_ | (first | (refine Ent.ifD rfl (fun h => ?_) (fun h => ?_) <;> (try (exfalso; omega))) | (refine Ent.ifN rfl (fun h => ?_) (fun h => ?_) <;> (try (exfalso; omega))) | refine Ent.cond rfl (fun h => ?_) (fun h => ?_))))
      refine EntX.ret_of (res1 rfl rfl) () trivial (by simp [h1, hm]) (by exact Fits.keep (by (repeat (first | exact Fits.rfl | exact Fits.nil | exact Sel.here | apply Sel.there | apply Fits.cons | apply Fits.drop))))
end Go.Proofs.Ythlbimdlpadhdaa
