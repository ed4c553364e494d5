/- CachePlays, whatever comes in. -/
import Derived.Test.YthlbimdlpadhdaaD6
import Derived.Test.YthlbimdlpadhdaaCS
import Derived.Test.YthlbimdlpadhdaaSlArg
import Derived.KernelRfl
namespace Go.Proofs.Ythlbimdlpadhdaa
open Go Go.Sl Go.WideShapes

set_option maxHeartbeats 2000000 in
set_option maxRecDepth 20000 in
theorem plays_spec (hsort : SortInts 31) (W : World) (n : Int) (a : Option Addr) (len cap : Nat) (X : Nat → List Value) (hX : RowsAt W a len 4 X) (hm : len ≤ maxLen)
    (hc : ∀ i, i < len → ∃ k b s y : Int, X i = [.int .i64 k, .int .i64 b, .int .i64 s, .int .u8 y] ∧ 0 ≤ y) :
    Ctr Try.prog 3 [.int .i64 n, .slice a len cap] (fun R => old W :: R) (fun _ : Unit => True) (fun _ => .bool true) (fun _ R => old W :: R) := by
  refine Ctr.of_ent Try.func3 rfl Try.ntmps3 rfl (fun σ R => ?_)
  (repeat (first | refine EntL.qx ?_ | (apply Ent.seq) | (apply Ent.region) | (apply EntL.nil) | (apply EntX.then_normal) | refine EntL.ux ?_ | (refine EntL.nn (fun _ _ => ?_)) | (apply Ent.block) | (apply Ent.exit) | (apply Ent.ret) | (apply Ent.skip) | (apply EntX.then_ret) | (apply EntX.block_ret) | (apply EntX.then_exit) | (apply EntX.block_exit; exact rfl) | (apply EntX.block_exit_other; exact rfl) | (apply EntX.block_normal) | refine EntL.g1x ?_ | refine EntL.g2x ?_ | refine EntL.g3 ?_ | refine Ent.c1x ?_ | refine Ent.c2x ?_))
  refine EntL.call (known_spec) rfl (by (repeat (first | exact Fits.rfl | exact Fits.nil | exact Sel.here | apply Sel.there | apply Fits.cons | apply Fits.drop))) rfl ?_
  rintro _ -
  (repeat (first | refine EntL.qx ?_ | (apply Ent.seq) | (apply Ent.region) | (apply EntL.nil) | (apply EntX.then_normal) | refine EntL.ux ?_ | (refine EntL.nn (fun _ _ => ?_)) | (apply Ent.block) | (apply Ent.exit) | (apply Ent.ret) | (apply Ent.skip) | (apply EntX.then_ret) | (apply EntX.block_ret) | (apply EntX.then_exit) | (apply EntX.block_exit; exact rfl) | (apply EntX.block_exit_other; exact rfl) | (apply EntX.block_normal) | refine EntL.g1x ?_ | refine EntL.g2x ?_ | refine EntL.g3 ?_ | refine Ent.c1x ?_ | refine Ent.c2x ?_))
  by_cases hn : 1 ≤ n ∧ n ≤ 1024
  · obtain ⟨h1, h2⟩ := hn
    refine EntL.call (new_spec n h1 h2) rfl (by (repeat (first | exact Fits.rfl | exact Fits.nil | exact Sel.here | apply Sel.there | apply Fits.cons | apply Fits.drop))) rfl ?_
    rintro c -
    (repeat (first | refine EntL.qx ?_ | (apply Ent.seq) | (apply Ent.region) | (apply EntL.nil) | (apply EntX.then_normal) | refine EntL.ux ?_ | (refine EntL.nn (fun _ _ => ?_)) | (apply Ent.block) | (apply Ent.exit) | (apply Ent.ret) | (apply Ent.skip) | (apply EntX.then_ret) | (apply EntX.block_ret) | (apply EntX.then_exit) | (apply EntX.block_exit; exact rfl) | (apply EntX.block_exit_other; exact rfl) | (apply EntX.block_normal) | refine EntL.g1x ?_ | refine EntL.g2x ?_ | refine EntL.g3 ?_ | refine Ent.c1x ?_ | refine Ent.c2x ?_))
    refine EntL.call (newR_spec n h1 h2) rfl (by (repeat (first | exact Fits.rfl | exact Fits.nil | exact Sel.here | apply Sel.there | apply Fits.cons | apply Fits.drop))) rfl ?_
    rintro x -
    (repeat (first | refine EntL.qx ?_ | (apply Ent.seq) | (apply Ent.region) | (apply EntL.nil) | (apply EntX.then_normal) | refine EntL.ux ?_ | (refine EntL.nn (fun _ _ => ?_)) | (apply Ent.block) | (apply Ent.exit) | (apply Ent.ret) | (apply Ent.skip) | (apply EntX.then_ret) | (apply EntX.block_ret) | (apply EntX.then_exit) | (apply EntX.block_exit; exact rfl) | (apply EntX.block_exit_other; exact rfl) | (apply EntX.block_normal) | refine EntL.g1x ?_ | refine EntL.g2x ?_ | refine EntL.g3 ?_ | refine Ent.c1x ?_ | refine Ent.c2x ?_))
    refine Ent.loop (α := Nat × List Ab) (fun z => [(1, .slice a len cap), (5, ptrV c), (7, ptrV x), (9, .int .i64 z.1)])
      (fun z => CA c n z.2 :: RC x n z.2 :: old W :: R) (fun z => z.1 ≤ 200 ∧ InvP n z.2 z.1) (fun z => 200 - z.1) (0, []) ⟨by simp, InvP.start (by omega)⟩ (by repeat (first | exact EnvSub.nil | refine EnvSub.cons rfl ?_)) (by exact Fits.keep (by (repeat (first | exact Fits.rfl | exact Fits.nil | exact Sel.here | apply Sel.there | apply Fits.cons | apply Fits.drop)))) ?_
    rintro ⟨i, A⟩ ⟨hi, hJ⟩
    simp only at hi hJ ⊢
    have hsz := hJ.size
    unfold maxLen at hm
    by_cases hil : i < len
    · by_cases hi2 : i < 200
      · obtain ⟨k, b0, s0, y, hXi, hy⟩ := hc i hil
        obtain ⟨p, rfl⟩ := hX.addr i hil
        (repeat (first | refine EntL.qx ?_ | (apply Ent.seq) | (apply Ent.region) | (apply EntL.nil) | (apply EntX.then_normal) | refine EntL.ux ?_ | (refine EntL.nn (fun _ _ => ?_)) | (apply Ent.block) | (apply Ent.exit) | (apply Ent.ret) | (apply Ent.skip) | (apply EntX.then_ret) | (apply EntX.block_ret) | (apply EntX.then_exit) | (apply EntX.block_exit; exact rfl) | (apply EntX.block_exit_other; exact rfl) | (apply EntX.block_normal) | refine EntL.g1x ?_ | refine EntL.g2x ?_ | refine EntL.g3 ?_ | refine Ent.c1x ?_ | refine Ent.c2x ?_))
        refine EntL.q (OpQ.indexAddrA rfl rfl (by omega) (by omega)) rfl ?_
        refine EntL.q (OpQ.load_aggA rfl (hX.size i hil) (hX.st (by (repeat (first | exact Sel.here | apply Sel.there))) hil)) rfl ?_
        rw [hXi]
        refine EntL.call (done_spec c x n k b0 s0 y A i h1 h2 (by omega) hJ hy) rfl (by (repeat (first | exact Fits.rfl | exact Fits.nil | exact Sel.here | apply Sel.there | apply Fits.cons | apply Fits.drop))) rfl ?_
        rintro A' hJ'
        have hsz' := hJ'.size
        (repeat (first | refine EntL.qx ?_ | (apply Ent.seq) | (apply Ent.region) | (apply EntL.nil) | (apply EntX.then_normal) | refine EntL.ux ?_ | (refine EntL.nn (fun _ _ => ?_)) | (apply Ent.block) | (apply Ent.exit) | (apply Ent.ret) | (apply Ent.skip) | (apply EntX.then_ret) | (apply EntX.block_ret) | (apply EntX.then_exit) | (apply EntX.block_exit; exact rfl) | (apply EntX.block_exit_other; exact rfl) | (apply EntX.block_normal) | refine EntL.g1x ?_ | refine EntL.g2x ?_ | refine EntL.g3 ?_ | refine Ent.c1x ?_ | refine Ent.c2x ?_))
        refine EntL.call (held_spec c n A' (by omega)) rfl (by (repeat (first | exact Fits.rfl | exact Fits.nil | exact Sel.here | apply Sel.there | apply Fits.cons | apply Fits.drop))) rfl ?_
        rintro _ ⟨ha, hca, rfl⟩
        (repeat (first | refine EntL.qx ?_ | (apply Ent.seq) | (apply Ent.region) | (apply EntL.nil) | (apply EntX.then_normal) | refine EntL.ux ?_ | (refine EntL.nn (fun _ _ => ?_)) | (apply Ent.block) | (apply Ent.exit) | (apply Ent.ret) | (apply Ent.skip) | (apply EntX.then_ret) | (apply EntX.block_ret) | (apply EntX.then_exit) | (apply EntX.block_exit; exact rfl) | (apply EntX.block_exit_other; exact rfl) | (apply EntX.block_normal) | refine EntL.g1x ?_ | refine EntL.g2x ?_ | refine EntL.g3 ?_ | refine Ent.c1x ?_ | refine Ent.c2x ?_))
        refine EntL.call (heldR_spec x n A' (by omega)) rfl (by (repeat (first | exact Fits.rfl | exact Fits.nil | exact Sel.here | apply Sel.there | apply Fits.cons | apply Fits.drop))) rfl ?_
        rintro _ ⟨ha', hca', rfl⟩
        (repeat (first | refine EntL.qx ?_ | (apply Ent.seq) | (apply Ent.region) | (apply EntL.nil) | (apply EntX.then_normal) | refine EntL.ux ?_ | (refine EntL.nn (fun _ _ => ?_)) | (apply Ent.block) | (apply Ent.exit) | (apply Ent.ret) | (apply Ent.skip) | (apply EntX.then_ret) | (apply EntX.block_ret) | (apply EntX.then_exit) | (apply EntX.block_exit; exact rfl) | (apply EntX.block_exit_other; exact rfl) | (apply EntX.block_normal) | refine EntL.g1x ?_ | refine EntL.g2x ?_ | refine EntL.g3 ?_ | refine Ent.c1x ?_ | refine Ent.c2x ?_))
        have hs1 := same_ints (.slice ha A'.length hca) (.slice ha' A'.length hca') (numsOf A') (by simp [numsOf]; omega)
        rw [show (numsOf A').length = A'.length by simp [numsOf]] at hs1
        refine EntL.call (hs1) rfl (by (repeat (first | exact Fits.rfl | exact Fits.nil | exact Sel.here | apply Sel.there | apply Fits.cons | apply Fits.drop))) rfl ?_
        rintro _ -
        (repeat (first | refine EntL.qx ?_ | (apply Ent.seq) | (apply Ent.region) | (apply EntL.nil) | (apply EntX.then_normal) | refine EntL.ux ?_ | (refine EntL.nn (fun _ _ => ?_)) | (apply Ent.block) | (apply Ent.exit) | (apply Ent.ret) | (apply Ent.skip) | (apply EntX.then_ret) | (apply EntX.block_ret) | (apply EntX.then_exit) | (apply EntX.block_exit; exact rfl) | (apply EntX.block_exit_other; exact rfl) | (apply EntX.block_normal) | refine EntL.g1x ?_ | refine EntL.g2x ?_ | refine EntL.g3 ?_ | refine Ent.c1x ?_ | refine Ent.c2x ?_))
        refine EntL.call (dirty_spec hsort c n A' (by omega)) rfl (by (repeat (first | exact Fits.rfl | exact Fits.nil | exact Sel.here | apply Sel.there | apply Fits.cons | apply Fits.drop))) rfl ?_
        rintro _ ⟨da, dca, rfl⟩
        (repeat (first | refine EntL.qx ?_ | (apply Ent.seq) | (apply Ent.region) | (apply EntL.nil) | (apply EntX.then_normal) | refine EntL.ux ?_ | (refine EntL.nn (fun _ _ => ?_)) | (apply Ent.block) | (apply Ent.exit) | (apply Ent.ret) | (apply Ent.skip) | (apply EntX.then_ret) | (apply EntX.block_ret) | (apply EntX.then_exit) | (apply EntX.block_exit; exact rfl) | (apply EntX.block_exit_other; exact rfl) | (apply EntX.block_normal) | refine EntL.g1x ?_ | refine EntL.g2x ?_ | refine EntL.g3 ?_ | refine Ent.c1x ?_ | refine Ent.c2x ?_))
        refine EntL.call (dirtyR_spec x n A' (by omega) (fun a ha => (hJ'.ok a ha).1)) rfl (by (repeat (first | exact Fits.rfl | exact Fits.nil | exact Sel.here | apply Sel.there | apply Fits.cons | apply Fits.drop))) rfl ?_
        rintro _ ⟨da', dca', rfl⟩
        (repeat (first | refine EntL.qx ?_ | (apply Ent.seq) | (apply Ent.region) | (apply EntL.nil) | (apply EntX.then_normal) | refine EntL.ux ?_ | (refine EntL.nn (fun _ _ => ?_)) | (apply Ent.block) | (apply Ent.exit) | (apply Ent.ret) | (apply Ent.skip) | (apply EntX.then_ret) | (apply EntX.block_ret) | (apply EntX.then_exit) | (apply EntX.block_exit; exact rfl) | (apply EntX.block_exit_other; exact rfl) | (apply EntX.block_normal) | refine EntL.g1x ?_ | refine EntL.g2x ?_ | refine EntL.g3 ?_ | refine Ent.c1x ?_ | refine Ent.c2x ?_))
        have hle := dirtyOf_len' A'
        refine EntL.call (same_ints (.slice da (dirtyOf A').length dca) (.slice da' (dirtyOf A').length dca') (dirtyOf A') (by omega)) rfl (by (repeat (first | exact Fits.rfl | exact Fits.nil | exact Sel.here | apply Sel.there | apply Fits.cons | apply Fits.drop))) rfl ?_
        rintro _ -
        (repeat (first | refine EntL.qx ?_ | (apply Ent.seq) | (apply Ent.region) | (apply EntL.nil) | (apply EntX.then_normal) | refine EntL.ux ?_ | (refine EntL.nn (fun _ _ => ?_)) | (apply Ent.block) | (apply Ent.exit) | (apply Ent.ret) | (apply Ent.skip) | (apply EntX.then_ret) | (apply EntX.block_ret) | (apply EntX.then_exit) | (apply EntX.block_exit; exact rfl) | (apply EntX.block_exit_other; exact rfl) | (apply EntX.block_normal) | refine EntL.g1x ?_ | refine EntL.g2x ?_ | refine EntL.g3 ?_ | refine Ent.c1x ?_ | refine Ent.c2x ?_))
        exact EntX.round_end (i + 1, A') ⟨by simp only; omega, hJ'⟩ (by simp only; omega) (by repeat (first | exact EnvSub.nil | refine EnvSub.cons rfl ?_)) (by exact Fits.keep (by (repeat (first | exact Fits.rfl | exact Fits.nil | exact Sel.here | apply Sel.there | apply Fits.cons | apply Fits.drop))))
      · (repeat (first | refine EntL.qx ?_ | (apply Ent.seq) | (apply Ent.region) | (apply EntL.nil) | (apply EntX.then_normal) | refine EntL.ux ?_ | (refine EntL.nn (fun _ _ => ?_)) | (apply Ent.block) | (apply Ent.exit) | (apply Ent.ret) | (apply Ent.skip) | (apply EntX.then_ret) | (apply EntX.block_ret) | (apply EntX.then_exit) | (apply EntX.block_exit; exact rfl) | (apply EntX.block_exit_other; exact rfl) | (apply EntX.block_normal) | refine EntL.g1x ?_ | refine EntL.g2x ?_ | refine EntL.g3 ?_ | refine Ent.c1x ?_ | refine Ent.c2x ?_))
        refine EntX.ret_of (res1 rfl rfl) () trivial rfl (by exact Fits.keep (by (repeat (first | exact Fits.rfl | exact Fits.nil | exact Sel.here | apply Sel.there | apply Fits.cons | apply Fits.drop))))
    · (repeat (first | refine EntL.qx ?_ | (apply Ent.seq) | (apply Ent.region) | (apply EntL.nil) | (apply EntX.then_normal) | refine EntL.ux ?_ | (refine EntL.nn (fun _ _ => ?_)) | (apply Ent.block) | (apply Ent.exit) | (apply Ent.ret) | (apply Ent.skip) | (apply EntX.then_ret) | (apply EntX.block_ret) | (apply EntX.then_exit) | (apply EntX.block_exit; exact rfl) | (apply EntX.block_exit_other; exact rfl) | (apply EntX.block_normal) | refine EntL.g1x ?_ | refine EntL.g2x ?_ | refine EntL.g3 ?_ | refine Ent.c1x ?_ | refine Ent.c2x ?_))
      refine EntX.ret_of (res1 rfl rfl) () trivial rfl (by exact Fits.keep (by (repeat (first | exact Fits.rfl | exact Fits.nil | exact Sel.here | apply Sel.there | apply Fits.cons | apply Fits.drop))))
  · have hn' : n < 1 ∨ 1024 < n := by omega
    refine EntL.call (new_bad n hn') rfl (by (repeat (first | exact Fits.rfl | exact Fits.nil | exact Sel.here | apply Sel.there | apply Fits.cons | apply Fits.drop))) rfl ?_
    rintro _ -
    (repeat (first | refine EntL.qx ?_ | (apply Ent.seq) | (apply Ent.region) | (apply EntL.nil) | (apply EntX.then_normal) | refine EntL.ux ?_ | (refine EntL.nn (fun _ _ => ?_)) | (apply Ent.block) | (apply Ent.exit) | (apply Ent.ret) | (apply Ent.skip) | (apply EntX.then_ret) | (apply EntX.block_ret) | (apply EntX.then_exit) | (apply EntX.block_exit; exact rfl) | (apply EntX.block_exit_other; exact rfl) | (apply EntX.block_normal) | refine EntL.g1x ?_ | refine EntL.g2x ?_ | refine EntL.g3 ?_ | refine Ent.c1x ?_ | refine Ent.c2x ?_))
    refine EntL.call (newR_bad n hn') rfl (by (repeat (first | exact Fits.rfl | exact Fits.nil | exact Sel.here | apply Sel.there | apply Fits.cons | apply Fits.drop))) rfl ?_
    rintro _ -
    (repeat (first | refine EntL.qx ?_ | (apply Ent.seq) | (apply Ent.region) | (apply EntL.nil) | (apply EntX.then_normal) | refine EntL.ux ?_ | (refine EntL.nn (fun _ _ => ?_)) | (apply Ent.block) | (apply Ent.exit) | (apply Ent.ret) | (apply Ent.skip) | (apply EntX.then_ret) | (apply EntX.block_ret) | (apply EntX.then_exit) | (apply EntX.block_exit; exact rfl) | (apply EntX.block_exit_other; exact rfl) | (apply EntX.block_normal) | refine EntL.g1x ?_ | refine EntL.g2x ?_ | refine EntL.g3 ?_ | refine Ent.c1x ?_ | refine Ent.c2x ?_))
    refine EntX.ret_of (res1 rfl rfl) () trivial rfl (by exact Fits.keep (by (repeat (first | exact Fits.rfl | exact Fits.nil | exact Sel.here | apply Sel.there | apply Fits.cons | apply Fits.drop))))
instance : StructF Try.prog 33 [(0, 1, 3), (1, 1, 3), (2, 1, 3), (3, 1, 5)] 4 := ⟨⟨by kernel_rfl, by kernel_rfl⟩⟩
theorem call_of_rd' {W : World} {cs : List Value} (h : Rd Try.prog W 33 cs) : ∃ k b s y : Int, cs = [.int .i64 k, .int .i64 b, .int .i64 s, .int .u8 y] ∧ 0 ≤ y := by
  obtain ⟨hl, hf⟩ := h.parts
  obtain ⟨a0, g0, _⟩ := (hf (0, 1, 3) (by simp)).intAt Try.underlying3
  obtain ⟨a1, g1, _⟩ := (hf (1, 1, 3) (by simp)).intAt Try.underlying3
  obtain ⟨a2, g2, _⟩ := (hf (2, 1, 3) (by simp)).intAt Try.underlying3
  obtain ⟨a3, g3, w3⟩ := (hf (3, 1, 5) (by simp)).intAt Try.underlying5
  match cs, hl, g0, g1, g2, g3 with
  | [x0, x1, x2, x3], _, g0, g1, g2, g3 =>
    cases g0; cases g1; cases g2; cases g3
    exact ⟨_, _, _, _, rfl, w3.1⟩
theorem plays_calls : LawCalls Try.prog 3 [3, 22] := by
  intro W base vs h
  obtain ⟨v, vs, rfl, h1, o1, v', vs', rfl, h2, o2, rfl⟩ := h
  obtain ⟨n, rfl⟩ := okWide_int Try.underlying3 o1
  obtain ⟨a, len, cap, rfl⟩ := okWide_slice Try.underlying22 o2
  obtain ⟨a', len', cap', he, hlc, hcm, X, hX, hR⟩ := h2.slice Try.underlying22
  cases he
  exact (plays_spec sorts W n a len cap X hX (by omega) (fun i hi => call_of_rd' (hR i hi))).law
end Go.Proofs.Ythlbimdlpadhdaa
