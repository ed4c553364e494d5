/- One call of both caches: 'done'. -/
import Derived.Test.YthlbimdlpadhdaaD5
namespace Go.Proofs.Ythlbimdlpadhdaa
open Go Go.Sl

/-- what holds of what is held, behind so many calls -/
structure InvP (most : Int) (A : List Ab) (k : Nat) : Prop where
  size : (A.length : Int) ≤ most
  ok : ∀ a ∈ A, 0 ≤ a.n ∧ 0 ≤ a.pins ∧ a.pins ≤ k ∧ a.d.length ≤ 1000000
theorem InvP.more {most : Int} {A : List Ab} {k : Nat} (h : InvP most A k) : InvP most A (k + 1) := ⟨h.size, fun a ha => by have := h.ok a ha; omega⟩
theorem InvP.start {most : Int} (h : 0 ≤ most) : InvP most [] 0 := ⟨by simpa using h, by simp⟩
theorem InvP.turn {most b : Int} {A : List Ab} {k : Nat} {f : Ab → Ab} (h : InvP most A k) (hf : ∀ a ∈ A, a.n = b → 0 ≤ (f a).n ∧ 0 ≤ (f a).pins ∧ (f a).pins ≤ k + 1 ∧ (f a).d.length ≤ 1000000) : InvP most (turnN b f A) (k + 1) := by
  refine ⟨by simpa [turnN] using h.size, fun x hx => ?_⟩
  obtain ⟨y, hy, rfl⟩ := List.mem_map.1 hx
  have := h.ok y hy
  split
  · rename_i hn; exact hf y hy hn
  · omega
theorem InvP.rest {most : Int} {A1 A2 : List Ab} {a : Ab} {k : Nat} (h : InvP most (A1 ++ a :: A2) k) : InvP most (A1 ++ A2) k :=
  ⟨by have := h.size; simp at this ⊢; omega, fun x hx => h.ok x (by simp at hx ⊢; rcases hx with h | h <;> simp [h])⟩
theorem InvP.back {most : Int} {A1 A2 : List Ab} {a a' : Ab} {k : Nat} (h : InvP most (A1 ++ a :: A2) k) (ha : 0 ≤ a'.n ∧ 0 ≤ a'.pins ∧ a'.pins ≤ k ∧ a'.d.length ≤ 1000000) : InvP most (A1 ++ A2 ++ [a']) k :=
  ⟨by have := h.size; simp at this ⊢; omega, fun x hx => by
    rcases List.mem_append.1 hx with hx | hx
    · exact h.rest.ok x hx
    · simp at hx; subst hx; exact ha⟩
theorem room_inv {most : Int} {A A' : List Ab} {k : Nat} (hm : 1 ≤ most) (h : InvP most A k) (hr : roomA most A = some A') : InvP most A' k ∧ (A'.length : Int) < most := by
  rcases room_cases hr with ⟨rfl, hl⟩ | ⟨A1, a, A2, rfl, rfl, _⟩
  · exact ⟨h, hl⟩
  · refine ⟨h.rest, ?_⟩
    have := h.size
    simp at this ⊢
    omega
theorem lay_inv {most b : Int} {d : List UInt8} {A : List Ab} {k : Nat} (hm : 1 ≤ most) (hb : 0 ≤ b) (hd : d.length ≤ 1000000) (h : InvP most A k) : InvP most (layA most b d A).2 k := by
  rcases hit_or b A with hmi | ⟨A1, a, A2, rfl, hab, hA1⟩
  · simp only [layA, atN_miss hmi]
    cases hr : roomA most A with
    | none => exact h
    | some A' =>
      obtain ⟨h1, h2⟩ := room_inv hm h hr
      refine ⟨by simp; omega, fun x hx => ?_⟩
      rcases List.mem_append.1 hx with hx | hx
      · exact h1.ok x hx
      · simp at hx; subst hx; simp only; omega
  · simp only [layA, atN_hit hab hA1, rest_hit hab hA1]
    have := h.ok a (by simp)
    exact h.back (by simp only; omega)
theorem wrong_pos {b : Int} {d : List UInt8} (h : wrongA b d = 0) : 0 ≤ b := by
  unfold wrongA at h
  split at h
  · cases h
  · omega
theorem fill_inv {most b : Int} {d : List UInt8} {A : List Ab} {k : Nat} (hm : 1 ≤ most) (hd : d.length ≤ 1000000) (h : InvP most A k) : InvP most (fillA most b d A).2 (k + 1) := by
  unfold fillA
  by_cases hw : wrongA b d = 0
  · rw [if_pos hw]
    split
    · exact h.more
    · exact (lay_inv hm (wrong_pos hw) hd h).more
  · rw [if_neg hw]; exact h.more
theorem put_inv {most b : Int} {d : List UInt8} {A : List Ab} {k : Nat} (hm : 1 ≤ most) (hd : d.length ≤ 1000000) (h : InvP most A k) : InvP most (putA most b d A).2 (k + 1) := by
  unfold putA
  by_cases hw : wrongA b d = 0
  · rw [if_pos hw]
    have hl := lay_inv hm (wrong_pos hw) hd h
    split
    · exact hl.turn (fun a ha _ => by have := hl.ok a ha; simp only; omega)
    · exact hl.more
  · rw [if_neg hw]; exact h.more
theorem pin_inv {most b : Int} {A : List Ab} {k : Nat} (h : InvP most A k) : InvP most (pinA b A).2 (k + 1) := by
  unfold pinA
  split
  · exact h.turn (fun a ha _ => by have := h.ok a ha; simp only; omega)
  · exact h.more
theorem clean_inv {most b : Int} {A : List Ab} {k : Nat} (h : InvP most A k) : InvP most (cleanA b A).2 (k + 1) := by
  unfold cleanA
  split
  · exact h.turn (fun a ha _ => by have := h.ok a ha; simp only; omega)
  · exact h.more
theorem unpin_inv {most b : Int} {A : List Ab} {k : Nat} (hn : (numsOf A).Nodup) (h : InvP most A k) : InvP most (unpinA b A).2 (k + 1) := by
  unfold unpinA
  cases ha : atN b A with
  | none => exact h.more
  | some a =>
    simp only
    split
    · exact h.more
    · rename_i h0
      obtain ⟨hm, rfl⟩ := atN_mem ha
      refine h.turn (fun x hx hxn => ?_)
      have := atN_some hn hx
      rw [hxn, ha] at this
      cases this
      have := h.ok a hx; simp only; omega
theorem drop_inv {most b : Int} {A : List Ab} {k : Nat} (h : InvP most A k) : InvP most (dropA b A).2 (k + 1) := by
  rcases hit_or b A with hmi | ⟨A1, a, A2, rfl, hab, hA1⟩
  · simp only [dropA, atN_miss hmi]; exact h.more
  · simp only [dropA, atN_hit hab hA1]
    split
    · rw [rest_hit hab hA1]; exact h.rest.more
    · exact h.more

theorem RC_nums {σ : Sig} {H R : List HP} {c : Nat} {most : Int} {A : List Ab} {w : World} (s : Sel (RC c most A) H R) (st : St σ H w) : (numsOf A).Nodup := by
  obtain ⟨x, ⟨hA, hg⟩, _⟩ := St.openRC s w st
  exact hg.numsA hA
set_option maxHeartbeats 4000000 in
set_option maxRecDepth 20000 in
theorem done_spec (c x : Nat) (most k n s y : Int) (A : List Ab) (i : Nat) (hm : 1 ≤ most) (hm2 : most ≤ 1024) (hi : i ≤ 1000) (hJ : InvP most A i) (hy : 0 ≤ y) :
    Ctr Try.prog 8 [ptrV c, ptrV x, .agg #[.int .i64 k, .int .i64 n, .int .i64 s, .int .u8 y]] (fun R => CA c most A :: RC x most A :: R) (fun A' : List Ab => InvP most A' (i + 1)) (fun _ => .bool true) (fun A' R => CA c most A' :: RC x most A' :: R) := by
  refine Ctr.of_ent Try.func8 rfl Try.ntmps8 rfl (fun σ R => ?_)
  have hsz := hJ.size
  have hlA : A.length ≤ 1500 := by omega
  have hdl : (dataOf s y).length ≤ 1000000 := by rw [dataOf_len]; have := dataLen_ge s; omega
  have hpins : ∀ a ∈ A, -10000 ≤ a.pins ∧ a.pins ≤ 10000 := fun a ha => by have := hJ.ok a ha; omega
  have hpins0 : ∀ a ∈ A, 0 ≤ a.pins := fun a ha => by have := hJ.ok a ha; omega
  refine mmFact (fun w st => RC_nums (c := x) (by (repeat (first | exact Sel.here | apply Sel.there))) st) (fun hnd => ?_)
  (repeat (first | refine EntL.qx ?_ | (apply Ent.seq) | (apply Ent.region) | (apply EntL.nil) | (apply EntX.then_normal) | refine EntL.ux ?_ | (refine EntL.nn (fun _ _ => ?_)) | (apply Ent.block) | (apply Ent.exit) | (apply Ent.ret) | (apply Ent.skip) | (apply EntX.then_ret) | (apply EntX.block_ret) | (apply EntX.then_exit) | (apply EntX.block_exit; exact rfl) | (apply EntX.block_exit_other; exact rfl) | (apply EntX.block_normal) | refine EntL.g1x ?_ | refine EntL.g2x ?_ | refine EntL.g3 ?_ | refine Ent.c1x ?_ | refine Ent.c2x ?_))
  rename_i cb _
  refine EntL.call (data_spec k n s y hy) rfl (by (repeat (first | exact Fits.rfl | exact Fits.nil | exact Sel.here | apply Sel.there | apply Fits.cons | apply Fits.drop))) rfl ?_
  rintro _ ⟨va, vc, rfl⟩
  (repeat (first | refine EntL.qx ?_ | (apply Ent.seq) | (apply Ent.region) | (apply EntL.nil) | (apply EntX.then_normal) | refine EntL.ux ?_ | (refine EntL.nn (fun _ _ => ?_)) | (apply Ent.exit) | (apply Ent.ret) | (apply Ent.skip) | (apply EntX.then_ret) | (apply EntX.block_ret) | (apply EntX.then_exit) | (apply EntX.block_exit; exact rfl) | (apply EntX.block_exit_other; exact rfl) | (apply EntX.block_normal) | refine EntL.g1x ?_ | refine EntL.g2x ?_ | refine EntL.g3 ?_ | refine Ent.c1x ?_ | refine Ent.c2x ?_))
  refine Ent.cutT (α := Int × { A' : List Ab // InvP most A' (i + 1) }) (fun z => [(0, ptrV c), (1, ptrV x), (7, .slice va (dataOf s y).length vc), (8, .int .i64 z.1), (9, .int .i64 z.1)])
    (fun z => own 1 (.slice va (dataOf s y).length vc) (dataOf s y).length (bv (dataOf s y)) :: CA c most z.2.1 :: RC x most z.2.1 :: R) ?_ ?_
  · by_cases k1 : k = 1
    · rcases hit_or n A with hmi | ⟨A1, a, A2, hAA, hab, hA1⟩
      · have hs : decide (([] : List UInt8) = []) = true := by simp
        (repeat (first | refine EntL.qx ?_ | (apply Ent.seq) | (apply Ent.region) | (apply EntL.nil) | (apply EntX.then_normal) | refine EntL.ux ?_ | (refine EntL.nn (fun _ _ => ?_)) | (apply Ent.block) | (apply Ent.exit) | (apply Ent.ret) | (apply Ent.skip) | (apply EntX.then_ret) | (apply EntX.block_ret) | (apply EntX.then_exit) | (apply EntX.block_exit; exact rfl) | (apply EntX.block_exit_other; exact rfl) | (apply EntX.block_normal) | refine EntL.g1x ?_ | refine EntL.g2x ?_ | refine EntL.g3 ?_ | refine Ent.c1x ?_ | refine Ent.c2x ?_))
        refine EntL.call (get_miss c most n A hmi) rfl (by (repeat (first | exact Fits.rfl | exact Fits.nil | exact Sel.here | apply Sel.there | apply Fits.cons | apply Fits.drop))) rfl ?_
        rintro _ -
        (repeat (first | refine EntL.qx ?_ | (apply Ent.seq) | (apply Ent.region) | (apply EntL.nil) | (apply EntX.then_normal) | refine EntL.ux ?_ | (refine EntL.nn (fun _ _ => ?_)) | (apply Ent.block) | (apply Ent.exit) | (apply Ent.ret) | (apply Ent.skip) | (apply EntX.then_ret) | (apply EntX.block_ret) | (apply EntX.then_exit) | (apply EntX.block_exit; exact rfl) | (apply EntX.block_exit_other; exact rfl) | (apply EntX.block_normal) | refine EntL.g1x ?_ | refine EntL.g2x ?_ | refine EntL.g3 ?_ | refine Ent.c1x ?_ | refine Ent.c2x ?_))
        refine EntL.call (getR_miss x most n A hmi hlA) rfl (by (repeat (first | exact Fits.rfl | exact Fits.nil | exact Sel.here | apply Sel.there | apply Fits.cons | apply Fits.drop))) rfl ?_
        rintro _ -
        (repeat (first | refine EntL.qx ?_ | (apply Ent.seq) | (apply Ent.region) | (apply EntL.nil) | (apply EntX.then_normal) | refine EntL.ux ?_ | (refine EntL.nn (fun _ _ => ?_)) | (apply Ent.block) | (apply Ent.exit) | (apply Ent.ret) | (apply Ent.skip) | (apply EntX.then_ret) | (apply EntX.block_ret) | (apply EntX.then_exit) | (apply EntX.block_exit; exact rfl) | (apply EntX.block_exit_other; exact rfl) | (apply EntX.block_normal) | refine EntL.g1x ?_ | refine EntL.g2x ?_ | refine EntL.g3 ?_ | refine Ent.c1x ?_ | refine Ent.c2x ?_))
        refine EntL.q (OpQ.toStr (bs := []) rfl inferInstance inferInstance Try.underlying9 reads_none) rfl ?_
        (repeat (first | refine EntL.qx ?_ | (apply Ent.seq) | (apply Ent.region) | (apply EntL.nil) | (apply EntX.then_normal) | refine EntL.ux ?_ | (refine EntL.nn (fun _ _ => ?_)) | (apply Ent.block) | (apply Ent.exit) | (apply Ent.ret) | (apply Ent.skip) | (apply EntX.then_ret) | (apply EntX.block_ret) | (apply EntX.then_exit) | (apply EntX.block_exit; exact rfl) | (apply EntX.block_exit_other; exact rfl) | (apply EntX.block_normal) | refine EntL.g1x ?_ | refine EntL.g2x ?_ | refine EntL.g3 ?_ | refine Ent.c1x ?_ | refine Ent.c2x ?_))
        refine EntL.q (OpQ.toStr (bs := []) rfl inferInstance inferInstance Try.underlying9 reads_none) rfl ?_
        (repeat (first | refine EntL.qx ?_ | (apply Ent.seq) | (apply Ent.region) | (apply EntL.nil) | (apply EntX.then_normal) | refine EntL.ux ?_ | (refine EntL.nn (fun _ _ => ?_)) | (apply Ent.block) | (apply Ent.exit) | (apply Ent.ret) | (apply Ent.skip) | (apply EntX.then_ret) | (apply EntX.block_ret) | (apply EntX.then_exit) | (apply EntX.block_exit; exact rfl) | (apply EntX.block_exit_other; exact rfl) | (apply EntX.block_normal) | refine EntL.g1x ?_ | refine EntL.g2x ?_ | refine EntL.g3 ?_ | refine Ent.c1x ?_ | refine Ent.c2x ?_))
        refine EntX.ret_of (res1 rfl rfl) A hJ.more rfl (by exact Fits.keep (by (repeat (first | exact Fits.rfl | exact Fits.nil | exact Sel.here | apply Sel.there | apply Fits.cons | apply Fits.drop))))
      · subst hAA
        have hak := hJ.ok a (by simp)
        have hs : decide (a.d = a.d) = true := by simp
        have hg := get_hit c most A1 A2 a hlA hak.2.2.2
        have hgR := getR_hit x most A1 A2 a (by rw [hab]; exact hA1) hlA hak.2.2.2
        rw [hab] at hg hgR
        (repeat (first | refine EntL.qx ?_ | (apply Ent.seq) | (apply Ent.region) | (apply EntL.nil) | (apply EntX.then_normal) | refine EntL.ux ?_ | (refine EntL.nn (fun _ _ => ?_)) | (apply Ent.block) | (apply Ent.exit) | (apply Ent.ret) | (apply Ent.skip) | (apply EntX.then_ret) | (apply EntX.block_ret) | (apply EntX.then_exit) | (apply EntX.block_exit; exact rfl) | (apply EntX.block_exit_other; exact rfl) | (apply EntX.block_normal) | refine EntL.g1x ?_ | refine EntL.g2x ?_ | refine EntL.g3 ?_ | refine Ent.c1x ?_ | refine Ent.c2x ?_))
        refine EntL.call (hg) rfl (by (repeat (first | exact Fits.rfl | exact Fits.nil | exact Sel.here | apply Sel.there | apply Fits.cons | apply Fits.drop))) rfl ?_
        rintro _ ⟨ga, gc, rfl⟩
        (repeat (first | refine EntL.qx ?_ | (apply Ent.seq) | (apply Ent.region) | (apply EntL.nil) | (apply EntX.then_normal) | refine EntL.ux ?_ | (refine EntL.nn (fun _ _ => ?_)) | (apply Ent.block) | (apply Ent.exit) | (apply Ent.ret) | (apply Ent.skip) | (apply EntX.then_ret) | (apply EntX.block_ret) | (apply EntX.then_exit) | (apply EntX.block_exit; exact rfl) | (apply EntX.block_exit_other; exact rfl) | (apply EntX.block_normal) | refine EntL.g1x ?_ | refine EntL.g2x ?_ | refine EntL.g3 ?_ | refine Ent.c1x ?_ | refine Ent.c2x ?_))
        refine EntL.call (hgR) rfl (by (repeat (first | exact Fits.rfl | exact Fits.nil | exact Sel.here | apply Sel.there | apply Fits.cons | apply Fits.drop))) rfl ?_
        rintro _ ⟨ga', gc', rfl⟩
        (repeat (first | refine EntL.qx ?_ | (apply Ent.seq) | (apply Ent.region) | (apply EntL.nil) | (apply EntX.then_normal) | refine EntL.ux ?_ | (refine EntL.nn (fun _ _ => ?_)) | (apply Ent.block) | (apply Ent.exit) | (apply Ent.ret) | (apply Ent.skip) | (apply EntX.then_ret) | (apply EntX.block_ret) | (apply EntX.then_exit) | (apply EntX.block_exit; exact rfl) | (apply EntX.block_exit_other; exact rfl) | (apply EntX.block_normal) | refine EntL.g1x ?_ | refine EntL.g2x ?_ | refine EntL.g3 ?_ | refine Ent.c1x ?_ | refine Ent.c2x ?_))
        refine EntL.q (OpQ.toStr rfl inferInstance inferInstance Try.underlying9 (reads_own (by (repeat (first | exact Sel.here | apply Sel.there))))) rfl ?_
        (repeat (first | refine EntL.qx ?_ | (apply Ent.seq) | (apply Ent.region) | (apply EntL.nil) | (apply EntX.then_normal) | refine EntL.ux ?_ | (refine EntL.nn (fun _ _ => ?_)) | (apply Ent.block) | (apply Ent.exit) | (apply Ent.ret) | (apply Ent.skip) | (apply EntX.then_ret) | (apply EntX.block_ret) | (apply EntX.then_exit) | (apply EntX.block_exit; exact rfl) | (apply EntX.block_exit_other; exact rfl) | (apply EntX.block_normal) | refine EntL.g1x ?_ | refine EntL.g2x ?_ | refine EntL.g3 ?_ | refine Ent.c1x ?_ | refine Ent.c2x ?_))
        refine EntL.q (OpQ.toStr rfl inferInstance inferInstance Try.underlying9 (reads_own (by (repeat (first | exact Sel.here | apply Sel.there))))) rfl ?_
        (repeat (first | refine EntL.qx ?_ | (apply Ent.seq) | (apply Ent.region) | (apply EntL.nil) | (apply EntX.then_normal) | refine EntL.ux ?_ | (refine EntL.nn (fun _ _ => ?_)) | (apply Ent.block) | (apply Ent.exit) | (apply Ent.ret) | (apply Ent.skip) | (apply EntX.then_ret) | (apply EntX.block_ret) | (apply EntX.then_exit) | (apply EntX.block_exit; exact rfl) | (apply EntX.block_exit_other; exact rfl) | (apply EntX.block_normal) | refine EntL.g1x ?_ | refine EntL.g2x ?_ | refine EntL.g3 ?_ | refine Ent.c1x ?_ | refine Ent.c2x ?_))
        refine EntX.ret_of (res1 rfl rfl) (A1 ++ A2 ++ [a]) (hJ.back hak).more rfl (by exact Fits.keep (by (repeat (first | exact Fits.rfl | exact Fits.nil | exact Sel.here | apply Sel.there | apply Fits.cons | apply Fits.drop))))
    by_cases k2 : k = 2
    · (repeat (first | refine EntL.qx ?_ | (apply Ent.seq) | (apply Ent.region) | (apply EntL.nil) | (apply EntX.then_normal) | refine EntL.ux ?_ | (refine EntL.nn (fun _ _ => ?_)) | (apply Ent.block) | (apply Ent.exit) | (apply Ent.ret) | (apply Ent.skip) | (apply EntX.then_ret) | (apply EntX.block_ret) | (apply EntX.then_exit) | (apply EntX.block_exit; exact rfl) | (apply EntX.block_exit_other; exact rfl) | (apply EntX.block_normal) | refine EntL.g1x ?_ | refine EntL.g2x ?_ | refine EntL.g3 ?_ | refine Ent.c1x ?_ | refine Ent.c2x ?_))
      refine Ent.draw 13 [cl cb [.int .i64 k, .int .i64 n, .int .i64 s, .int .u8 y]] mixed ?_
      ((first | refine EntD.qx 0 ?_ | refine EntD.px 0 ?_); (first | refine EntD.qx 1 ?_ | refine EntD.px 1 ?_); (first | refine EntD.qx 2 ?_ | refine EntD.px 2 ?_); (first | refine EntD.qx 3 ?_ | refine EntD.px 3 ?_))
      ((first | refine EntD.qx 5 ?_ | refine EntD.px 5 ?_); (first | refine EntD.qx 6 ?_ | refine EntD.px 6 ?_); (first | refine EntD.qx 7 ?_ | refine EntD.px 7 ?_); (first | refine EntD.qx 8 ?_ | refine EntD.px 8 ?_))
      refine EntD.one 4 (by decide +kernel) rfl (EntO.call (by (first | exact want_none rfl | exact want_yes rfl rfl rfl (by (first | with_reducible assumption | exact rfl | exact decide_eq_true (by omega) | exact decide_eq_false (by omega) | assumption)))) rfl (fill_spec c most n A (.slice va (dataOf s y).length vc) (dataOf s y) ⟨_, _, rfl⟩ hlA hdl) (by (repeat (first | exact Vals.nil | (apply Vals.cons; exact rfl)))) (by (repeat (first | exact Fits.rfl | exact Fits.nil | exact Sel.here | apply Sel.there | apply Fits.cons | apply Fits.drop))) (fun _ _ => by first | exact .inl ⟨rfl, rfl⟩ | exact .inr (by exact Fits.keep (by (repeat (first | exact Fits.rfl | exact Fits.nil | exact Sel.here | apply Sel.there | apply Fits.cons | apply Fits.drop))))) ?_)
      rintro _ -
      refine EntD.one 9 (by decide +kernel) rfl (EntO.call (by (first | exact want_none rfl | exact want_yes rfl rfl rfl (by (first | with_reducible assumption | exact rfl | exact decide_eq_true (by omega) | exact decide_eq_false (by omega) | assumption)))) rfl (data_spec k n s y hy) (by (repeat (first | exact Vals.nil | (apply Vals.cons; exact rfl)))) (by (repeat (first | exact Fits.rfl | exact Fits.nil | exact Sel.here | apply Sel.there | apply Fits.cons | apply Fits.drop))) (fun _ _ => by first | exact .inl ⟨rfl, rfl⟩ | exact .inr (by exact Fits.keep (by (repeat (first | exact Fits.rfl | exact Fits.nil | exact Sel.here | apply Sel.there | apply Fits.cons | apply Fits.drop))))) ?_)
      rintro _ ⟨va', vc', rfl⟩
      refine EntD.one 10 (by decide +kernel) rfl (EntO.call (by (first | exact want_none rfl | exact want_yes rfl rfl rfl (by (first | with_reducible assumption | exact rfl | exact decide_eq_true (by omega) | exact decide_eq_false (by omega) | assumption)))) rfl (fillR_spec x most n A (.slice va' (dataOf s y).length vc') (dataOf s y) hlA hdl) (by (repeat (first | exact Vals.nil | (apply Vals.cons; exact rfl)))) (by (repeat (first | exact Fits.rfl | exact Fits.nil | exact Sel.here | apply Sel.there | apply Fits.cons | apply Fits.drop))) (fun _ _ => by first | exact .inl ⟨rfl, rfl⟩ | exact .inr (by exact Fits.keep (by (repeat (first | exact Fits.rfl | exact Fits.nil | exact Sel.here | apply Sel.there | apply Fits.cons | apply Fits.drop))))) ?_)
      rintro _ -
      ((first | refine EntD.qx 11 ?_ | refine EntD.px 11 ?_); (first | refine EntD.qx 12 ?_ | refine EntD.px 12 ?_))
      (apply EntD.done; decide +kernel)
      (repeat (first | refine EntL.qx ?_ | (apply Ent.seq) | (apply Ent.region) | (apply EntL.nil) | (apply EntX.then_normal) | refine EntL.ux ?_ | (refine EntL.nn (fun _ _ => ?_)) | (apply Ent.block) | (apply Ent.exit) | (apply Ent.ret) | (apply Ent.skip) | (apply EntX.then_ret) | (apply EntX.block_ret) | (apply EntX.then_exit) | (apply EntX.block_exit; exact rfl) | (apply EntX.block_exit_other; exact rfl) | (apply EntX.block_normal) | refine EntL.g1x ?_ | refine EntL.g2x ?_ | refine EntL.g3 ?_ | refine Ent.c1x ?_ | refine Ent.c2x ?_))
      exact EntX.cut_end (_, ⟨_, fill_inv hm hdl hJ⟩) (by repeat (first | exact EnvSub.nil | refine EnvSub.cons rfl ?_)) (by exact Fits.keep (by (repeat (first | exact Fits.rfl | exact Fits.nil | exact Sel.here | apply Sel.there | apply Fits.cons | apply Fits.drop))))
    by_cases k3 : k = 3
    · (repeat (first | refine EntL.qx ?_ | (apply Ent.seq) | (apply Ent.region) | (apply EntL.nil) | (apply EntX.then_normal) | refine EntL.ux ?_ | (refine EntL.nn (fun _ _ => ?_)) | (apply Ent.block) | (apply Ent.exit) | (apply Ent.ret) | (apply Ent.skip) | (apply EntX.then_ret) | (apply EntX.block_ret) | (apply EntX.then_exit) | (apply EntX.block_exit; exact rfl) | (apply EntX.block_exit_other; exact rfl) | (apply EntX.block_normal) | refine EntL.g1x ?_ | refine EntL.g2x ?_ | refine EntL.g3 ?_ | refine Ent.c1x ?_ | refine Ent.c2x ?_))
      refine Ent.draw 13 [cl cb [.int .i64 k, .int .i64 n, .int .i64 s, .int .u8 y]] mixed ?_
      ((first | refine EntD.qx 0 ?_ | refine EntD.px 0 ?_); (first | refine EntD.qx 1 ?_ | refine EntD.px 1 ?_); (first | refine EntD.qx 2 ?_ | refine EntD.px 2 ?_); (first | refine EntD.qx 3 ?_ | refine EntD.px 3 ?_))
      ((first | refine EntD.qx 5 ?_ | refine EntD.px 5 ?_); (first | refine EntD.qx 6 ?_ | refine EntD.px 6 ?_); (first | refine EntD.qx 7 ?_ | refine EntD.px 7 ?_); (first | refine EntD.qx 8 ?_ | refine EntD.px 8 ?_))
      refine EntD.one 4 (by decide +kernel) rfl (EntO.call (by (first | exact want_none rfl | exact want_yes rfl rfl rfl (by (first | with_reducible assumption | exact rfl | exact decide_eq_true (by omega) | exact decide_eq_false (by omega) | assumption)))) rfl (put_spec c most n A (.slice va (dataOf s y).length vc) (dataOf s y) ⟨_, _, rfl⟩ hlA hdl) (by (repeat (first | exact Vals.nil | (apply Vals.cons; exact rfl)))) (by (repeat (first | exact Fits.rfl | exact Fits.nil | exact Sel.here | apply Sel.there | apply Fits.cons | apply Fits.drop))) (fun _ _ => by first | exact .inl ⟨rfl, rfl⟩ | exact .inr (by exact Fits.keep (by (repeat (first | exact Fits.rfl | exact Fits.nil | exact Sel.here | apply Sel.there | apply Fits.cons | apply Fits.drop))))) ?_)
      rintro _ -
      refine EntD.one 9 (by decide +kernel) rfl (EntO.call (by (first | exact want_none rfl | exact want_yes rfl rfl rfl (by (first | with_reducible assumption | exact rfl | exact decide_eq_true (by omega) | exact decide_eq_false (by omega) | assumption)))) rfl (data_spec k n s y hy) (by (repeat (first | exact Vals.nil | (apply Vals.cons; exact rfl)))) (by (repeat (first | exact Fits.rfl | exact Fits.nil | exact Sel.here | apply Sel.there | apply Fits.cons | apply Fits.drop))) (fun _ _ => by first | exact .inl ⟨rfl, rfl⟩ | exact .inr (by exact Fits.keep (by (repeat (first | exact Fits.rfl | exact Fits.nil | exact Sel.here | apply Sel.there | apply Fits.cons | apply Fits.drop))))) ?_)
      rintro _ ⟨va', vc', rfl⟩
      refine EntD.one 10 (by decide +kernel) rfl (EntO.call (by (first | exact want_none rfl | exact want_yes rfl rfl rfl (by (first | with_reducible assumption | exact rfl | exact decide_eq_true (by omega) | exact decide_eq_false (by omega) | assumption)))) rfl (putR_spec x most n A (.slice va' (dataOf s y).length vc') (dataOf s y) hlA hdl) (by (repeat (first | exact Vals.nil | (apply Vals.cons; exact rfl)))) (by (repeat (first | exact Fits.rfl | exact Fits.nil | exact Sel.here | apply Sel.there | apply Fits.cons | apply Fits.drop))) (fun _ _ => by first | exact .inl ⟨rfl, rfl⟩ | exact .inr (by exact Fits.keep (by (repeat (first | exact Fits.rfl | exact Fits.nil | exact Sel.here | apply Sel.there | apply Fits.cons | apply Fits.drop))))) ?_)
      rintro _ -
      ((first | refine EntD.qx 11 ?_ | refine EntD.px 11 ?_); (first | refine EntD.qx 12 ?_ | refine EntD.px 12 ?_))
      (apply EntD.done; decide +kernel)
      (repeat (first | refine EntL.qx ?_ | (apply Ent.seq) | (apply Ent.region) | (apply EntL.nil) | (apply EntX.then_normal) | refine EntL.ux ?_ | (refine EntL.nn (fun _ _ => ?_)) | (apply Ent.block) | (apply Ent.exit) | (apply Ent.ret) | (apply Ent.skip) | (apply EntX.then_ret) | (apply EntX.block_ret) | (apply EntX.then_exit) | (apply EntX.block_exit; exact rfl) | (apply EntX.block_exit_other; exact rfl) | (apply EntX.block_normal) | refine EntL.g1x ?_ | refine EntL.g2x ?_ | refine EntL.g3 ?_ | refine Ent.c1x ?_ | refine Ent.c2x ?_))
      exact EntX.cut_end (_, ⟨_, put_inv hm hdl hJ⟩) (by repeat (first | exact EnvSub.nil | refine EnvSub.cons rfl ?_)) (by exact Fits.keep (by (repeat (first | exact Fits.rfl | exact Fits.nil | exact Sel.here | apply Sel.there | apply Fits.cons | apply Fits.drop))))
    by_cases k4 : k = 4
    · (repeat (first | refine EntL.qx ?_ | (apply Ent.seq) | (apply Ent.region) | (apply EntL.nil) | (apply EntX.then_normal) | refine EntL.ux ?_ | (refine EntL.nn (fun _ _ => ?_)) | (apply Ent.block) | (apply Ent.exit) | (apply Ent.ret) | (apply Ent.skip) | (apply EntX.then_ret) | (apply EntX.block_ret) | (apply EntX.then_exit) | (apply EntX.block_exit; exact rfl) | (apply EntX.block_exit_other; exact rfl) | (apply EntX.block_normal) | refine EntL.g1x ?_ | refine EntL.g2x ?_ | refine EntL.g3 ?_ | refine Ent.c1x ?_ | refine Ent.c2x ?_))
      refine Ent.draw 10 [cl cb [.int .i64 k, .int .i64 n, .int .i64 s, .int .u8 y]] mixed ?_
      ((first | refine EntD.qx 0 ?_ | refine EntD.px 0 ?_); (first | refine EntD.qx 1 ?_ | refine EntD.px 1 ?_); (first | refine EntD.qx 2 ?_ | refine EntD.px 2 ?_))
      ((first | refine EntD.qx 4 ?_ | refine EntD.px 4 ?_); (first | refine EntD.qx 5 ?_ | refine EntD.px 5 ?_); (first | refine EntD.qx 6 ?_ | refine EntD.px 6 ?_))
      refine EntD.one 3 (by decide +kernel) rfl (EntO.call (by (first | exact want_none rfl | exact want_yes rfl rfl rfl (by (first | with_reducible assumption | exact rfl | exact decide_eq_true (by omega) | exact decide_eq_false (by omega) | assumption)))) rfl (pin_spec c most n A hpins) (by (repeat (first | exact Vals.nil | (apply Vals.cons; exact rfl)))) (by (repeat (first | exact Fits.rfl | exact Fits.nil | exact Sel.here | apply Sel.there | apply Fits.cons | apply Fits.drop))) (fun _ _ => by first | exact .inl ⟨rfl, rfl⟩ | exact .inr (by exact Fits.keep (by (repeat (first | exact Fits.rfl | exact Fits.nil | exact Sel.here | apply Sel.there | apply Fits.cons | apply Fits.drop))))) ?_)
      rintro _ -
      refine EntD.one 7 (by decide +kernel) rfl (EntO.call (by (first | exact want_none rfl | exact want_yes rfl rfl rfl (by (first | with_reducible assumption | exact rfl | exact decide_eq_true (by omega) | exact decide_eq_false (by omega) | assumption)))) rfl (pinR_spec x most n A hpins hlA) (by (repeat (first | exact Vals.nil | (apply Vals.cons; exact rfl)))) (by (repeat (first | exact Fits.rfl | exact Fits.nil | exact Sel.here | apply Sel.there | apply Fits.cons | apply Fits.drop))) (fun _ _ => by first | exact .inl ⟨rfl, rfl⟩ | exact .inr (by exact Fits.keep (by (repeat (first | exact Fits.rfl | exact Fits.nil | exact Sel.here | apply Sel.there | apply Fits.cons | apply Fits.drop))))) ?_)
      rintro _ -
      ((first | refine EntD.qx 8 ?_ | refine EntD.px 8 ?_); (first | refine EntD.qx 9 ?_ | refine EntD.px 9 ?_))
      (apply EntD.done; decide +kernel)
      (repeat (first | refine EntL.qx ?_ | (apply Ent.seq) | (apply Ent.region) | (apply EntL.nil) | (apply EntX.then_normal) | refine EntL.ux ?_ | (refine EntL.nn (fun _ _ => ?_)) | (apply Ent.block) | (apply Ent.exit) | (apply Ent.ret) | (apply Ent.skip) | (apply EntX.then_ret) | (apply EntX.block_ret) | (apply EntX.then_exit) | (apply EntX.block_exit; exact rfl) | (apply EntX.block_exit_other; exact rfl) | (apply EntX.block_normal) | refine EntL.g1x ?_ | refine EntL.g2x ?_ | refine EntL.g3 ?_ | refine Ent.c1x ?_ | refine Ent.c2x ?_))
      exact EntX.cut_end (_, ⟨_, pin_inv hJ⟩) (by repeat (first | exact EnvSub.nil | refine EnvSub.cons rfl ?_)) (by exact Fits.keep (by (repeat (first | exact Fits.rfl | exact Fits.nil | exact Sel.here | apply Sel.there | apply Fits.cons | apply Fits.drop))))
    by_cases k5 : k = 5
    · (repeat (first | refine EntL.qx ?_ | (apply Ent.seq) | (apply Ent.region) | (apply EntL.nil) | (apply EntX.then_normal) | refine EntL.ux ?_ | (refine EntL.nn (fun _ _ => ?_)) | (apply Ent.block) | (apply Ent.exit) | (apply Ent.ret) | (apply Ent.skip) | (apply EntX.then_ret) | (apply EntX.block_ret) | (apply EntX.then_exit) | (apply EntX.block_exit; exact rfl) | (apply EntX.block_exit_other; exact rfl) | (apply EntX.block_normal) | refine EntL.g1x ?_ | refine EntL.g2x ?_ | refine EntL.g3 ?_ | refine Ent.c1x ?_ | refine Ent.c2x ?_))
      refine Ent.draw 10 [cl cb [.int .i64 k, .int .i64 n, .int .i64 s, .int .u8 y]] mixed ?_
      ((first | refine EntD.qx 0 ?_ | refine EntD.px 0 ?_); (first | refine EntD.qx 1 ?_ | refine EntD.px 1 ?_); (first | refine EntD.qx 2 ?_ | refine EntD.px 2 ?_))
      ((first | refine EntD.qx 4 ?_ | refine EntD.px 4 ?_); (first | refine EntD.qx 5 ?_ | refine EntD.px 5 ?_); (first | refine EntD.qx 6 ?_ | refine EntD.px 6 ?_))
      refine EntD.one 3 (by decide +kernel) rfl (EntO.call (by (first | exact want_none rfl | exact want_yes rfl rfl rfl (by (first | with_reducible assumption | exact rfl | exact decide_eq_true (by omega) | exact decide_eq_false (by omega) | assumption)))) rfl (unpin_spec c most n A hpins) (by (repeat (first | exact Vals.nil | (apply Vals.cons; exact rfl)))) (by (repeat (first | exact Fits.rfl | exact Fits.nil | exact Sel.here | apply Sel.there | apply Fits.cons | apply Fits.drop))) (fun _ _ => by first | exact .inl ⟨rfl, rfl⟩ | exact .inr (by exact Fits.keep (by (repeat (first | exact Fits.rfl | exact Fits.nil | exact Sel.here | apply Sel.there | apply Fits.cons | apply Fits.drop))))) ?_)
      rintro _ -
      refine EntD.one 7 (by decide +kernel) rfl (EntO.call (by (first | exact want_none rfl | exact want_yes rfl rfl rfl (by (first | with_reducible assumption | exact rfl | exact decide_eq_true (by omega) | exact decide_eq_false (by omega) | assumption)))) rfl (unpinR_spec x most n A hpins hlA) (by (repeat (first | exact Vals.nil | (apply Vals.cons; exact rfl)))) (by (repeat (first | exact Fits.rfl | exact Fits.nil | exact Sel.here | apply Sel.there | apply Fits.cons | apply Fits.drop))) (fun _ _ => by first | exact .inl ⟨rfl, rfl⟩ | exact .inr (by exact Fits.keep (by (repeat (first | exact Fits.rfl | exact Fits.nil | exact Sel.here | apply Sel.there | apply Fits.cons | apply Fits.drop))))) ?_)
      rintro _ -
      ((first | refine EntD.qx 8 ?_ | refine EntD.px 8 ?_); (first | refine EntD.qx 9 ?_ | refine EntD.px 9 ?_))
      (apply EntD.done; decide +kernel)
      (repeat (first | refine EntL.qx ?_ | (apply Ent.seq) | (apply Ent.region) | (apply EntL.nil) | (apply EntX.then_normal) | refine EntL.ux ?_ | (refine EntL.nn (fun _ _ => ?_)) | (apply Ent.block) | (apply Ent.exit) | (apply Ent.ret) | (apply Ent.skip) | (apply EntX.then_ret) | (apply EntX.block_ret) | (apply EntX.then_exit) | (apply EntX.block_exit; exact rfl) | (apply EntX.block_exit_other; exact rfl) | (apply EntX.block_normal) | refine EntL.g1x ?_ | refine EntL.g2x ?_ | refine EntL.g3 ?_ | refine Ent.c1x ?_ | refine Ent.c2x ?_))
      exact EntX.cut_end (_, ⟨_, unpin_inv hnd hJ⟩) (by repeat (first | exact EnvSub.nil | refine EnvSub.cons rfl ?_)) (by exact Fits.keep (by (repeat (first | exact Fits.rfl | exact Fits.nil | exact Sel.here | apply Sel.there | apply Fits.cons | apply Fits.drop))))
    by_cases k6 : k = 6
    · (repeat (first | refine EntL.qx ?_ | (apply Ent.seq) | (apply Ent.region) | (apply EntL.nil) | (apply EntX.then_normal) | refine EntL.ux ?_ | (refine EntL.nn (fun _ _ => ?_)) | (apply Ent.block) | (apply Ent.exit) | (apply Ent.ret) | (apply Ent.skip) | (apply EntX.then_ret) | (apply EntX.block_ret) | (apply EntX.then_exit) | (apply EntX.block_exit; exact rfl) | (apply EntX.block_exit_other; exact rfl) | (apply EntX.block_normal) | refine EntL.g1x ?_ | refine EntL.g2x ?_ | refine EntL.g3 ?_ | refine Ent.c1x ?_ | refine Ent.c2x ?_))
      refine Ent.draw 10 [cl cb [.int .i64 k, .int .i64 n, .int .i64 s, .int .u8 y]] mixed ?_
      ((first | refine EntD.qx 0 ?_ | refine EntD.px 0 ?_); (first | refine EntD.qx 1 ?_ | refine EntD.px 1 ?_); (first | refine EntD.qx 2 ?_ | refine EntD.px 2 ?_))
      ((first | refine EntD.qx 4 ?_ | refine EntD.px 4 ?_); (first | refine EntD.qx 5 ?_ | refine EntD.px 5 ?_); (first | refine EntD.qx 6 ?_ | refine EntD.px 6 ?_))
      refine EntD.one 3 (by decide +kernel) rfl (EntO.call (by (first | exact want_none rfl | exact want_yes rfl rfl rfl (by (first | with_reducible assumption | exact rfl | exact decide_eq_true (by omega) | exact decide_eq_false (by omega) | assumption)))) rfl (clean_spec c most n A) (by (repeat (first | exact Vals.nil | (apply Vals.cons; exact rfl)))) (by (repeat (first | exact Fits.rfl | exact Fits.nil | exact Sel.here | apply Sel.there | apply Fits.cons | apply Fits.drop))) (fun _ _ => by first | exact .inl ⟨rfl, rfl⟩ | exact .inr (by exact Fits.keep (by (repeat (first | exact Fits.rfl | exact Fits.nil | exact Sel.here | apply Sel.there | apply Fits.cons | apply Fits.drop))))) ?_)
      rintro _ -
      refine EntD.one 7 (by decide +kernel) rfl (EntO.call (by (first | exact want_none rfl | exact want_yes rfl rfl rfl (by (first | with_reducible assumption | exact rfl | exact decide_eq_true (by omega) | exact decide_eq_false (by omega) | assumption)))) rfl (cleanR_spec x most n A hlA) (by (repeat (first | exact Vals.nil | (apply Vals.cons; exact rfl)))) (by (repeat (first | exact Fits.rfl | exact Fits.nil | exact Sel.here | apply Sel.there | apply Fits.cons | apply Fits.drop))) (fun _ _ => by first | exact .inl ⟨rfl, rfl⟩ | exact .inr (by exact Fits.keep (by (repeat (first | exact Fits.rfl | exact Fits.nil | exact Sel.here | apply Sel.there | apply Fits.cons | apply Fits.drop))))) ?_)
      rintro _ -
      ((first | refine EntD.qx 8 ?_ | refine EntD.px 8 ?_); (first | refine EntD.qx 9 ?_ | refine EntD.px 9 ?_))
      (apply EntD.done; decide +kernel)
      (repeat (first | refine EntL.qx ?_ | (apply Ent.seq) | (apply Ent.region) | (apply EntL.nil) | (apply EntX.then_normal) | refine EntL.ux ?_ | (refine EntL.nn (fun _ _ => ?_)) | (apply Ent.block) | (apply Ent.exit) | (apply Ent.ret) | (apply Ent.skip) | (apply EntX.then_ret) | (apply EntX.block_ret) | (apply EntX.then_exit) | (apply EntX.block_exit; exact rfl) | (apply EntX.block_exit_other; exact rfl) | (apply EntX.block_normal) | refine EntL.g1x ?_ | refine EntL.g2x ?_ | refine EntL.g3 ?_ | refine Ent.c1x ?_ | refine Ent.c2x ?_))
      exact EntX.cut_end (_, ⟨_, clean_inv hJ⟩) (by repeat (first | exact EnvSub.nil | refine EnvSub.cons rfl ?_)) (by exact Fits.keep (by (repeat (first | exact Fits.rfl | exact Fits.nil | exact Sel.here | apply Sel.there | apply Fits.cons | apply Fits.drop))))
    by_cases k7 : k = 7
    · (repeat (first | refine EntL.qx ?_ | (apply Ent.seq) | (apply Ent.region) | (apply EntL.nil) | (apply EntX.then_normal) | refine EntL.ux ?_ | (refine EntL.nn (fun _ _ => ?_)) | (apply Ent.block) | (apply Ent.exit) | (apply Ent.ret) | (apply Ent.skip) | (apply EntX.then_ret) | (apply EntX.block_ret) | (apply EntX.then_exit) | (apply EntX.block_exit; exact rfl) | (apply EntX.block_exit_other; exact rfl) | (apply EntX.block_normal) | refine EntL.g1x ?_ | refine EntL.g2x ?_ | refine EntL.g3 ?_ | refine Ent.c1x ?_ | refine Ent.c2x ?_))
      refine Ent.draw 10 [cl cb [.int .i64 k, .int .i64 n, .int .i64 s, .int .u8 y]] mixed ?_
      ((first | refine EntD.qx 0 ?_ | refine EntD.px 0 ?_); (first | refine EntD.qx 1 ?_ | refine EntD.px 1 ?_); (first | refine EntD.qx 2 ?_ | refine EntD.px 2 ?_))
      ((first | refine EntD.qx 4 ?_ | refine EntD.px 4 ?_); (first | refine EntD.qx 5 ?_ | refine EntD.px 5 ?_); (first | refine EntD.qx 6 ?_ | refine EntD.px 6 ?_))
      refine EntD.one 3 (by decide +kernel) rfl (EntO.call (by (first | exact want_none rfl | exact want_yes rfl rfl rfl (by (first | with_reducible assumption | exact rfl | exact decide_eq_true (by omega) | exact decide_eq_false (by omega) | assumption)))) rfl (drop_spec c most n A hlA) (by (repeat (first | exact Vals.nil | (apply Vals.cons; exact rfl)))) (by (repeat (first | exact Fits.rfl | exact Fits.nil | exact Sel.here | apply Sel.there | apply Fits.cons | apply Fits.drop))) (fun _ _ => by first | exact .inl ⟨rfl, rfl⟩ | exact .inr (by exact Fits.keep (by (repeat (first | exact Fits.rfl | exact Fits.nil | exact Sel.here | apply Sel.there | apply Fits.cons | apply Fits.drop))))) ?_)
      rintro _ -
      refine EntD.one 7 (by decide +kernel) rfl (EntO.call (by (first | exact want_none rfl | exact want_yes rfl rfl rfl (by (first | with_reducible assumption | exact rfl | exact decide_eq_true (by omega) | exact decide_eq_false (by omega) | assumption)))) rfl (dropR_spec x most n A hpins0 hlA) (by (repeat (first | exact Vals.nil | (apply Vals.cons; exact rfl)))) (by (repeat (first | exact Fits.rfl | exact Fits.nil | exact Sel.here | apply Sel.there | apply Fits.cons | apply Fits.drop))) (fun _ _ => by first | exact .inl ⟨rfl, rfl⟩ | exact .inr (by exact Fits.keep (by (repeat (first | exact Fits.rfl | exact Fits.nil | exact Sel.here | apply Sel.there | apply Fits.cons | apply Fits.drop))))) ?_)
      rintro _ -
      ((first | refine EntD.qx 8 ?_ | refine EntD.px 8 ?_); (first | refine EntD.qx 9 ?_ | refine EntD.px 9 ?_))
      (apply EntD.done; decide +kernel)
      (repeat (first | refine EntL.qx ?_ | (apply Ent.seq) | (apply Ent.region) | (apply EntL.nil) | (apply EntX.then_normal) | refine EntL.ux ?_ | (refine EntL.nn (fun _ _ => ?_)) | (apply Ent.block) | (apply Ent.exit) | (apply Ent.ret) | (apply Ent.skip) | (apply EntX.then_ret) | (apply EntX.block_ret) | (apply EntX.then_exit) | (apply EntX.block_exit; exact rfl) | (apply EntX.block_exit_other; exact rfl) | (apply EntX.block_normal) | refine EntL.g1x ?_ | refine EntL.g2x ?_ | refine EntL.g3 ?_ | refine Ent.c1x ?_ | refine Ent.c2x ?_))
      exact EntX.cut_end (_, ⟨_, drop_inv hJ⟩) (by repeat (first | exact EnvSub.nil | refine EnvSub.cons rfl ?_)) (by exact Fits.keep (by (repeat (first | exact Fits.rfl | exact Fits.nil | exact Sel.here | apply Sel.there | apply Fits.cons | apply Fits.drop))))
    (repeat (first | refine EntL.qx ?_ | (apply Ent.seq) | (apply Ent.region) | (apply EntL.nil) | (apply EntX.then_normal) | refine EntL.ux ?_ | (refine EntL.nn (fun _ _ => ?_)) | (apply Ent.block) | (apply Ent.exit) | (apply Ent.ret) | (apply Ent.skip) | (apply EntX.then_ret) | (apply EntX.block_ret) | (apply EntX.then_exit) | (apply EntX.block_exit; exact rfl) | (apply EntX.block_exit_other; exact rfl) | (apply EntX.block_normal) | refine EntL.g1x ?_ | refine EntL.g2x ?_ | refine EntL.g3 ?_ | refine Ent.c1x ?_ | refine Ent.c2x ?_))
    exact EntX.cut_end (_, ⟨A, hJ.more⟩) (by repeat (first | exact EnvSub.nil | refine EnvSub.cons rfl ?_)) (by exact Fits.keep (by (repeat (first | exact Fits.rfl | exact Fits.nil | exact Sel.here | apply Sel.there | apply Fits.cons | apply Fits.drop))))
  · rintro ⟨e, A', hA'⟩
    simp only
    have hee : decide (e = e) = true := by simp
    generalize (dataOf s y).length = len at *
    refine mmOwnA (k := len) (cs := bv (dataOf s y)) (by (repeat (first | exact Sel.here | apply Sel.there))) (fun va' vc' hv hl0 _ hpa => ?_)
    cases hv
    (repeat (first | refine EntL.qx ?_ | (apply Ent.seq) | (apply Ent.region) | (apply EntL.nil) | (apply EntX.then_normal) | refine EntL.ux ?_ | (refine EntL.nn (fun _ _ => ?_)) | (apply Ent.block) | (apply Ent.exit) | (apply Ent.ret) | (apply Ent.skip) | (apply EntX.then_ret) | (apply EntX.block_ret) | (apply EntX.then_exit) | (apply EntX.block_exit; exact rfl) | (apply EntX.block_exit_other; exact rfl) | (apply EntX.block_normal) | refine EntL.g1x ?_ | refine EntL.g2x ?_ | refine EntL.g3 ?_ | refine Ent.c1x ?_ | refine Ent.c2x ?_))
    refine Ent.loop (α := Nat × List Value) (fun z => [(0, ptrV c), (1, ptrV x), (7, .slice va len vc), (8, .int .i64 e), (9, .int .i64 e), (14, .int .i64 z.1)])
      (fun z => own 1 (.slice va len vc) len z.2 :: CA c most A' :: RC x most A' :: R) (fun z => z.1 ≤ len ∧ z.2.length = len) (fun z => len - z.1) (0, bv (dataOf s y)) ⟨Nat.zero_le _, by simp only; omega⟩ (by repeat (first | exact EnvSub.nil | refine EnvSub.cons rfl ?_)) (by exact Fits.keep (by (repeat (first | exact Fits.rfl | exact Fits.nil | exact Sel.here | apply Sel.there | apply Fits.cons | apply Fits.drop)))) ?_
    rintro ⟨j, cs⟩ ⟨hj, hcs⟩
    simp only at hj hcs ⊢
    by_cases hjl : j < len
    · obtain ⟨bb, rfl⟩ := hpa (by omega)
      (repeat (first | refine EntL.qx ?_ | (apply Ent.seq) | (apply Ent.region) | (apply EntL.nil) | (apply EntX.then_normal) | refine EntL.ux ?_ | (refine EntL.nn (fun _ _ => ?_)) | (apply Ent.block) | (apply Ent.exit) | (apply Ent.ret) | (apply Ent.skip) | (apply EntX.then_ret) | (apply EntX.block_ret) | (apply EntX.then_exit) | (apply EntX.block_exit; exact rfl) | (apply EntX.block_exit_other; exact rfl) | (apply EntX.block_normal) | refine EntL.g1x ?_ | refine EntL.g2x ?_ | refine EntL.g3 ?_ | refine Ent.c1x ?_ | refine Ent.c2x ?_))
      exact EntX.round_end (j + 1, cs.set j (.int .u8 238)) ⟨by simp only; omega, by simp only [List.length_set]; exact hcs⟩ (by simp only; omega) (by repeat (first | exact EnvSub.nil | refine EnvSub.cons rfl ?_)) (by exact Fits.keep (by (repeat (first | exact Fits.rfl | exact Fits.nil | exact Sel.here | apply Sel.there | apply Fits.cons | apply Fits.drop))))
    · (repeat (first | refine EntL.qx ?_ | (apply Ent.seq) | (apply Ent.region) | (apply EntL.nil) | (apply EntX.then_normal) | refine EntL.ux ?_ | (refine EntL.nn (fun _ _ => ?_)) | (apply Ent.block) | (apply Ent.exit) | (apply Ent.ret) | (apply Ent.skip) | (apply EntX.then_ret) | (apply EntX.block_ret) | (apply EntX.then_exit) | (apply EntX.block_exit; exact rfl) | (apply EntX.block_exit_other; exact rfl) | (apply EntX.block_normal) | refine EntL.g1x ?_ | refine EntL.g2x ?_ | refine EntL.g3 ?_ | refine Ent.c1x ?_ | refine Ent.c2x ?_))
      refine EntX.ret_of (res1 rfl rfl) A' hA' (by simp) (by exact Fits.keep (by (repeat (first | exact Fits.rfl | exact Fits.nil | exact Sel.here | apply Sel.there | apply Fits.cons | apply Fits.drop))))
end Go.Proofs.Ythlbimdlpadhdaa
