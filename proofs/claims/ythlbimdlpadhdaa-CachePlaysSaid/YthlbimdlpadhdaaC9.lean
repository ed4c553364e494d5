/- The law's small functions: within, has, data, sameInts. -/
import Derived.Test.YthlbimdlpadhdaaC8
import Derived.Test.YthlbimdlpadhdaaSlRow
namespace Go.Proofs.Ythlbimdlpadhdaa
open Go Go.Sl

theorem within_spec (x n : Int) (hn : 0 < n) (hn2 : n ≤ 1000) : Ctr Try.prog 14 [.int .i64 x, .int .i64 n] (fun R => R) (fun r : Int => 0 ≤ r ∧ r < n) (fun r => .int .i64 r) (fun _ R => R) := by
  refine Ctr.of_ent Try.func14 rfl Try.ntmps14 rfl (fun σ R => ?_)
  have h1 := Int.tmod_lt_of_pos x hn
  have h2 : -n < x.tmod n := by
    have := Int.lt_tmod_of_pos x hn
    omega
  (repeat (first | refine EntL.qq ?_ | (apply Ent.seq) | (apply Ent.region) | (apply EntL.nil) | (apply EntX.then_normal) | refine EntL.uu ?_ | (refine EntL.nn (fun _ _ => ?_)) | (apply Ent.block) | (apply Ent.exit) | (apply Ent.ret) | (apply Ent.skip) | (apply EntX.then_ret) | (apply EntX.block_ret) | (apply EntX.then_exit) | (apply EntX.block_exit; exact rfl) | (apply EntX.block_exit_other; exact rfl) | (apply EntX.block_normal) | refine EntL.g1 ?_ | refine EntL.g2 ?_ | refine EntL.g3 ?_ | refine Ent.c1 ?_ | refine Ent.c2 ?_))
  refine EntL.q (OpQ.rem rfl rfl (by omega)) rfl ?_
  (repeat' (first | refine EntL.qq ?_ | (apply Ent.seq) | (apply Ent.region) | (apply EntL.nil) | (apply EntX.then_normal) | refine EntL.uu ?_ | (refine EntL.nn (fun _ _ => ?_)) | (apply Ent.block) | (apply Ent.exit) | (apply Ent.ret) | (apply Ent.skip) | (apply EntX.then_ret) | (apply EntX.block_ret) | (apply EntX.then_exit) | (apply EntX.block_exit; exact rfl) | (apply EntX.block_exit_other; exact rfl) | (apply EntX.block_normal) | refine EntL.g1 ?_ | refine EntL.g2 ?_ | refine EntL.g3 ?_ | refine Ent.c1 ?_ | refine Ent.c2 ?_ | (first | (refine Ent.ifD rfl (fun h => ?_) (fun h => ?_) <;> (try (exfalso; omega))) | (refine Ent.ifN rfl (fun h => ?_) (fun h => ?_) <;> (try (exfalso; omega))) | refine Ent.cond rfl (fun h => ?_) (fun h => ?_))))
  · refine EntX.ret_of (res1 rfl rfl) (x.tmod n + n) ⟨by omega, by omega⟩ rfl (by exact Fits.keep (by (repeat (first | exact Fits.rfl | exact Fits.nil | exact Sel.here | apply Sel.there | apply Fits.cons | apply Fits.drop))))
  · refine EntX.ret_of (res1 rfl rfl) (x.tmod n) ⟨by omega, by omega⟩ rfl (by exact Fits.keep (by (repeat (first | exact Fits.rfl | exact Fits.nil | exact Sel.here | apply Sel.there | apply Fits.cons | apply Fits.drop))))

theorem has_spec (v : Value) (l : List Int) (x : Int) (hl : l.length ≤ 1000000) : Ctr Try.prog 22 [v, .int .i64 x] (fun R => own 1 v l.length (ints l) :: R) (fun _ : Unit => True)
    (fun _ => .bool (decide (x ∈ l))) (fun _ R => own 1 v l.length (ints l) :: R) := by
  refine Ctr.of_ent Try.func22 rfl Try.ntmps22 rfl (fun σ R => ?_)
  refine Ent.own_len (by (repeat (first | exact Sel.here | apply Sel.there))) (fun hv _ => ?_)
  obtain ⟨a, cap, rfl⟩ := hv
  (repeat (first | refine EntL.qq ?_ | (apply Ent.seq) | (apply Ent.region) | (apply EntL.nil) | (apply EntX.then_normal) | refine EntL.uu ?_ | (refine EntL.nn (fun _ _ => ?_)) | (apply Ent.block) | (apply Ent.exit) | (apply Ent.ret) | (apply Ent.skip) | (apply EntX.then_ret) | (apply EntX.block_ret) | (apply EntX.then_exit) | (apply EntX.block_exit; exact rfl) | (apply EntX.block_exit_other; exact rfl) | (apply EntX.block_normal) | refine EntL.g1 ?_ | refine EntL.g2 ?_ | refine EntL.g3 ?_ | refine Ent.c1 ?_ | refine Ent.c2 ?_))
  refine Ent.loop (α := Nat) (fun i => [(0, .slice a l.length cap), (1, .int .i64 x), (5, .int .i64 i)]) (fun _ => own 1 (.slice a l.length cap) l.length (ints l) :: R)
    (fun i => i ≤ l.length ∧ x ∉ l.take i) (fun i => l.length - i) 0 ⟨Nat.zero_le _, by simp⟩ (by repeat (first | exact EnvSub.nil | refine EnvSub.cons rfl ?_)) (fun _ h => h) (fun i hi => ?_)
  obtain ⟨hi, hx⟩ := hi
  (repeat (first | refine EntL.qq ?_ | (apply Ent.seq) | (apply Ent.region) | (apply EntL.nil) | (apply EntX.then_normal) | refine EntL.uu ?_ | (refine EntL.nn (fun _ _ => ?_)) | (apply Ent.block) | (apply Ent.exit) | (apply Ent.ret) | (apply Ent.skip) | (apply EntX.then_ret) | (apply EntX.block_ret) | (apply EntX.then_exit) | (apply EntX.block_exit; exact rfl) | (apply EntX.block_exit_other; exact rfl) | (apply EntX.block_normal) | refine EntL.g1 ?_ | refine EntL.g2 ?_ | refine EntL.g3 ?_ | refine Ent.c1 ?_ | refine Ent.c2 ?_))
  (first | (refine Ent.ifD rfl (fun h => ?_) (fun h => ?_) <;> (try (exfalso; omega))) | (refine Ent.ifN rfl (fun h => ?_) (fun h => ?_) <;> (try (exfalso; omega))) | refine Ent.cond rfl (fun h => ?_) (fun h => ?_))
  · have hil : i < l.length := by omega
    have ht : l.take (i + 1) = l.take i ++ [l[i]] := List.take_succ_eq_append_getElem hil
    (repeat (first | refine EntL.qq ?_ | (apply Ent.seq) | (apply Ent.region) | (apply EntL.nil) | (apply EntX.then_normal) | refine EntL.uu ?_ | (refine EntL.nn (fun _ _ => ?_)) | (apply Ent.block) | (apply Ent.exit) | (apply Ent.ret) | (apply Ent.skip) | (apply EntX.then_ret) | (apply EntX.block_ret) | (apply EntX.then_exit) | (apply EntX.block_exit; exact rfl) | (apply EntX.block_exit_other; exact rfl) | (apply EntX.block_normal) | refine EntL.g1 ?_ | refine EntL.g2 ?_ | refine EntL.g3 ?_ | refine Ent.c1 ?_ | refine Ent.c2 ?_))
    refine EntL.openOwn (k := l.length) (by (repeat (first | exact Sel.here | apply Sel.there))) (by omega) (fun b cap' rest hv hcap h3 h4 => ?_)
    cases hv
    (repeat (first | refine EntL.qq ?_ | (apply Ent.seq) | (apply Ent.region) | (apply EntL.nil) | (apply EntX.then_normal) | refine EntL.uu ?_ | (refine EntL.nn (fun _ _ => ?_)) | (apply Ent.block) | (apply Ent.exit) | (apply Ent.ret) | (apply Ent.skip) | (apply EntX.then_ret) | (apply EntX.block_ret) | (apply EntX.then_exit) | (apply EntX.block_exit; exact rfl) | (apply EntX.block_exit_other; exact rfl) | (apply EntX.block_normal) | refine EntL.g1 ?_ | refine EntL.g2 ?_ | refine EntL.g3 ?_ | refine Ent.c1 ?_ | refine Ent.c2 ?_))
    refine EntL.q (OpQ.load rfl inferInstance (v := .int .i64 l[i]) ?_) rfl ?_
    · rw [List.getElem?_append_left (by simpa using hil)]; simp [hil]
    (repeat (first | refine EntL.qq ?_ | (apply Ent.seq) | (apply Ent.region) | (apply EntL.nil) | (apply EntX.then_normal) | refine EntL.uu ?_ | (refine EntL.nn (fun _ _ => ?_)) | (apply Ent.block) | (apply Ent.exit) | (apply Ent.ret) | (apply Ent.skip) | (apply EntX.then_ret) | (apply EntX.block_ret) | (apply EntX.then_exit) | (apply EntX.block_exit; exact rfl) | (apply EntX.block_exit_other; exact rfl) | (apply EntX.block_normal) | refine EntL.g1 ?_ | refine EntL.g2 ?_ | refine EntL.g3 ?_ | refine Ent.c1 ?_ | refine Ent.c2 ?_))
    refine mm (shut_own (T := R) (by (repeat (first | exact Fits.rfl | exact Fits.nil | exact Sel.here | apply Sel.there | apply Fits.cons | apply Fits.drop))) hcap h3 h4) ?_
    (repeat' (first | refine EntL.qq ?_ | (apply Ent.seq) | (apply Ent.region) | (apply EntL.nil) | (apply EntX.then_normal) | refine EntL.uu ?_ | (refine EntL.nn (fun _ _ => ?_)) | (apply Ent.block) | (apply Ent.exit) | (apply Ent.ret) | (apply Ent.skip) | (apply EntX.then_ret) | (apply EntX.block_ret) | (apply EntX.then_exit) | (apply EntX.block_exit; exact rfl) | (apply EntX.block_exit_other; exact rfl) | (apply EntX.block_normal) | refine EntL.g1 ?_ | refine EntL.g2 ?_ | refine EntL.g3 ?_ | refine Ent.c1 ?_ | refine Ent.c2 ?_ | (first | (refine Ent.ifD rfl (fun h => ?_) (fun h => ?_) <;> (try (exfalso; omega))) | (refine Ent.ifN rfl (fun h => ?_) (fun h => ?_) <;> (try (exfalso; omega))) | refine Ent.cond rfl (fun h => ?_) (fun h => ?_))))
    · refine EntX.ret_of (res1 rfl rfl) () trivial (by congr 1; rw [decide_eq_true]; have := List.getElem_mem hil; simp_all) (by exact Fits.keep (by (repeat (first | exact Fits.rfl | exact Fits.nil | exact Sel.here | apply Sel.there | apply Fits.cons | apply Fits.drop))))
    · refine EntX.round_end (i + 1) ⟨by omega, ?_⟩ (by omega) (by repeat (first | exact EnvSub.nil | refine EnvSub.cons rfl ?_)) (by exact Fits.keep (by (repeat (first | exact Fits.rfl | exact Fits.nil | exact Sel.here | apply Sel.there | apply Fits.cons | apply Fits.drop))))
      rw [ht, List.mem_append]; exact fun h => h.elim hx (fun e => by simp only [List.mem_singleton] at e; simp_all)
  · have : i = l.length := by omega
    subst this
    (repeat (first | refine EntL.qq ?_ | (apply Ent.seq) | (apply Ent.region) | (apply EntL.nil) | (apply EntX.then_normal) | refine EntL.uu ?_ | (refine EntL.nn (fun _ _ => ?_)) | (apply Ent.block) | (apply Ent.exit) | (apply Ent.ret) | (apply Ent.skip) | (apply EntX.then_ret) | (apply EntX.block_ret) | (apply EntX.then_exit) | (apply EntX.block_exit; exact rfl) | (apply EntX.block_exit_other; exact rfl) | (apply EntX.block_normal) | refine EntL.g1 ?_ | refine EntL.g2 ?_ | refine EntL.g3 ?_ | refine Ent.c1 ?_ | refine Ent.c2 ?_))
    refine EntX.ret_of (res1 rfl rfl) () trivial (by congr 1; rw [decide_eq_false]; simpa using hx) (by exact Fits.keep (by (repeat (first | exact Fits.rfl | exact Fits.nil | exact Sel.here | apply Sel.there | apply Fits.cons | apply Fits.drop))))

/-- what a call's data are -/
def dataLen (s : Int) : Int := if s = 0 then 512 else min (max s 0) 2000
def dataOf (s y : Int) : List UInt8 := (List.range (dataLen s).toNat).map fun i : Nat => UInt8.ofNat (y.toNat + i)
theorem dataLen_ge (s : Int) : 0 ≤ dataLen s ∧ dataLen s ≤ 2000 := by unfold dataLen; split <;> omega
theorem dataOf_len (s y : Int) : (dataOf s y).length = (dataLen s).toNat := by simp [dataOf]
theorem dataOf_get (s y : Int) {i : Nat} (h : i < (dataLen s).toNat) : (bv (dataOf s y))[i]? = some (.int .u8 ((UInt8.ofNat (y.toNat + i)).toNat : Int)) := by simp [bv, dataOf, h]
/-- what the block holds in the midst of the filling -/
def dataAt (s y : Int) (i : Nat) : List Value := (bv (dataOf s y)).take i ++ List.replicate ((dataLen s).toNat - i) (.int .u8 0)
theorem dataAt_set (s y : Int) {i : Nat} (h : i < (dataLen s).toNat) : (dataAt s y i).set i (.int .u8 ((UInt8.ofNat (y.toNat + i)).toNat : Int)) = dataAt s y (i + 1) := by
  have hl : (bv (dataOf s y)).length = (dataLen s).toNat := by rw [bv_length, dataOf_len]
  have e1 : ((bv (dataOf s y)).take i).length = i := by simp [hl]; omega
  unfold dataAt
  rw [List.set_append_right _ _ (by omega), e1, Nat.sub_self]
  rw [show (dataLen s).toNat - i = ((dataLen s).toNat - (i + 1)) + 1 by omega, List.replicate_succ, List.set_cons_zero]
  rw [List.take_add_one, dataOf_get s y h]
  simp
theorem dataAt_len (s y : Int) {i : Nat} (h : i ≤ (dataLen s).toNat) : (dataAt s y i).length = (dataLen s).toNat := by simp [dataAt, bv_length, dataOf_len]; omega
theorem u8_sum (y : Int) (i : Nat) (hy0 : 0 ≤ y) : IntKind.u8.wrap (y + IntKind.u8.wrap (i : Int)) = ((UInt8.ofNat (y.toNat + i)).toNat : Int) := by
  rw [IntKind.wrap_u8, IntKind.wrap_u8, UInt8.toNat_ofNat']
  omega
theorem data_spec (kd bl s y : Int) (hy0 : 0 ≤ y) : Ctr Try.prog 16 [.agg #[.int .i64 kd, .int .i64 bl, .int .i64 s, .int .u8 y]] (fun R => R) (fun v : Value => IsSl (dataOf s y).length v)
    (fun v => v) (fun v R => own 1 v (dataOf s y).length (bv (dataOf s y)) :: R) := by
  refine Ctr.of_ent Try.func16 rfl Try.ntmps16 rfl (fun σ R => ?_)
  have hge := dataLen_ge s
  (repeat (first | refine EntL.qq ?_ | (apply Ent.seq) | (apply Ent.region) | (apply EntL.nil) | (apply EntX.then_normal) | refine EntL.uu ?_ | (refine EntL.nn (fun _ _ => ?_)) | (apply Ent.block) | (apply Ent.exit) | (apply Ent.ret) | (apply Ent.skip) | (apply EntX.then_ret) | (apply EntX.block_ret) | (apply EntX.then_exit) | (apply EntX.block_exit; exact rfl) | (apply EntX.block_exit_other; exact rfl) | (apply EntX.block_normal) | refine EntL.g1 ?_ | refine EntL.g2 ?_ | refine EntL.g3 ?_ | refine Ent.c1 ?_ | refine Ent.c2 ?_))
  rename_i cb _
  refine Ent.cutT (fun _ : Unit => [(1, .pointer (some ⟨cb, 0, none⟩)), (3, .int .i64 (dataLen s))]) (fun _ => cl cb [.int .i64 kd, .int .i64 bl, .int .i64 s, .int .u8 y] :: R) ?_ (fun _ => ?_)
  · by_cases h0 : s = 0
    · have hb : decide (s ≠ 0) = false := by simpa using h0
      (repeat (first | refine EntL.qq ?_ | (apply Ent.seq) | (apply Ent.region) | (apply EntL.nil) | (apply EntX.then_normal) | refine EntL.uu ?_ | (refine EntL.nn (fun _ _ => ?_)) | (apply Ent.block) | (apply Ent.exit) | (apply Ent.ret) | (apply Ent.skip) | (apply EntX.then_ret) | (apply EntX.block_ret) | (apply EntX.then_exit) | (apply EntX.block_exit; exact rfl) | (apply EntX.block_exit_other; exact rfl) | (apply EntX.block_normal) | refine EntL.g1 ?_ | refine EntL.g2 ?_ | refine EntL.g3 ?_ | refine Ent.c1 ?_ | refine Ent.c2 ?_))
      have hd : dataLen s = 512 := by simp [dataLen, h0]
      rw [hd]
      exact EntX.cut_end () (by repeat (first | exact EnvSub.nil | refine EnvSub.cons rfl ?_)) (by exact Fits.keep (by (repeat (first | exact Fits.rfl | exact Fits.nil | exact Sel.here | apply Sel.there | apply Fits.cons | apply Fits.drop))))
    · have hb : decide (s ≠ 0) = true := by simpa using h0
      (repeat (first | refine EntL.qq ?_ | (apply Ent.seq) | (apply Ent.region) | (apply EntL.nil) | (apply EntX.then_normal) | refine EntL.uu ?_ | (refine EntL.nn (fun _ _ => ?_)) | (apply Ent.block) | (apply Ent.exit) | (apply Ent.ret) | (apply Ent.skip) | (apply EntX.then_ret) | (apply EntX.block_ret) | (apply EntX.then_exit) | (apply EntX.block_exit; exact rfl) | (apply EntX.block_exit_other; exact rfl) | (apply EntX.block_normal) | refine EntL.g1 ?_ | refine EntL.g2 ?_ | refine EntL.g3 ?_ | refine Ent.c1 ?_ | refine Ent.c2 ?_))
      have hd : dataLen s = min (max s 0) 2000 := by simp [dataLen, h0]
      rw [hd]
      exact EntX.cut_end () (by repeat (first | exact EnvSub.nil | refine EnvSub.cons rfl ?_)) (by exact Fits.keep (by (repeat (first | exact Fits.rfl | exact Fits.nil | exact Sel.here | apply Sel.there | apply Fits.cons | apply Fits.drop))))
  (repeat (first | refine EntL.qq ?_ | (apply Ent.seq) | (apply Ent.region) | (apply EntL.nil) | (apply EntX.then_normal) | refine EntL.uu ?_ | (refine EntL.nn (fun _ _ => ?_)) | (apply Ent.block) | (apply Ent.exit) | (apply Ent.ret) | (apply Ent.skip) | (apply EntX.then_ret) | (apply EntX.block_ret) | (apply EntX.then_exit) | (apply EntX.block_exit; exact rfl) | (apply EntX.block_exit_other; exact rfl) | (apply EntX.block_normal) | refine EntL.g1 ?_ | refine EntL.g2 ?_ | refine EntL.g3 ?_ | refine Ent.c1 ?_ | refine Ent.c2 ?_))
  refine EntL.new (OpTo.makeSlice (a := dataLen s) (z := .int .u8 0) rfl rfl rfl hge.1 (by omega) (by omega)) rfl (fun bb _ => ?_)
  rw [show List.replicate (dataLen s).toNat (Value.int .u8 0) = dataAt s y 0 by simp [dataAt]]
  (repeat (first | refine EntL.qq ?_ | (apply Ent.seq) | (apply Ent.region) | (apply EntL.nil) | (apply EntX.then_normal) | refine EntL.uu ?_ | (refine EntL.nn (fun _ _ => ?_)) | (apply Ent.block) | (apply Ent.exit) | (apply Ent.ret) | (apply Ent.skip) | (apply EntX.then_ret) | (apply EntX.block_ret) | (apply EntX.then_exit) | (apply EntX.block_exit; exact rfl) | (apply EntX.block_exit_other; exact rfl) | (apply EntX.block_normal) | refine EntL.g1 ?_ | refine EntL.g2 ?_ | refine EntL.g3 ?_ | refine Ent.c1 ?_ | refine Ent.c2 ?_))
  refine Ent.loop (α := Nat) (fun i => [(1, .pointer (some ⟨cb, 0, none⟩)), (3, .int .i64 (dataLen s)), (4, .slice (some ⟨bb, 0, none⟩) (dataLen s).toNat (dataLen s).toNat), (5, .int .i64 i)])
    (fun i => cl bb (dataAt s y i) :: cl cb [.int .i64 kd, .int .i64 bl, .int .i64 s, .int .u8 y] :: R)
    (fun i => i ≤ (dataLen s).toNat) (fun i => (dataLen s).toNat - i) 0 (Nat.zero_le _) (by repeat (first | exact EnvSub.nil | refine EnvSub.cons rfl ?_)) (fun _ h => h) (fun i hi => ?_)
  have hlen := dataAt_len s y hi
  (repeat (first | refine EntL.qq ?_ | (apply Ent.seq) | (apply Ent.region) | (apply EntL.nil) | (apply EntX.then_normal) | refine EntL.uu ?_ | (refine EntL.nn (fun _ _ => ?_)) | (apply Ent.block) | (apply Ent.exit) | (apply Ent.ret) | (apply Ent.skip) | (apply EntX.then_ret) | (apply EntX.block_ret) | (apply EntX.then_exit) | (apply EntX.block_exit; exact rfl) | (apply EntX.block_exit_other; exact rfl) | (apply EntX.block_normal) | refine EntL.g1 ?_ | refine EntL.g2 ?_ | refine EntL.g3 ?_ | refine Ent.c1 ?_ | refine Ent.c2 ?_))
  (first | (refine Ent.ifD rfl (fun h => ?_) (fun h => ?_) <;> (try (exfalso; omega))) | (refine Ent.ifN rfl (fun h => ?_) (fun h => ?_) <;> (try (exfalso; omega))) | refine Ent.cond rfl (fun h => ?_) (fun h => ?_))
  · have hil : i < (dataLen s).toNat := by omega
    (repeat (first | refine EntL.qq ?_ | (apply Ent.seq) | (apply Ent.region) | (apply EntL.nil) | (apply EntX.then_normal) | refine EntL.uu ?_ | (refine EntL.nn (fun _ _ => ?_)) | (apply Ent.block) | (apply Ent.exit) | (apply Ent.ret) | (apply Ent.skip) | (apply EntX.then_ret) | (apply EntX.block_ret) | (apply EntX.then_exit) | (apply EntX.block_exit; exact rfl) | (apply EntX.block_exit_other; exact rfl) | (apply EntX.block_normal) | refine EntL.g1 ?_ | refine EntL.g2 ?_ | refine EntL.g3 ?_ | refine Ent.c1 ?_ | refine Ent.c2 ?_))
    refine EntL.q (OpQ.convw rfl) rfl ?_
    refine EntL.q (OpQ.addw rfl rfl) rfl ?_
    rw [u8_sum y i hy0]
    (repeat (first | refine EntL.qq ?_ | (apply Ent.seq) | (apply Ent.region) | (apply EntL.nil) | (apply EntX.then_normal) | refine EntL.uu ?_ | (refine EntL.nn (fun _ _ => ?_)) | (apply Ent.block) | (apply Ent.exit) | (apply Ent.ret) | (apply Ent.skip) | (apply EntX.then_ret) | (apply EntX.block_ret) | (apply EntX.then_exit) | (apply EntX.block_exit; exact rfl) | (apply EntX.block_exit_other; exact rfl) | (apply EntX.block_normal) | refine EntL.g1 ?_ | refine EntL.g2 ?_ | refine EntL.g3 ?_ | refine Ent.c1 ?_ | refine Ent.c2 ?_))
    refine EntL.u (OpU.store rfl rfl rfl inferInstance (Nat.ble_eq_true_of_le (by omega))) rfl ?_
    rw [dataAt_set s y hil]
    (repeat (first | refine EntL.qq ?_ | (apply Ent.seq) | (apply Ent.region) | (apply EntL.nil) | (apply EntX.then_normal) | refine EntL.uu ?_ | (refine EntL.nn (fun _ _ => ?_)) | (apply Ent.block) | (apply Ent.exit) | (apply Ent.ret) | (apply Ent.skip) | (apply EntX.then_ret) | (apply EntX.block_ret) | (apply EntX.then_exit) | (apply EntX.block_exit; exact rfl) | (apply EntX.block_exit_other; exact rfl) | (apply EntX.block_normal) | refine EntL.g1 ?_ | refine EntL.g2 ?_ | refine EntL.g3 ?_ | refine Ent.c1 ?_ | refine Ent.c2 ?_))
    refine EntX.round_end (i + 1) (by omega) (by omega) (by repeat (first | exact EnvSub.nil | refine EnvSub.cons rfl ?_)) (by exact Fits.keep (by (repeat (first | exact Fits.rfl | exact Fits.nil | exact Sel.here | apply Sel.there | apply Fits.cons | apply Fits.drop))))
  · have hi' : i = (dataLen s).toNat := by omega
    subst hi'
    (repeat (first | refine EntL.qq ?_ | (apply Ent.seq) | (apply Ent.region) | (apply EntL.nil) | (apply EntX.then_normal) | refine EntL.uu ?_ | (refine EntL.nn (fun _ _ => ?_)) | (apply Ent.block) | (apply Ent.exit) | (apply Ent.ret) | (apply Ent.skip) | (apply EntX.then_ret) | (apply EntX.block_ret) | (apply EntX.then_exit) | (apply EntX.block_exit; exact rfl) | (apply EntX.block_exit_other; exact rfl) | (apply EntX.block_normal) | refine EntL.g1 ?_ | refine EntL.g2 ?_ | refine EntL.g3 ?_ | refine Ent.c1 ?_ | refine Ent.c2 ?_))
    refine EntX.ret_of (res1 rfl rfl) (.slice (some ⟨bb, 0, none⟩) (dataLen s).toNat (dataLen s).toNat) ⟨_, _, by rw [dataOf_len]⟩ rfl ?_
    rw [show dataAt s y (dataLen s).toNat = bv (dataOf s y) by simp only [dataAt, Nat.sub_self, List.replicate_zero, List.append_nil]; exact List.take_of_length_le (by rw [bv_length, dataOf_len]; omega), dataOf_len]
    exact mem_trans (own_cl (sz := 1) (k := (dataLen s).toNat) (by (repeat (first | exact Sel.here | apply Sel.there))) (by rw [bv_length, dataOf_len, Nat.mul_one])) (by exact Fits.keep (by (repeat (first | exact Fits.rfl | exact Fits.nil | exact Sel.here | apply Sel.there | apply Fits.cons | apply Fits.drop))))
end Go.Proofs.Ythlbimdlpadhdaa
