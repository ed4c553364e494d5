/- CacheKeeps: one action of a call on the cache and on the tables. -/
import Derived.Test.YthlbimdlpadhdaaC10
namespace Go.Proofs.Ythlbimdlpadhdaa
open Go Go.Sl

instance : ZeroT Try.prog 9 (.string ⟨#[]⟩) := ⟨by kernel_rfl⟩
def tabS (T : Int → List UInt8) : List Value := (List.range 16).map fun j : Nat => sv (T j)
def tabB (A : List Ab) : List Value := (List.range 16).map fun j : Nat => .bool (dirtyN A j)
def tabI (A : List Ab) : List Value := (List.range 16).map fun j : Nat => .int .i64 (pinsN A j)
theorem tab_set {α : Type} (f g : Nat → α) (r : Nat) (h : ∀ j, j ≠ r → g j = f j) : ((List.range 16).map f).set r (g r) = (List.range 16).map g := by
  apply List.ext_getElem?
  intro i
  rw [List.getElem?_set]
  by_cases hi : r = i
  · subst hi
    by_cases hr : r < 16 <;> simp [hr]
  · rw [if_neg hi]
    by_cases hr : i < 16
    · simp [hr, h i (Ne.symm hi)]
    · simp [hr]
theorem tabB_same {A A' : List Ab} (h : ∀ j, dirtyN A' j = dirtyN A j) : tabB A' = tabB A := by simp [tabB, h]
theorem tabI_same {A A' : List Ab} (h : ∀ j, pinsN A' j = pinsN A j) : tabI A' = tabI A := by simp [tabI, h]

theorem tabS_nil : List.replicate (16 : Int).toNat (Value.string ⟨#[]⟩) = tabS (fun _ => []) := by
  have : sv [] = Value.string ⟨#[]⟩ := by unfold sv; rfl
  simp only [tabS, this]; rfl
theorem sv_one (l : List UInt8) : (sv l).oneCell' = true := by unfold sv; rfl
theorem tabS_set (T : Int → List UInt8) (r : Nat) (d : List UInt8) : (tabS T).set r (sv d) = tabS (upd T r d) := by
  have := tab_set (fun j : Nat => sv (T j)) (fun j : Nat => sv (upd T r d j)) r (fun j hj => by simp only [upd]; rw [if_neg (by omega)])
  simpa [upd, tabS] using this
theorem tabB_set {A A' : List Ab} {r : Nat} {x : Bool} (h : ∀ j, dirtyN A' j = if j = (r : Int) then x else dirtyN A j) : (tabB A).set r (.bool x) = tabB A' := by
  have := tab_set (fun j : Nat => Value.bool (dirtyN A j)) (fun j : Nat => .bool (dirtyN A' j)) r (fun j hj => by simp only [h]; rw [if_neg (by omega)])
  simpa [h, tabB] using this
theorem tabB_get {A : List Ab} {r : Nat} (h : r < 16) : (tabB A)[r]? = some (.bool (dirtyN A r)) := by simp [tabB, h]
theorem tabI_get {A : List Ab} {r : Nat} (h : r < 16) : (tabI A)[r]? = some (.int .i64 (pinsN A r)) := by simp [tabI, h]
theorem tabI_set {A A' : List Ab} {r : Nat} {x : Int} (h : ∀ j, pinsN A' j = if j = (r : Int) then x else pinsN A j) : (tabI A).set r (.int .i64 x) = tabI A' := by
  have := tab_set (fun j : Nat => Value.int .i64 (pinsN A j)) (fun j : Nat => .int .i64 (pinsN A' j)) r (fun j hj => by simp only [h]; rw [if_neg (by omega)])
  simpa [h, tabI] using this
theorem tabS_get {T : Int → List UInt8} {r : Nat} (h : r < 16) : (tabS T)[r]? = some (sv (T r)) := by simp [tabS, h]
theorem dirtyOf_len (A : List Ab) : (dirtyOf A).length ≤ A.length := by simp only [dirtyOf, dirtyRow, numsOf, List.length_mergeSort, List.length_map]; exact List.length_filter_le _ _
set_option maxHeartbeats 8000000 in
set_option maxRecDepth 20000 in
theorem keeps_spec (hsort : SortInts 31) (W : World) (n : Int) (a : Option Addr) (len cap : Nat) (X : Nat → List Value) (hX : RowsAt W a len 4 X)
    (hc : ∀ i, i < len → ∃ k b s y : Int, X i = [.int .i64 k, .int .i64 b, .int .i64 s, .int .u8 y] ∧ 0 ≤ y) :
    Ctr Try.prog 4 [.int .i64 n, .slice a len cap] (fun R => old W :: R) (fun _ : Unit => True) (fun _ => .bool true) (fun _ R => old W :: R) := by
  refine Ctr.of_ent Try.func4 rfl Try.ntmps4 rfl (fun σ R => ?_)
  (repeat (first | refine EntL.qq ?_ | (apply Ent.seq) | (apply Ent.region) | (apply EntL.nil) | (apply EntX.then_normal) | refine EntL.uu ?_ | (refine EntL.nn (fun _ _ => ?_)) | (apply Ent.block) | (apply Ent.exit) | (apply Ent.ret) | (apply Ent.skip) | (apply EntX.then_ret) | (apply EntX.block_ret) | (apply EntX.then_exit) | (apply EntX.block_exit; exact rfl) | (apply EntX.block_exit_other; exact rfl) | (apply EntX.block_normal) | refine EntL.g1 ?_ | refine EntL.g2 ?_ | refine EntL.g3 ?_ | refine Ent.c1 ?_ | refine Ent.c2 ?_))
  refine EntL.call known_spec rfl (by (repeat (first | exact Fits.rfl | exact Fits.nil | exact Sel.here | apply Sel.there | apply Fits.cons | apply Fits.drop))) rfl ?_
  rintro _ -
  (repeat (first | refine EntL.qq ?_ | (apply Ent.seq) | (apply Ent.region) | (apply EntL.nil) | (apply EntX.then_normal) | refine EntL.uu ?_ | (refine EntL.nn (fun _ _ => ?_)) | (apply Ent.block) | (apply Ent.exit) | (apply Ent.ret) | (apply Ent.skip) | (apply EntX.then_ret) | (apply EntX.block_ret) | (apply EntX.then_exit) | (apply EntX.block_exit; exact rfl) | (apply EntX.block_exit_other; exact rfl) | (apply EntX.block_normal) | refine EntL.g1 ?_ | refine EntL.g2 ?_ | refine EntL.g3 ?_ | refine Ent.c1 ?_ | refine Ent.c2 ?_))
  refine EntL.call (within_spec n 8 (by omega) (by omega)) rfl (by (repeat (first | exact Fits.rfl | exact Fits.nil | exact Sel.here | apply Sel.there | apply Fits.cons | apply Fits.drop))) rfl ?_
  rintro m ⟨hm0, hm8⟩
  (repeat (first | refine EntL.qq ?_ | (apply Ent.seq) | (apply Ent.region) | (apply EntL.nil) | (apply EntX.then_normal) | refine EntL.uu ?_ | (refine EntL.nn (fun _ _ => ?_)) | (apply Ent.block) | (apply Ent.exit) | (apply Ent.ret) | (apply Ent.skip) | (apply EntX.then_ret) | (apply EntX.block_ret) | (apply EntX.then_exit) | (apply EntX.block_exit; exact rfl) | (apply EntX.block_exit_other; exact rfl) | (apply EntX.block_normal) | refine EntL.g1 ?_ | refine EntL.g2 ?_ | refine EntL.g3 ?_ | refine Ent.c1 ?_ | refine Ent.c2 ?_))
  refine EntL.call (new_spec (1 + m) (by omega) (by omega)) rfl (by (repeat (first | exact Fits.rfl | exact Fits.nil | exact Sel.here | apply Sel.there | apply Fits.cons | apply Fits.drop))) rfl ?_
  rintro c -
  (repeat (first | refine EntL.qq ?_ | (apply Ent.seq) | (apply Ent.region) | (apply EntL.nil) | (apply EntX.then_normal) | refine EntL.uu ?_ | (refine EntL.nn (fun _ _ => ?_)) | (apply Ent.block) | (apply Ent.exit) | (apply Ent.ret) | (apply Ent.skip) | (apply EntX.then_ret) | (apply EntX.block_ret) | (apply EntX.then_exit) | (apply EntX.block_exit; exact rfl) | (apply EntX.block_exit_other; exact rfl) | (apply EntX.block_normal) | refine EntL.g1 ?_ | refine EntL.g2 ?_ | refine EntL.g3 ?_ | refine Ent.c1 ?_ | refine Ent.c2 ?_))
  refine EntL.new (OpTo.makeSlice (a := 16) (z := .string ⟨#[]⟩) rfl rfl rfl (by omega) (by omega) (by omega)) rfl (fun bt _ => ?_)
  (repeat (first | refine EntL.qq ?_ | (apply Ent.seq) | (apply Ent.region) | (apply EntL.nil) | (apply EntX.then_normal) | refine EntL.uu ?_ | (refine EntL.nn (fun _ _ => ?_)) | (apply Ent.block) | (apply Ent.exit) | (apply Ent.ret) | (apply Ent.skip) | (apply EntX.then_ret) | (apply EntX.block_ret) | (apply EntX.then_exit) | (apply EntX.block_exit; exact rfl) | (apply EntX.block_exit_other; exact rfl) | (apply EntX.block_normal) | refine EntL.g1 ?_ | refine EntL.g2 ?_ | refine EntL.g3 ?_ | refine Ent.c1 ?_ | refine Ent.c2 ?_))
  refine EntL.new (OpTo.makeSlice (a := 16) (z := .bool false) rfl rfl rfl (by omega) (by omega) (by omega)) rfl (fun bd _ => ?_)
  (repeat (first | refine EntL.qq ?_ | (apply Ent.seq) | (apply Ent.region) | (apply EntL.nil) | (apply EntX.then_normal) | refine EntL.uu ?_ | (refine EntL.nn (fun _ _ => ?_)) | (apply Ent.block) | (apply Ent.exit) | (apply Ent.ret) | (apply Ent.skip) | (apply EntX.then_ret) | (apply EntX.block_ret) | (apply EntX.then_exit) | (apply EntX.block_exit; exact rfl) | (apply EntX.block_exit_other; exact rfl) | (apply EntX.block_normal) | refine EntL.g1 ?_ | refine EntL.g2 ?_ | refine EntL.g3 ?_ | refine Ent.c1 ?_ | refine Ent.c2 ?_))
  refine EntL.new (OpTo.makeSlice (a := 16) (z := .int .i64 0) rfl rfl rfl (by omega) (by omega) (by omega)) rfl (fun bp _ => ?_)
  rw [show List.replicate (16 : Int).toNat (Value.string ⟨#[]⟩) = tabS (fun _ => []) from tabS_nil, show List.replicate (16 : Int).toNat (Value.bool false) = tabB [] from rfl, show List.replicate (16 : Int).toNat (Value.int .i64 0) = tabI [] from rfl]
  (repeat (first | refine EntL.qq ?_ | (apply Ent.seq) | (apply Ent.region) | (apply EntL.nil) | (apply EntX.then_normal) | refine EntL.uu ?_ | (refine EntL.nn (fun _ _ => ?_)) | (apply Ent.block) | (apply Ent.exit) | (apply Ent.ret) | (apply Ent.skip) | (apply EntX.then_ret) | (apply EntX.block_ret) | (apply EntX.then_exit) | (apply EntX.block_exit; exact rfl) | (apply EntX.block_exit_other; exact rfl) | (apply EntX.block_normal) | refine EntL.g1 ?_ | refine EntL.g2 ?_ | refine EntL.g3 ?_ | refine Ent.c1 ?_ | refine Ent.c2 ?_))
  refine Ent.loop (α := Nat × List Ab × (Int → List UInt8)) (fun x => [(0, .int .i64 (1 + m)), (1, .slice a len cap), (5, ptrV c), (7, .slice (some ⟨bt, 0, none⟩) 16 16), (8, .slice (some ⟨bd, 0, none⟩) 16 16), (9, .slice (some ⟨bp, 0, none⟩) 16 16), (10, .int .i64 x.1)])
    (fun x => cl bt (tabS x.2.2) :: cl bd (tabB x.2.1) :: cl bp (tabI x.2.1) :: CA c (1 + m) x.2.1 :: old W :: R)
    (fun x => x.1 ≤ 150 ∧ Inv (1 + m) x.2.1 x.2.2 x.1) (fun x => 150 - x.1) (0, [], fun _ => []) ⟨by simp, Inv.start _ (by omega) _⟩ (by repeat (first | exact EnvSub.nil | refine EnvSub.cons rfl ?_)) (by exact Fits.keep (by (repeat (first | exact Fits.rfl | exact Fits.nil | exact Sel.here | apply Sel.there | apply Fits.cons | apply Fits.drop)))) ?_
  rintro ⟨i, A, T⟩ ⟨hi, hJ⟩
  simp only at hi hJ ⊢
  by_cases h1 : i < len
  · by_cases h2 : i < 150
    · have b1 : decide ((i : Int) < len) = true := by simpa using h1
      have b2 : decide ((i : Int) < 150) = true := by simp; omega
      obtain ⟨k, b0, s0, y, hXi, hy⟩ := hc i h1
      obtain ⟨p, rfl⟩ := hX.addr i h1
      (repeat (first | refine EntL.qq ?_ | (apply Ent.seq) | (apply Ent.region) | (apply EntL.nil) | (apply EntX.then_normal) | refine EntL.uu ?_ | (refine EntL.nn (fun _ _ => ?_)) | (apply Ent.block) | (apply Ent.exit) | (apply Ent.ret) | (apply Ent.skip) | (apply EntX.then_ret) | (apply EntX.block_ret) | (apply EntX.then_exit) | (apply EntX.block_exit; exact rfl) | (apply EntX.block_exit_other; exact rfl) | (apply EntX.block_normal) | refine EntL.g1 ?_ | refine EntL.g2 ?_ | refine EntL.g3 ?_ | refine Ent.c1 ?_ | refine Ent.c2 ?_))
      refine EntL.q (OpQ.indexAddrA rfl rfl (by omega) (by omega)) rfl ?_
      refine EntL.q (OpQ.load_aggA rfl (hX.size i h1) (hX.st (by (repeat (first | exact Sel.here | apply Sel.there))) h1)) rfl ?_
      rw [hXi]
      (repeat (first | refine EntL.qq ?_ | (apply Ent.seq) | (apply Ent.region) | (apply EntL.nil) | (apply EntX.then_normal) | refine EntL.uu ?_ | (refine EntL.nn (fun _ _ => ?_)) | (apply Ent.block) | (apply Ent.exit) | (apply Ent.ret) | (apply Ent.skip) | (apply EntX.then_ret) | (apply EntX.block_ret) | (apply EntX.then_exit) | (apply EntX.block_exit; exact rfl) | (apply EntX.block_exit_other; exact rfl) | (apply EntX.block_normal) | refine EntL.g1 ?_ | refine EntL.g2 ?_ | refine EntL.g3 ?_ | refine Ent.c1 ?_ | refine Ent.c2 ?_))
      refine EntL.u (OpU.store_agg rfl rfl rfl rfl inferInstance rfl) rfl ?_
      (repeat (first | refine EntL.qq ?_ | (apply Ent.seq) | (apply Ent.region) | (apply EntL.nil) | (apply EntX.then_normal) | refine EntL.uu ?_ | (refine EntL.nn (fun _ _ => ?_)) | (apply Ent.block) | (apply Ent.exit) | (apply Ent.ret) | (apply Ent.skip) | (apply EntX.then_ret) | (apply EntX.block_ret) | (apply EntX.then_exit) | (apply EntX.block_exit; exact rfl) | (apply EntX.block_exit_other; exact rfl) | (apply EntX.block_normal) | refine EntL.g1 ?_ | refine EntL.g2 ?_ | refine EntL.g3 ?_ | refine Ent.c1 ?_ | refine Ent.c2 ?_))
      refine EntL.call (within_spec b0 16 (by omega) (by omega)) rfl (by (repeat (first | exact Fits.rfl | exact Fits.nil | exact Sel.here | apply Sel.there | apply Fits.cons | apply Fits.drop))) rfl ?_
      rintro r0 ⟨hr0, hr16⟩
      obtain ⟨r, rfl⟩ := Int.eq_ofNat_of_zero_le hr0
      (repeat (first | refine EntL.qq ?_ | (apply Ent.seq) | (apply Ent.region) | (apply EntL.nil) | (apply EntX.then_normal) | refine EntL.uu ?_ | (refine EntL.nn (fun _ _ => ?_)) | (apply Ent.exit) | (apply Ent.ret) | (apply Ent.skip) | (apply EntX.then_ret) | (apply EntX.block_ret) | (apply EntX.then_exit) | (apply EntX.block_exit; exact rfl) | (apply EntX.block_exit_other; exact rfl) | (apply EntX.block_normal) | refine EntL.g1 ?_ | refine EntL.g2 ?_ | refine EntL.g3 ?_ | refine Ent.c1 ?_ | refine Ent.c2 ?_))
      rename_i bc _
      refine mm (H' := cl bc [.int .i64 k, .int .i64 r, .int .i64 0, .int .u8 y] :: cl bt (tabS T) :: cl bd (tabB A) :: cl bp (tabI A) :: CA c (1 + m) A :: old W :: R) (by exact Fits.keep (by (repeat (first | exact Fits.rfl | exact Fits.nil | exact Sel.here | apply Sel.there | apply Fits.cons | apply Fits.drop)))) ?_
      refine Ent.cutT (α := { z : List Ab × (Int → List UInt8) // Inv (1 + m) z.1 z.2 (i + 1) }) (fun _ => [(0, .int .i64 (1 + m)), (1, .slice (some p) len cap), (5, ptrV c), (7, .slice (some ⟨bt, 0, none⟩) 16 16), (8, .slice (some ⟨bd, 0, none⟩) 16 16), (9, .slice (some ⟨bp, 0, none⟩) 16 16), (10, .int .i64 i), (11, ptrV bc)])
        (fun z => cl bc [.int .i64 k, .int .i64 r, .int .i64 0, .int .u8 y] :: cl bt (tabS z.1.2) :: cl bd (tabB z.1.1) :: cl bp (tabI z.1.1) :: CA c (1 + m) z.1.1 :: old W :: R) ?_ ?_
      · have hsz := hJ.size
        have hlA : A.length ≤ 1500 := by omega
        have hdl : (dataOf 0 y).length ≤ 1000000 := by rw [dataOf_len]; decide
        by_cases k2 : k = 2
        · have bk : decide (k = 2) = true := by simpa using k2
          (repeat (first | refine EntL.qq ?_ | (apply Ent.seq) | (apply Ent.region) | (apply EntL.nil) | (apply EntX.then_normal) | refine EntL.uu ?_ | (refine EntL.nn (fun _ _ => ?_)) | (apply Ent.block) | (apply Ent.exit) | (apply Ent.ret) | (apply Ent.skip) | (apply EntX.then_ret) | (apply EntX.block_ret) | (apply EntX.then_exit) | (apply EntX.block_exit; exact rfl) | (apply EntX.block_exit_other; exact rfl) | (apply EntX.block_normal) | refine EntL.g1 ?_ | refine EntL.g2 ?_ | refine EntL.g3 ?_ | refine Ent.c1 ?_ | refine Ent.c2 ?_))
          refine Ent.draw 7 [cl bc [.int .i64 k, .int .i64 r, .int .i64 0, .int .u8 y]] mixed ?_
          (first | refine EntD.qa 0 ?_ | refine EntD.pa 0 ?_)
          (first | refine EntD.qa 1 ?_ | refine EntD.pa 1 ?_)
          (first | refine EntD.qa 2 ?_ | refine EntD.pa 2 ?_)
          (first | refine EntD.qa 3 ?_ | refine EntD.pa 3 ?_)
          refine EntD.one 4 (by decide +kernel) rfl (EntO.call (want_none rfl) rfl (data_spec k r 0 y hy) (by (repeat (first | exact Vals.nil | (apply Vals.cons; exact rfl)))) (by (repeat (first | exact Fits.rfl | exact Fits.nil | exact Sel.here | apply Sel.there | apply Fits.cons | apply Fits.drop))) (fun _ _ => .inr (by exact Fits.keep (by (repeat (first | exact Fits.rfl | exact Fits.nil | exact Sel.here | apply Sel.there | apply Fits.cons | apply Fits.drop))))) ?_)
          rintro _ ⟨va, vc, rfl⟩
          refine EntD.one 5 (by decide +kernel) rfl (EntO.call (want_none rfl) rfl (fill_spec c (1 + m) r A (.slice va (dataOf 0 y).length vc) (dataOf 0 y) ⟨_, _, rfl⟩ hlA hdl) (by (repeat (first | exact Vals.nil | (apply Vals.cons; exact rfl)))) (by (repeat (first | exact Fits.rfl | exact Fits.nil | exact Sel.here | apply Sel.there | apply Fits.cons | apply Fits.drop))) (fun _ _ => .inr (by exact Fits.keep (by (repeat (first | exact Fits.rfl | exact Fits.nil | exact Sel.here | apply Sel.there | apply Fits.cons | apply Fits.drop))))) ?_)
          rintro _ -
          (refine EntD.one 6 (by decide +kernel) rfl ?_; first | refine EntO.qa ?_ | refine EntO.ue ?_ | refine EntO.ua ?_ | refine EntO.qe ?_ | refine EntO.na (fun _ _ => ?_))
          (apply EntD.done; decide +kernel)
          have hk' := fill_keeps (b := (r : Int)) (d := dataOf 0 y) (by omega : 1 ≤ 1 + m) ⟨hr0, hr16⟩ hJ
          by_cases hr : (fillA (1 + m) r (dataOf 0 y) A).1 = 0
          · have br : decide ((fillA (1 + m) r (dataOf 0 y) A).1 = 0) = true := by simpa using hr
            rw [if_pos hr] at hk'
            (repeat (first | refine EntL.qq ?_ | (apply Ent.seq) | (apply Ent.region) | (apply EntL.nil) | (apply EntX.then_normal) | refine EntL.uu ?_ | (refine EntL.nn (fun _ _ => ?_)) | (apply Ent.block) | (apply Ent.exit) | (apply Ent.ret) | (apply Ent.skip) | (apply EntX.then_ret) | (apply EntX.block_ret) | (apply EntX.then_exit) | (apply EntX.block_exit; exact rfl) | (apply EntX.block_exit_other; exact rfl) | (apply EntX.block_normal) | refine EntL.g1 ?_ | refine EntL.g2 ?_ | refine EntL.g3 ?_ | refine Ent.c1 ?_ | refine Ent.c2 ?_))
            refine Ent.draw 7 [cl bc [.int .i64 k, .int .i64 r, .int .i64 0, .int .u8 y]] mixed ?_
            (first | refine EntD.qa 0 ?_ | refine EntD.pa 0 ?_)
            (first | refine EntD.qa 1 ?_ | refine EntD.pa 1 ?_)
            (first | refine EntD.qa 2 ?_ | refine EntD.pa 2 ?_)
            (first | refine EntD.qa 3 ?_ | refine EntD.pa 3 ?_)
            refine EntD.one 4 (by decide +kernel) rfl (EntO.call (want_none rfl) rfl (data_spec k r 0 y hy) (by (repeat (first | exact Vals.nil | (apply Vals.cons; exact rfl)))) (by (repeat (first | exact Fits.rfl | exact Fits.nil | exact Sel.here | apply Sel.there | apply Fits.cons | apply Fits.drop))) (fun _ _ => .inr (by exact Fits.keep (by (repeat (first | exact Fits.rfl | exact Fits.nil | exact Sel.here | apply Sel.there | apply Fits.cons | apply Fits.drop))))) ?_)
            rintro _ ⟨va, vc, rfl⟩
            refine EntD.one 5 (by decide +kernel) rfl (EntO.to (want_none rfl) rfl (OpQ.to (OpQ.toStr rfl inferInstance inferInstance Try.underlying9 (reads_own (by (repeat (first | exact Sel.here | apply Sel.there)))))) (fun _ _ => .inr (by exact Fits.keep (by (repeat (first | exact Fits.rfl | exact Fits.nil | exact Sel.here | apply Sel.there | apply Fits.cons | apply Fits.drop))))) (fun _ _ => ?_))
            (refine EntD.one 6 (by decide +kernel) rfl ?_; first | refine EntO.qa ?_ | refine EntO.ue ?_ | refine EntO.ua ?_ | refine EntO.qe ?_ | refine EntO.na (fun _ _ => ?_))
            refine EntD.one 7 (by decide +kernel) rfl (EntO.to (want_none rfl) rfl (OpU.to (OpU.store rfl rfl (sv_one _) inferInstance (Nat.ble_eq_true_of_le (by simp [tabS]; omega)))) (fun _ _ => .inl ⟨rfl, rfl⟩) (fun _ _ => ?_))
            (apply EntD.done; decide +kernel)
            rw [tabS_set]
            (repeat (first | refine EntL.qq ?_ | (apply Ent.seq) | (apply Ent.region) | (apply EntL.nil) | (apply EntX.then_normal) | refine EntL.uu ?_ | (refine EntL.nn (fun _ _ => ?_)) | (apply Ent.block) | (apply Ent.exit) | (apply Ent.ret) | (apply Ent.skip) | (apply EntX.then_ret) | (apply EntX.block_ret) | (apply EntX.then_exit) | (apply EntX.block_exit; exact rfl) | (apply EntX.block_exit_other; exact rfl) | (apply EntX.block_normal) | refine EntL.g1 ?_ | refine EntL.g2 ?_ | refine EntL.g3 ?_ | refine Ent.c1 ?_ | refine Ent.c2 ?_))
            refine EntX.cut_end ⟨(_, _), hk'.1.more⟩ (by repeat (first | exact EnvSub.nil | refine EnvSub.cons rfl ?_)) ?_
            rw [tabB_same (fun j => (hk'.2 j).1), tabI_same (fun j => (hk'.2 j).2)]
            exact Fits.keep (by (repeat (first | exact Fits.rfl | exact Fits.nil | exact Sel.here | apply Sel.there | apply Fits.cons | apply Fits.drop)))
          · have br : decide ((fillA (1 + m) r (dataOf 0 y) A).1 = 0) = false := by simpa using hr
            rw [if_neg hr] at hk'
            rw [hk']
            (repeat (first | refine EntL.qq ?_ | (apply Ent.seq) | (apply Ent.region) | (apply EntL.nil) | (apply EntX.then_normal) | refine EntL.uu ?_ | (refine EntL.nn (fun _ _ => ?_)) | (apply Ent.block) | (apply Ent.exit) | (apply Ent.ret) | (apply Ent.skip) | (apply EntX.then_ret) | (apply EntX.block_ret) | (apply EntX.then_exit) | (apply EntX.block_exit; exact rfl) | (apply EntX.block_exit_other; exact rfl) | (apply EntX.block_normal) | refine EntL.g1 ?_ | refine EntL.g2 ?_ | refine EntL.g3 ?_ | refine Ent.c1 ?_ | refine Ent.c2 ?_))
            exact EntX.cut_end ⟨(A, T), hJ.more⟩ (by repeat (first | exact EnvSub.nil | refine EnvSub.cons rfl ?_)) (by exact Fits.keep (by (repeat (first | exact Fits.rfl | exact Fits.nil | exact Sel.here | apply Sel.there | apply Fits.cons | apply Fits.drop))))
        have n2 : decide (k = 2) = false := by simpa using k2
        by_cases k3 : k = 3
        · have bk : decide (k = 3) = true := by simpa using k3
          (repeat (first | refine EntL.qq ?_ | (apply Ent.seq) | (apply Ent.region) | (apply EntL.nil) | (apply EntX.then_normal) | refine EntL.uu ?_ | (refine EntL.nn (fun _ _ => ?_)) | (apply Ent.block) | (apply Ent.exit) | (apply Ent.ret) | (apply Ent.skip) | (apply EntX.then_ret) | (apply EntX.block_ret) | (apply EntX.then_exit) | (apply EntX.block_exit; exact rfl) | (apply EntX.block_exit_other; exact rfl) | (apply EntX.block_normal) | refine EntL.g1 ?_ | refine EntL.g2 ?_ | refine EntL.g3 ?_ | refine Ent.c1 ?_ | refine Ent.c2 ?_))
          refine Ent.draw 7 [cl bc [.int .i64 k, .int .i64 r, .int .i64 0, .int .u8 y]] mixed ?_
          (first | refine EntD.qa 0 ?_ | refine EntD.pa 0 ?_)
          (first | refine EntD.qa 1 ?_ | refine EntD.pa 1 ?_)
          (first | refine EntD.qa 2 ?_ | refine EntD.pa 2 ?_)
          (first | refine EntD.qa 3 ?_ | refine EntD.pa 3 ?_)
          refine EntD.one 4 (by decide +kernel) rfl (EntO.call (want_none rfl) rfl (data_spec k r 0 y hy) (by (repeat (first | exact Vals.nil | (apply Vals.cons; exact rfl)))) (by (repeat (first | exact Fits.rfl | exact Fits.nil | exact Sel.here | apply Sel.there | apply Fits.cons | apply Fits.drop))) (fun _ _ => .inr (by exact Fits.keep (by (repeat (first | exact Fits.rfl | exact Fits.nil | exact Sel.here | apply Sel.there | apply Fits.cons | apply Fits.drop))))) ?_)
          rintro _ ⟨va, vc, rfl⟩
          refine EntD.one 5 (by decide +kernel) rfl (EntO.call (want_none rfl) rfl (put_spec c (1 + m) r A (.slice va (dataOf 0 y).length vc) (dataOf 0 y) ⟨_, _, rfl⟩ hlA hdl) (by (repeat (first | exact Vals.nil | (apply Vals.cons; exact rfl)))) (by (repeat (first | exact Fits.rfl | exact Fits.nil | exact Sel.here | apply Sel.there | apply Fits.cons | apply Fits.drop))) (fun _ _ => .inr (by exact Fits.keep (by (repeat (first | exact Fits.rfl | exact Fits.nil | exact Sel.here | apply Sel.there | apply Fits.cons | apply Fits.drop))))) ?_)
          rintro _ -
          (refine EntD.one 6 (by decide +kernel) rfl ?_; first | refine EntO.qa ?_ | refine EntO.ue ?_ | refine EntO.ua ?_ | refine EntO.qe ?_ | refine EntO.na (fun _ _ => ?_))
          (apply EntD.done; decide +kernel)
          have hk' := put_keeps (b := (r : Int)) (d := dataOf 0 y) (by omega : 1 ≤ 1 + m) ⟨hr0, hr16⟩ hJ
          by_cases hr : (putA (1 + m) r (dataOf 0 y) A).1 = 0
          · have br : decide ((putA (1 + m) r (dataOf 0 y) A).1 = 0) = true := by simpa using hr
            rw [if_pos hr] at hk'
            (repeat (first | refine EntL.qq ?_ | (apply Ent.seq) | (apply Ent.region) | (apply EntL.nil) | (apply EntX.then_normal) | refine EntL.uu ?_ | (refine EntL.nn (fun _ _ => ?_)) | (apply Ent.block) | (apply Ent.exit) | (apply Ent.ret) | (apply Ent.skip) | (apply EntX.then_ret) | (apply EntX.block_ret) | (apply EntX.then_exit) | (apply EntX.block_exit; exact rfl) | (apply EntX.block_exit_other; exact rfl) | (apply EntX.block_normal) | refine EntL.g1 ?_ | refine EntL.g2 ?_ | refine EntL.g3 ?_ | refine Ent.c1 ?_ | refine Ent.c2 ?_))
            refine Ent.draw 7 [cl bc [.int .i64 k, .int .i64 r, .int .i64 0, .int .u8 y]] mixed ?_
            (first | refine EntD.qa 0 ?_ | refine EntD.pa 0 ?_)
            (first | refine EntD.qa 1 ?_ | refine EntD.pa 1 ?_)
            (first | refine EntD.qa 2 ?_ | refine EntD.pa 2 ?_)
            (first | refine EntD.qa 3 ?_ | refine EntD.pa 3 ?_)
            refine EntD.one 4 (by decide +kernel) rfl (EntO.call (want_none rfl) rfl (data_spec k r 0 y hy) (by (repeat (first | exact Vals.nil | (apply Vals.cons; exact rfl)))) (by (repeat (first | exact Fits.rfl | exact Fits.nil | exact Sel.here | apply Sel.there | apply Fits.cons | apply Fits.drop))) (fun _ _ => .inr (by exact Fits.keep (by (repeat (first | exact Fits.rfl | exact Fits.nil | exact Sel.here | apply Sel.there | apply Fits.cons | apply Fits.drop))))) ?_)
            rintro _ ⟨va, vc, rfl⟩
            refine EntD.one 5 (by decide +kernel) rfl (EntO.to (want_none rfl) rfl (OpQ.to (OpQ.toStr rfl inferInstance inferInstance Try.underlying9 (reads_own (by (repeat (first | exact Sel.here | apply Sel.there)))))) (fun _ _ => .inr (by exact Fits.keep (by (repeat (first | exact Fits.rfl | exact Fits.nil | exact Sel.here | apply Sel.there | apply Fits.cons | apply Fits.drop))))) (fun _ _ => ?_))
            (refine EntD.one 6 (by decide +kernel) rfl ?_; first | refine EntO.qa ?_ | refine EntO.ue ?_ | refine EntO.ua ?_ | refine EntO.qe ?_ | refine EntO.na (fun _ _ => ?_))
            refine EntD.one 7 (by decide +kernel) rfl (EntO.to (want_none rfl) rfl (OpU.to (OpU.store rfl rfl (sv_one _) inferInstance (Nat.ble_eq_true_of_le (by simp [tabS]; omega)))) (fun _ _ => .inl ⟨rfl, rfl⟩) (fun _ _ => ?_))
            (apply EntD.done; decide +kernel)
            rw [tabS_set]
            (repeat (first | refine EntL.qq ?_ | (apply Ent.seq) | (apply Ent.region) | (apply EntL.nil) | (apply EntX.then_normal) | refine EntL.uu ?_ | (refine EntL.nn (fun _ _ => ?_)) | (apply Ent.block) | (apply Ent.exit) | (apply Ent.ret) | (apply Ent.skip) | (apply EntX.then_ret) | (apply EntX.block_ret) | (apply EntX.then_exit) | (apply EntX.block_exit; exact rfl) | (apply EntX.block_exit_other; exact rfl) | (apply EntX.block_normal) | refine EntL.g1 ?_ | refine EntL.g2 ?_ | refine EntL.g3 ?_ | refine Ent.c1 ?_ | refine Ent.c2 ?_))
            refine EntL.u (OpU.store rfl rfl rfl inferInstance (Nat.ble_eq_true_of_le (by simp [tabB]; omega))) rfl ?_
            (repeat (first | refine EntL.qq ?_ | (apply Ent.seq) | (apply Ent.region) | (apply EntL.nil) | (apply EntX.then_normal) | refine EntL.uu ?_ | (refine EntL.nn (fun _ _ => ?_)) | (apply Ent.block) | (apply Ent.exit) | (apply Ent.ret) | (apply Ent.skip) | (apply EntX.then_ret) | (apply EntX.block_ret) | (apply EntX.then_exit) | (apply EntX.block_exit; exact rfl) | (apply EntX.block_exit_other; exact rfl) | (apply EntX.block_normal) | refine EntL.g1 ?_ | refine EntL.g2 ?_ | refine EntL.g3 ?_ | refine Ent.c1 ?_ | refine Ent.c2 ?_))
            refine EntX.cut_end ⟨(_, _), hk'.1.more⟩ (by repeat (first | exact EnvSub.nil | refine EnvSub.cons rfl ?_)) ?_
            rw [tabI_same (fun j => (hk'.2 j).2), ← tabB_set (r := r) (x := true) (fun j => (hk'.2 j).1)]
            try simp only [Nat.zero_add]
            exact Fits.keep (by (repeat (first | exact Fits.rfl | exact Fits.nil | exact Sel.here | apply Sel.there | apply Fits.cons | apply Fits.drop)))
          · have br : decide ((putA (1 + m) r (dataOf 0 y) A).1 = 0) = false := by simpa using hr
            rw [if_neg hr] at hk'
            rw [hk']
            (repeat (first | refine EntL.qq ?_ | (apply Ent.seq) | (apply Ent.region) | (apply EntL.nil) | (apply EntX.then_normal) | refine EntL.uu ?_ | (refine EntL.nn (fun _ _ => ?_)) | (apply Ent.block) | (apply Ent.exit) | (apply Ent.ret) | (apply Ent.skip) | (apply EntX.then_ret) | (apply EntX.block_ret) | (apply EntX.then_exit) | (apply EntX.block_exit; exact rfl) | (apply EntX.block_exit_other; exact rfl) | (apply EntX.block_normal) | refine EntL.g1 ?_ | refine EntL.g2 ?_ | refine EntL.g3 ?_ | refine Ent.c1 ?_ | refine Ent.c2 ?_))
            exact EntX.cut_end ⟨(A, T), hJ.more⟩ (by repeat (first | exact EnvSub.nil | refine EnvSub.cons rfl ?_)) (by exact Fits.keep (by (repeat (first | exact Fits.rfl | exact Fits.nil | exact Sel.here | apply Sel.there | apply Fits.cons | apply Fits.drop))))
        have n3 : decide (k = 3) = false := by simpa using k3
        by_cases k4 : k = 4
        · have bk : decide (k = 4) = true := by simpa using k4
          (repeat (first | refine EntL.qq ?_ | (apply Ent.seq) | (apply Ent.region) | (apply EntL.nil) | (apply EntX.then_normal) | refine EntL.uu ?_ | (refine EntL.nn (fun _ _ => ?_)) | (apply Ent.block) | (apply Ent.exit) | (apply Ent.ret) | (apply Ent.skip) | (apply EntX.then_ret) | (apply EntX.block_ret) | (apply EntX.then_exit) | (apply EntX.block_exit; exact rfl) | (apply EntX.block_exit_other; exact rfl) | (apply EntX.block_normal) | refine EntL.g1 ?_ | refine EntL.g2 ?_ | refine EntL.g3 ?_ | refine Ent.c1 ?_ | refine Ent.c2 ?_))
          refine EntL.call (pin_spec c (1 + m) r A (fun a ha => by have := hJ.pins a ha; omega)) rfl (by (repeat (first | exact Fits.rfl | exact Fits.nil | exact Sel.here | apply Sel.there | apply Fits.cons | apply Fits.drop))) rfl ?_
          rintro _ -
          have hk' := pin_keeps (b := (r : Int)) hJ
          by_cases hr : (pinA r A).1 = 0
          · have br : decide ((pinA r A).1 = 0) = true := by simpa using hr
            rw [if_pos hr] at hk'
            have hpr := pinsN_ge hJ (r : Int)
            (repeat (first | refine EntL.qq ?_ | (apply Ent.seq) | (apply Ent.region) | (apply EntL.nil) | (apply EntX.then_normal) | refine EntL.uu ?_ | (refine EntL.nn (fun _ _ => ?_)) | (apply Ent.block) | (apply Ent.exit) | (apply Ent.ret) | (apply Ent.skip) | (apply EntX.then_ret) | (apply EntX.block_ret) | (apply EntX.then_exit) | (apply EntX.block_exit; exact rfl) | (apply EntX.block_exit_other; exact rfl) | (apply EntX.block_normal) | refine EntL.g1 ?_ | refine EntL.g2 ?_ | refine EntL.g3 ?_ | refine Ent.c1 ?_ | refine Ent.c2 ?_))
            refine EntL.q (OpQ.load rfl inferInstance (v := .int .i64 (pinsN A r)) (by first | exact tabI_get (by omega) | (rw [Nat.zero_add]; exact tabI_get (by omega)))) rfl ?_
            (repeat (first | refine EntL.qq ?_ | (apply Ent.seq) | (apply Ent.region) | (apply EntL.nil) | (apply EntX.then_normal) | refine EntL.uu ?_ | (refine EntL.nn (fun _ _ => ?_)) | (apply Ent.block) | (apply Ent.exit) | (apply Ent.ret) | (apply Ent.skip) | (apply EntX.then_ret) | (apply EntX.block_ret) | (apply EntX.then_exit) | (apply EntX.block_exit; exact rfl) | (apply EntX.block_exit_other; exact rfl) | (apply EntX.block_normal) | refine EntL.g1 ?_ | refine EntL.g2 ?_ | refine EntL.g3 ?_ | refine Ent.c1 ?_ | refine Ent.c2 ?_))
            refine EntL.u (OpU.store rfl rfl rfl inferInstance (Nat.ble_eq_true_of_le (by simp [tabI]; omega))) rfl ?_
            (repeat (first | refine EntL.qq ?_ | (apply Ent.seq) | (apply Ent.region) | (apply EntL.nil) | (apply EntX.then_normal) | refine EntL.uu ?_ | (refine EntL.nn (fun _ _ => ?_)) | (apply Ent.block) | (apply Ent.exit) | (apply Ent.ret) | (apply Ent.skip) | (apply EntX.then_ret) | (apply EntX.block_ret) | (apply EntX.then_exit) | (apply EntX.block_exit; exact rfl) | (apply EntX.block_exit_other; exact rfl) | (apply EntX.block_normal) | refine EntL.g1 ?_ | refine EntL.g2 ?_ | refine EntL.g3 ?_ | refine Ent.c1 ?_ | refine Ent.c2 ?_))
            refine EntX.cut_end ⟨(_, T), hk'.1⟩ (by repeat (first | exact EnvSub.nil | refine EnvSub.cons rfl ?_)) ?_
            rw [tabB_same (fun j => (hk'.2 j).1), ← tabI_set (A := A) (A' := (pinA r A).2) (r := r) (x := pinsN A r + 1) (fun j => by rw [(hk'.2 j).2]; split <;> simp_all)]
            try simp only [Nat.zero_add]
            exact Fits.keep (by (repeat (first | exact Fits.rfl | exact Fits.nil | exact Sel.here | apply Sel.there | apply Fits.cons | apply Fits.drop)))
          · have br : decide ((pinA r A).1 = 0) = false := by simpa using hr
            rw [if_neg hr] at hk'
            rw [hk']
            (repeat (first | refine EntL.qq ?_ | (apply Ent.seq) | (apply Ent.region) | (apply EntL.nil) | (apply EntX.then_normal) | refine EntL.uu ?_ | (refine EntL.nn (fun _ _ => ?_)) | (apply Ent.block) | (apply Ent.exit) | (apply Ent.ret) | (apply Ent.skip) | (apply EntX.then_ret) | (apply EntX.block_ret) | (apply EntX.then_exit) | (apply EntX.block_exit; exact rfl) | (apply EntX.block_exit_other; exact rfl) | (apply EntX.block_normal) | refine EntL.g1 ?_ | refine EntL.g2 ?_ | refine EntL.g3 ?_ | refine Ent.c1 ?_ | refine Ent.c2 ?_))
            exact EntX.cut_end ⟨(A, T), hJ.more⟩ (by repeat (first | exact EnvSub.nil | refine EnvSub.cons rfl ?_)) (by exact Fits.keep (by (repeat (first | exact Fits.rfl | exact Fits.nil | exact Sel.here | apply Sel.there | apply Fits.cons | apply Fits.drop))))
        have n4 : decide (k = 4) = false := by simpa using k4
        by_cases k5 : k = 5
        · have bk : decide (k = 5) = true := by simpa using k5
          (repeat (first | refine EntL.qq ?_ | (apply Ent.seq) | (apply Ent.region) | (apply EntL.nil) | (apply EntX.then_normal) | refine EntL.uu ?_ | (refine EntL.nn (fun _ _ => ?_)) | (apply Ent.block) | (apply Ent.exit) | (apply Ent.ret) | (apply Ent.skip) | (apply EntX.then_ret) | (apply EntX.block_ret) | (apply EntX.then_exit) | (apply EntX.block_exit; exact rfl) | (apply EntX.block_exit_other; exact rfl) | (apply EntX.block_normal) | refine EntL.g1 ?_ | refine EntL.g2 ?_ | refine EntL.g3 ?_ | refine Ent.c1 ?_ | refine Ent.c2 ?_))
          refine EntL.call (unpin_spec c (1 + m) r A (fun a ha => by have := hJ.pins a ha; omega)) rfl (by (repeat (first | exact Fits.rfl | exact Fits.nil | exact Sel.here | apply Sel.there | apply Fits.cons | apply Fits.drop))) rfl ?_
          rintro _ -
          have hk' := unpin_keeps (b := (r : Int)) hJ
          by_cases hr : (unpinA r A).1 = 0
          · have br : decide ((unpinA r A).1 = 0) = true := by simpa using hr
            rw [if_pos hr] at hk'
            have hpr := pinsN_ge hJ (r : Int)
            (repeat (first | refine EntL.qq ?_ | (apply Ent.seq) | (apply Ent.region) | (apply EntL.nil) | (apply EntX.then_normal) | refine EntL.uu ?_ | (refine EntL.nn (fun _ _ => ?_)) | (apply Ent.block) | (apply Ent.exit) | (apply Ent.ret) | (apply Ent.skip) | (apply EntX.then_ret) | (apply EntX.block_ret) | (apply EntX.then_exit) | (apply EntX.block_exit; exact rfl) | (apply EntX.block_exit_other; exact rfl) | (apply EntX.block_normal) | refine EntL.g1 ?_ | refine EntL.g2 ?_ | refine EntL.g3 ?_ | refine Ent.c1 ?_ | refine Ent.c2 ?_))
            refine EntL.q (OpQ.load rfl inferInstance (v := .int .i64 (pinsN A r)) (by first | exact tabI_get (by omega) | (rw [Nat.zero_add]; exact tabI_get (by omega)))) rfl ?_
            (repeat (first | refine EntL.qq ?_ | (apply Ent.seq) | (apply Ent.region) | (apply EntL.nil) | (apply EntX.then_normal) | refine EntL.uu ?_ | (refine EntL.nn (fun _ _ => ?_)) | (apply Ent.block) | (apply Ent.exit) | (apply Ent.ret) | (apply Ent.skip) | (apply EntX.then_ret) | (apply EntX.block_ret) | (apply EntX.then_exit) | (apply EntX.block_exit; exact rfl) | (apply EntX.block_exit_other; exact rfl) | (apply EntX.block_normal) | refine EntL.g1 ?_ | refine EntL.g2 ?_ | refine EntL.g3 ?_ | refine Ent.c1 ?_ | refine Ent.c2 ?_))
            refine EntL.u (OpU.store rfl rfl rfl inferInstance (Nat.ble_eq_true_of_le (by simp [tabI]; omega))) rfl ?_
            (repeat (first | refine EntL.qq ?_ | (apply Ent.seq) | (apply Ent.region) | (apply EntL.nil) | (apply EntX.then_normal) | refine EntL.uu ?_ | (refine EntL.nn (fun _ _ => ?_)) | (apply Ent.block) | (apply Ent.exit) | (apply Ent.ret) | (apply Ent.skip) | (apply EntX.then_ret) | (apply EntX.block_ret) | (apply EntX.then_exit) | (apply EntX.block_exit; exact rfl) | (apply EntX.block_exit_other; exact rfl) | (apply EntX.block_normal) | refine EntL.g1 ?_ | refine EntL.g2 ?_ | refine EntL.g3 ?_ | refine Ent.c1 ?_ | refine Ent.c2 ?_))
            refine EntX.cut_end ⟨(_, T), hk'.1.more⟩ (by repeat (first | exact EnvSub.nil | refine EnvSub.cons rfl ?_)) ?_
            rw [tabB_same (fun j => (hk'.2 j).1), ← tabI_set (A := A) (A' := (unpinA r A).2) (r := r) (x := pinsN A r - 1) (fun j => by rw [(hk'.2 j).2]; split <;> simp_all)]
            try simp only [Nat.zero_add]
            exact Fits.keep (by (repeat (first | exact Fits.rfl | exact Fits.nil | exact Sel.here | apply Sel.there | apply Fits.cons | apply Fits.drop)))
          · have br : decide ((unpinA r A).1 = 0) = false := by simpa using hr
            rw [if_neg hr] at hk'
            rw [hk']
            (repeat (first | refine EntL.qq ?_ | (apply Ent.seq) | (apply Ent.region) | (apply EntL.nil) | (apply EntX.then_normal) | refine EntL.uu ?_ | (refine EntL.nn (fun _ _ => ?_)) | (apply Ent.block) | (apply Ent.exit) | (apply Ent.ret) | (apply Ent.skip) | (apply EntX.then_ret) | (apply EntX.block_ret) | (apply EntX.then_exit) | (apply EntX.block_exit; exact rfl) | (apply EntX.block_exit_other; exact rfl) | (apply EntX.block_normal) | refine EntL.g1 ?_ | refine EntL.g2 ?_ | refine EntL.g3 ?_ | refine Ent.c1 ?_ | refine Ent.c2 ?_))
            exact EntX.cut_end ⟨(A, T), hJ.more⟩ (by repeat (first | exact EnvSub.nil | refine EnvSub.cons rfl ?_)) (by exact Fits.keep (by (repeat (first | exact Fits.rfl | exact Fits.nil | exact Sel.here | apply Sel.there | apply Fits.cons | apply Fits.drop))))
        have n5 : decide (k = 5) = false := by simpa using k5
        by_cases k6 : k = 6
        · have bk : decide (k = 6) = true := by simpa using k6
          (repeat (first | refine EntL.qq ?_ | (apply Ent.seq) | (apply Ent.region) | (apply EntL.nil) | (apply EntX.then_normal) | refine EntL.uu ?_ | (refine EntL.nn (fun _ _ => ?_)) | (apply Ent.block) | (apply Ent.exit) | (apply Ent.ret) | (apply Ent.skip) | (apply EntX.then_ret) | (apply EntX.block_ret) | (apply EntX.then_exit) | (apply EntX.block_exit; exact rfl) | (apply EntX.block_exit_other; exact rfl) | (apply EntX.block_normal) | refine EntL.g1 ?_ | refine EntL.g2 ?_ | refine EntL.g3 ?_ | refine Ent.c1 ?_ | refine Ent.c2 ?_))
          refine EntL.call (clean_spec c (1 + m) r A) rfl (by (repeat (first | exact Fits.rfl | exact Fits.nil | exact Sel.here | apply Sel.there | apply Fits.cons | apply Fits.drop))) rfl ?_
          rintro _ -
          have hk' := clean_keeps (b := (r : Int)) hJ
          by_cases hr : (cleanA r A).1 = 0
          · have br : decide ((cleanA r A).1 = 0) = true := by simpa using hr
            rw [if_pos hr] at hk'
            (repeat (first | refine EntL.qq ?_ | (apply Ent.seq) | (apply Ent.region) | (apply EntL.nil) | (apply EntX.then_normal) | refine EntL.uu ?_ | (refine EntL.nn (fun _ _ => ?_)) | (apply Ent.block) | (apply Ent.exit) | (apply Ent.ret) | (apply Ent.skip) | (apply EntX.then_ret) | (apply EntX.block_ret) | (apply EntX.then_exit) | (apply EntX.block_exit; exact rfl) | (apply EntX.block_exit_other; exact rfl) | (apply EntX.block_normal) | refine EntL.g1 ?_ | refine EntL.g2 ?_ | refine EntL.g3 ?_ | refine Ent.c1 ?_ | refine Ent.c2 ?_))
            refine EntL.u (OpU.store rfl rfl rfl inferInstance (Nat.ble_eq_true_of_le (by simp [tabB]; omega))) rfl ?_
            (repeat (first | refine EntL.qq ?_ | (apply Ent.seq) | (apply Ent.region) | (apply EntL.nil) | (apply EntX.then_normal) | refine EntL.uu ?_ | (refine EntL.nn (fun _ _ => ?_)) | (apply Ent.block) | (apply Ent.exit) | (apply Ent.ret) | (apply Ent.skip) | (apply EntX.then_ret) | (apply EntX.block_ret) | (apply EntX.then_exit) | (apply EntX.block_exit; exact rfl) | (apply EntX.block_exit_other; exact rfl) | (apply EntX.block_normal) | refine EntL.g1 ?_ | refine EntL.g2 ?_ | refine EntL.g3 ?_ | refine Ent.c1 ?_ | refine Ent.c2 ?_))
            refine EntX.cut_end ⟨(_, T), hk'.1.more⟩ (by repeat (first | exact EnvSub.nil | refine EnvSub.cons rfl ?_)) ?_
            rw [tabI_same (fun j => (hk'.2 j).2), ← tabB_set (r := r) (x := false) (fun j => (hk'.2 j).1)]
            try simp only [Nat.zero_add]
            exact Fits.keep (by (repeat (first | exact Fits.rfl | exact Fits.nil | exact Sel.here | apply Sel.there | apply Fits.cons | apply Fits.drop)))
          · have br : decide ((cleanA r A).1 = 0) = false := by simpa using hr
            rw [if_neg hr] at hk'
            rw [hk']
            (repeat (first | refine EntL.qq ?_ | (apply Ent.seq) | (apply Ent.region) | (apply EntL.nil) | (apply EntX.then_normal) | refine EntL.uu ?_ | (refine EntL.nn (fun _ _ => ?_)) | (apply Ent.block) | (apply Ent.exit) | (apply Ent.ret) | (apply Ent.skip) | (apply EntX.then_ret) | (apply EntX.block_ret) | (apply EntX.then_exit) | (apply EntX.block_exit; exact rfl) | (apply EntX.block_exit_other; exact rfl) | (apply EntX.block_normal) | refine EntL.g1 ?_ | refine EntL.g2 ?_ | refine EntL.g3 ?_ | refine Ent.c1 ?_ | refine Ent.c2 ?_))
            exact EntX.cut_end ⟨(A, T), hJ.more⟩ (by repeat (first | exact EnvSub.nil | refine EnvSub.cons rfl ?_)) (by exact Fits.keep (by (repeat (first | exact Fits.rfl | exact Fits.nil | exact Sel.here | apply Sel.there | apply Fits.cons | apply Fits.drop))))
        have n6 : decide (k = 6) = false := by simpa using k6
        by_cases k7 : k = 7
        · have bk : decide (k = 7) = true := by simpa using k7
          (repeat (first | refine EntL.qq ?_ | (apply Ent.seq) | (apply Ent.region) | (apply EntL.nil) | (apply EntX.then_normal) | refine EntL.uu ?_ | (refine EntL.nn (fun _ _ => ?_)) | (apply Ent.block) | (apply Ent.exit) | (apply Ent.ret) | (apply Ent.skip) | (apply EntX.then_ret) | (apply EntX.block_ret) | (apply EntX.then_exit) | (apply EntX.block_exit; exact rfl) | (apply EntX.block_exit_other; exact rfl) | (apply EntX.block_normal) | refine EntL.g1 ?_ | refine EntL.g2 ?_ | refine EntL.g3 ?_ | refine Ent.c1 ?_ | refine Ent.c2 ?_))
          refine EntL.call (drop_spec c (1 + m) r A hlA) rfl (by (repeat (first | exact Fits.rfl | exact Fits.nil | exact Sel.here | apply Sel.there | apply Fits.cons | apply Fits.drop))) rfl ?_
          rintro _ -
          have hk' := drop_keeps (b := (r : Int)) hJ
          by_cases hr : (dropA r A).1 = 0
          · have br : decide ((dropA r A).1 = 0) = true := by simpa using hr
            rw [if_pos hr] at hk'
            have bq : decide ((0 : Int) < 0) = false := by decide
            have hd := hk'.2.2.1
            have hp := hk'.2.2.2
            (repeat (first | refine EntL.qq ?_ | (apply Ent.seq) | (apply Ent.region) | (apply EntL.nil) | (apply EntX.then_normal) | refine EntL.uu ?_ | (refine EntL.nn (fun _ _ => ?_)) | (apply Ent.block) | (apply Ent.exit) | (apply Ent.ret) | (apply Ent.skip) | (apply EntX.then_ret) | (apply EntX.block_ret) | (apply EntX.then_exit) | (apply EntX.block_exit; exact rfl) | (apply EntX.block_exit_other; exact rfl) | (apply EntX.block_normal) | refine EntL.g1 ?_ | refine EntL.g2 ?_ | refine EntL.g3 ?_ | refine Ent.c1 ?_ | refine Ent.c2 ?_))
            refine EntL.q (OpQ.load rfl inferInstance (v := .bool false) (by rw [← hd]; first | exact tabB_get (by omega) | (rw [Nat.zero_add]; exact tabB_get (by omega)))) rfl ?_
            (repeat (first | refine EntL.qq ?_ | (apply Ent.seq) | (apply Ent.region) | (apply EntL.nil) | (apply EntX.then_normal) | refine EntL.uu ?_ | (refine EntL.nn (fun _ _ => ?_)) | (apply Ent.block) | (apply Ent.exit) | (apply Ent.ret) | (apply Ent.skip) | (apply EntX.then_ret) | (apply EntX.block_ret) | (apply EntX.then_exit) | (apply EntX.block_exit; exact rfl) | (apply EntX.block_exit_other; exact rfl) | (apply EntX.block_normal) | refine EntL.g1 ?_ | refine EntL.g2 ?_ | refine EntL.g3 ?_ | refine Ent.c1 ?_ | refine Ent.c2 ?_))
            refine EntL.q (OpQ.load rfl inferInstance (v := .int .i64 0) (by rw [← hp]; first | exact tabI_get (by omega) | (rw [Nat.zero_add]; exact tabI_get (by omega)))) rfl ?_
            (repeat (first | refine EntL.qq ?_ | (apply Ent.seq) | (apply Ent.region) | (apply EntL.nil) | (apply EntX.then_normal) | refine EntL.uu ?_ | (refine EntL.nn (fun _ _ => ?_)) | (apply Ent.block) | (apply Ent.exit) | (apply Ent.ret) | (apply Ent.skip) | (apply EntX.then_ret) | (apply EntX.block_ret) | (apply EntX.then_exit) | (apply EntX.block_exit; exact rfl) | (apply EntX.block_exit_other; exact rfl) | (apply EntX.block_normal) | refine EntL.g1 ?_ | refine EntL.g2 ?_ | refine EntL.g3 ?_ | refine Ent.c1 ?_ | refine Ent.c2 ?_))
            refine EntX.cut_end ⟨(_, T), hk'.1.more⟩ (by repeat (first | exact EnvSub.nil | refine EnvSub.cons rfl ?_)) ?_
            rw [tabB_same (fun j => (hk'.2.1 j).1), tabI_same (fun j => (hk'.2.1 j).2)]
            exact Fits.keep (by (repeat (first | exact Fits.rfl | exact Fits.nil | exact Sel.here | apply Sel.there | apply Fits.cons | apply Fits.drop)))
          · have br : decide ((dropA r A).1 = 0) = false := by simpa using hr
            rw [if_neg hr] at hk'
            rw [hk']
            (repeat (first | refine EntL.qq ?_ | (apply Ent.seq) | (apply Ent.region) | (apply EntL.nil) | (apply EntX.then_normal) | refine EntL.uu ?_ | (refine EntL.nn (fun _ _ => ?_)) | (apply Ent.block) | (apply Ent.exit) | (apply Ent.ret) | (apply Ent.skip) | (apply EntX.then_ret) | (apply EntX.block_ret) | (apply EntX.then_exit) | (apply EntX.block_exit; exact rfl) | (apply EntX.block_exit_other; exact rfl) | (apply EntX.block_normal) | refine EntL.g1 ?_ | refine EntL.g2 ?_ | refine EntL.g3 ?_ | refine Ent.c1 ?_ | refine Ent.c2 ?_))
            exact EntX.cut_end ⟨(A, T), hJ.more⟩ (by repeat (first | exact EnvSub.nil | refine EnvSub.cons rfl ?_)) (by exact Fits.keep (by (repeat (first | exact Fits.rfl | exact Fits.nil | exact Sel.here | apply Sel.there | apply Fits.cons | apply Fits.drop))))
        have n7 : decide (k = 7) = false := by simpa using k7
        (repeat (first | refine EntL.qq ?_ | (apply Ent.seq) | (apply Ent.region) | (apply EntL.nil) | (apply EntX.then_normal) | refine EntL.uu ?_ | (refine EntL.nn (fun _ _ => ?_)) | (apply Ent.block) | (apply Ent.exit) | (apply Ent.ret) | (apply Ent.skip) | (apply EntX.then_ret) | (apply EntX.block_ret) | (apply EntX.then_exit) | (apply EntX.block_exit; exact rfl) | (apply EntX.block_exit_other; exact rfl) | (apply EntX.block_normal) | refine EntL.g1 ?_ | refine EntL.g2 ?_ | refine EntL.g3 ?_ | refine Ent.c1 ?_ | refine Ent.c2 ?_))
        exact EntX.cut_end ⟨(A, T), hJ.more⟩ (by repeat (first | exact EnvSub.nil | refine EnvSub.cons rfl ?_)) (by exact Fits.keep (by (repeat (first | exact Fits.rfl | exact Fits.nil | exact Sel.here | apply Sel.there | apply Fits.cons | apply Fits.drop))))
      · rintro ⟨⟨A', T'⟩, hJ'⟩
        simp only at hJ' ⊢
        have hs' := hJ'.size
        have hlA' : A'.length ≤ 1500 := by omega
        (repeat (first | refine EntL.qq ?_ | (apply Ent.seq) | (apply Ent.region) | (apply EntL.nil) | (apply EntX.then_normal) | refine EntL.uu ?_ | (refine EntL.nn (fun _ _ => ?_)) | (apply Ent.block) | (apply Ent.exit) | (apply Ent.ret) | (apply Ent.skip) | (apply EntX.then_ret) | (apply EntX.block_ret) | (apply EntX.then_exit) | (apply EntX.block_exit; exact rfl) | (apply EntX.block_exit_other; exact rfl) | (apply EntX.block_normal) | refine EntL.g1 ?_ | refine EntL.g2 ?_ | refine EntL.g3 ?_ | refine Ent.c1 ?_ | refine Ent.c2 ?_))
        refine EntL.call (held_spec c (1 + m) A' hlA') rfl (by (repeat (first | exact Fits.rfl | exact Fits.nil | exact Sel.here | apply Sel.there | apply Fits.cons | apply Fits.drop))) rfl ?_
        rintro _ ⟨ha, hcap, rfl⟩
        have bl : decide (1 + m < (A'.length : Int)) = false := by simp; omega
        (repeat (first | refine EntL.qq ?_ | (apply Ent.seq) | (apply Ent.region) | (apply EntL.nil) | (apply EntX.then_normal) | refine EntL.uu ?_ | (refine EntL.nn (fun _ _ => ?_)) | (apply Ent.exit) | (apply Ent.ret) | (apply Ent.skip) | (apply EntX.then_ret) | (apply EntX.block_ret) | (apply EntX.then_exit) | (apply EntX.block_exit; exact rfl) | (apply EntX.block_exit_other; exact rfl) | (apply EntX.block_normal) | refine EntL.g1 ?_ | refine EntL.g2 ?_ | refine EntL.g3 ?_ | refine Ent.c1 ?_ | refine Ent.c2 ?_))
        refine Ent.cutT (α := Unit) (fun _ => [(0, .int .i64 (1 + m)), (1, .slice (some p) len cap), (5, ptrV c), (7, .slice (some ⟨bt, 0, none⟩) 16 16), (8, .slice (some ⟨bd, 0, none⟩) 16 16), (9, .slice (some ⟨bp, 0, none⟩) 16 16), (10, .int .i64 i), (11, ptrV bc), (14, .slice ha A'.length hcap)])
          (fun _ => own 1 (.slice ha A'.length hcap) A'.length (ints (numsOf A')) :: CA c (1 + m) A' :: cl bc [.int .i64 k, .int .i64 r, .int .i64 0, .int .u8 y] :: cl bt (tabS T') :: cl bd (tabB A') :: cl bp (tabI A') :: old W :: R) ?_ (fun _ => ?_)
        · -- the sixteen rounds
          (repeat (first | refine EntL.qq ?_ | (apply Ent.seq) | (apply Ent.region) | (apply EntL.nil) | (apply EntX.then_normal) | refine EntL.uu ?_ | (refine EntL.nn (fun _ _ => ?_)) | (apply Ent.block) | (apply Ent.exit) | (apply Ent.ret) | (apply Ent.skip) | (apply EntX.then_ret) | (apply EntX.block_ret) | (apply EntX.then_exit) | (apply EntX.block_exit; exact rfl) | (apply EntX.block_exit_other; exact rfl) | (apply EntX.block_normal) | refine EntL.g1 ?_ | refine EntL.g2 ?_ | refine EntL.g3 ?_ | refine Ent.c1 ?_ | refine Ent.c2 ?_))
          refine Ent.loop (α := Nat) (fun j => [(0, .int .i64 (1 + m)), (1, .slice (some p) len cap), (5, ptrV c), (7, .slice (some ⟨bt, 0, none⟩) 16 16), (8, .slice (some ⟨bd, 0, none⟩) 16 16), (9, .slice (some ⟨bp, 0, none⟩) 16 16), (10, .int .i64 i), (11, ptrV bc), (14, .slice ha A'.length hcap), (15, .int .i64 j)])
            (fun _ => own 1 (.slice ha A'.length hcap) A'.length (ints (numsOf A')) :: CA c (1 + m) A' :: cl bc [.int .i64 k, .int .i64 r, .int .i64 0, .int .u8 y] :: cl bt (tabS T') :: cl bd (tabB A') :: cl bp (tabI A') :: old W :: R)
            (fun j => j ≤ 16) (fun j => 16 - j) 0 (Nat.zero_le _) (by repeat (first | exact EnvSub.nil | refine EnvSub.cons rfl ?_)) (fun _ h => h) (fun j hj => ?_)
          (repeat (first | refine EntL.qq ?_ | (apply Ent.seq) | (apply Ent.region) | (apply EntL.nil) | (apply EntX.then_normal) | refine EntL.uu ?_ | (refine EntL.nn (fun _ _ => ?_)) | (apply Ent.block) | (apply Ent.exit) | (apply Ent.ret) | (apply Ent.skip) | (apply EntX.then_ret) | (apply EntX.block_ret) | (apply EntX.then_exit) | (apply EntX.block_exit; exact rfl) | (apply EntX.block_exit_other; exact rfl) | (apply EntX.block_normal) | refine EntL.g1 ?_ | refine EntL.g2 ?_ | refine EntL.g3 ?_ | refine Ent.c1 ?_ | refine Ent.c2 ?_))
          (first | (refine Ent.ifD rfl (fun h => ?_) (fun h => ?_) <;> (try (exfalso; omega))) | (refine Ent.ifN rfl (fun h => ?_) (fun h => ?_) <;> (try (exfalso; omega))) | refine Ent.cond rfl (fun h => ?_) (fun h => ?_))
          · have hj' : j < 16 := by omega
            have hnl : (numsOf A').length = A'.length := by simp [numsOf]
            obtain ⟨q, hq⟩ : ∃ q, pinsN A' j = q := ⟨_, rfl⟩
            have hqr := pinsN_ge hJ' (j : Int)
            rw [hq] at hqr
            have bq0 : decide (q < 0) = false := by simp; omega
            have hasT : (j : Int) ∈ numsOf A' → Ctr Try.prog 22 [.slice ha A'.length hcap, .int .i64 j] (fun R => own 1 (.slice ha A'.length hcap) A'.length (ints (numsOf A')) :: R) (fun _ : Unit => True) (fun _ => .bool true) (fun _ R => own 1 (.slice ha A'.length hcap) A'.length (ints (numsOf A')) :: R) := fun hin => by
              have := has_spec (.slice ha A'.length hcap) (numsOf A') j (by omega)
              rw [hnl, decide_eq_true hin] at this
              exact this
            have hdl := dirtyOf_len A'
            have hasD0 : ∀ dd, dirtyN A' j = dd → ∀ va vc, Ctr Try.prog 22 [.slice va (dirtyOf A').length vc, .int .i64 j] (fun R => own 1 (.slice va (dirtyOf A').length vc) (dirtyOf A').length (ints (dirtyOf A')) :: R) (fun _ : Unit => True) (fun _ => .bool dd) (fun _ R => own 1 (.slice va (dirtyOf A').length vc) (dirtyOf A').length (ints (dirtyOf A')) :: R) := fun dd hdd va vc => by
              have := has_spec (.slice va (dirtyOf A').length vc) (dirtyOf A') j (by omega)
              rw [show decide ((j : Int) ∈ dirtyOf A') = dd by rw [← hdd, Bool.eq_iff_iff, decide_eq_true_iff]; exact dirty_iff hJ'.nodup j] at this
              exact this
            cases hd : dirtyN A' j
            · have hasD := hasD0 false hd
              by_cases hq0 : 0 < q
              · have bq1 : decide (0 < q) = true := by simpa using hq0
                have hasH := hasT (dirty_held (.inr (by rw [hq]; exact hq0)))
                (repeat (first | refine EntL.qq ?_ | (apply Ent.seq) | (apply Ent.region) | (apply EntL.nil) | (apply EntX.then_normal) | refine EntL.uu ?_ | (refine EntL.nn (fun _ _ => ?_)) | (apply Ent.block) | (apply Ent.exit) | (apply Ent.ret) | (apply Ent.skip) | (apply EntX.then_ret) | (apply EntX.block_ret) | (apply EntX.then_exit) | (apply EntX.block_exit; exact rfl) | (apply EntX.block_exit_other; exact rfl) | (apply EntX.block_normal) | refine EntL.g1 ?_ | refine EntL.g2 ?_ | refine EntL.g3 ?_ | refine Ent.c1 ?_ | refine Ent.c2 ?_))
                refine Ent.draw 35 [cl bd (tabB A'), cl bp (tabI A')] mixed ?_
                ((first | refine EntD.qa 0 ?_ | refine EntD.pa 0 ?_); (first | refine EntD.qa 1 ?_ | refine EntD.pa 1 ?_); (first | refine EntD.qa 2 ?_ | refine EntD.pa 2 ?_))
                refine EntD.qa 3 (v := .bool false) ?_ (h := OpQ.load rfl inferInstance (by rw [← hd]; first | exact tabB_get hj' | (rw [Nat.zero_add]; exact tabB_get hj')))
                ((first | refine EntD.qa 4 ?_ | refine EntD.pa 4 ?_); (first | refine EntD.qa 5 ?_ | refine EntD.pa 5 ?_); (first | refine EntD.qa 6 ?_ | refine EntD.pa 6 ?_); (first | refine EntD.qa 7 ?_ | refine EntD.pa 7 ?_))
                refine EntD.qa 8 (v := .int .i64 q) ?_ (h := OpQ.load rfl inferInstance (by rw [← hq]; first | exact tabI_get hj' | (rw [Nat.zero_add]; exact tabI_get hj')))
                ((first | refine EntD.qa 9 ?_ | refine EntD.pa 9 ?_); (first | refine EntD.qa 10 ?_ | refine EntD.pa 10 ?_); (first | refine EntD.qa 11 ?_ | refine EntD.pa 11 ?_); (first | refine EntD.qa 12 ?_ | refine EntD.pa 12 ?_); (first | refine EntD.qa 13 ?_ | refine EntD.pa 13 ?_))
                refine EntD.one 14 (by decide +kernel) rfl (EntO.call (want_yes rfl rfl rfl (by (first | with_reducible assumption | exact rfl | assumption))) rfl hasH (by (repeat (first | exact Vals.nil | (apply Vals.cons; exact rfl)))) (by (repeat (first | exact Fits.rfl | exact Fits.nil | exact Sel.here | apply Sel.there | apply Fits.cons | apply Fits.drop))) (fun _ _ => .inr (by exact Fits.keep (by (repeat (first | exact Fits.rfl | exact Fits.nil | exact Sel.here | apply Sel.there | apply Fits.cons | apply Fits.drop))))) ?_)
                rintro _ -
                ((first | refine EntD.qa 15 ?_ | refine EntD.pa 15 ?_); (first | refine EntD.qa 16 ?_ | refine EntD.pa 16 ?_); (first | refine EntD.qa 17 ?_ | refine EntD.pa 17 ?_); (first | refine EntD.qa 18 ?_ | refine EntD.pa 18 ?_); (first | refine EntD.qa 19 ?_ | refine EntD.pa 19 ?_); (first | refine EntD.qa 20 ?_ | refine EntD.pa 20 ?_))
                refine EntD.qa 21 (v := .bool false) ?_ (h := OpQ.load rfl inferInstance (by rw [← hd]; first | exact tabB_get hj' | (rw [Nat.zero_add]; exact tabB_get hj')))
                (first | refine EntD.qa 22 ?_ | refine EntD.pa 22 ?_)
                (first | refine EntD.qa 24 ?_ | refine EntD.pa 24 ?_)
                refine EntD.one 23 (by decide +kernel) rfl (EntO.call (want_yes rfl rfl rfl (by exact rfl)) rfl (dirty_spec hsort c (1 + m) A' hlA') (by (repeat (first | exact Vals.nil | (apply Vals.cons; exact rfl)))) (by (repeat (first | exact Fits.rfl | exact Fits.nil | exact Sel.here | apply Sel.there | apply Fits.cons | apply Fits.drop))) (fun _ _ => .inr (by exact Fits.keep (by (repeat (first | exact Fits.rfl | exact Fits.nil | exact Sel.here | apply Sel.there | apply Fits.cons | apply Fits.drop))))) ?_)
                rintro _ ⟨dva, dvc, rfl⟩
                refine EntD.one 25 (by decide +kernel) rfl (EntO.call (want_yes rfl rfl rfl (by exact rfl)) rfl (hasD dva dvc) (by (repeat (first | exact Vals.nil | (apply Vals.cons; exact rfl)))) (by (repeat (first | exact Fits.rfl | exact Fits.nil | exact Sel.here | apply Sel.there | apply Fits.cons | apply Fits.drop))) (fun _ _ => .inr (by exact Fits.keep (by (repeat (first | exact Fits.rfl | exact Fits.nil | exact Sel.here | apply Sel.there | apply Fits.cons | apply Fits.drop))))) ?_)
                rintro _ -
                ((first | refine EntD.qa 26 ?_ | refine EntD.pa 26 ?_); (first | refine EntD.qa 27 ?_ | refine EntD.pa 27 ?_); (first | refine EntD.qa 28 ?_ | refine EntD.pa 28 ?_); (first | refine EntD.qa 29 ?_ | refine EntD.pa 29 ?_); (first | refine EntD.qa 30 ?_ | refine EntD.pa 30 ?_); (first | refine EntD.qa 31 ?_ | refine EntD.pa 31 ?_))
                refine EntD.qa 32 (v := .int .i64 q) ?_ (h := OpQ.load rfl inferInstance (by rw [← hq]; first | exact tabI_get hj' | (rw [Nat.zero_add]; exact tabI_get hj')))
                ((first | refine EntD.qa 33 ?_ | refine EntD.pa 33 ?_); (first | refine EntD.qa 34 ?_ | refine EntD.pa 34 ?_))
                (apply EntD.done; decide +kernel)
                (repeat (first | refine EntL.qq ?_ | (apply Ent.seq) | (apply Ent.region) | (apply EntL.nil) | (apply EntX.then_normal) | refine EntL.uu ?_ | (refine EntL.nn (fun _ _ => ?_)) | (apply Ent.block) | (apply Ent.exit) | (apply Ent.ret) | (apply Ent.skip) | (apply EntX.then_ret) | (apply EntX.block_ret) | (apply EntX.then_exit) | (apply EntX.block_exit; exact rfl) | (apply EntX.block_exit_other; exact rfl) | (apply EntX.block_normal) | refine EntL.g1 ?_ | refine EntL.g2 ?_ | refine EntL.g3 ?_ | refine Ent.c1 ?_ | refine Ent.c2 ?_))
                exact EntX.round_end (j + 1) (by omega) (by omega) (by repeat (first | exact EnvSub.nil | refine EnvSub.cons rfl ?_)) (by exact Fits.keep (by (repeat (first | exact Fits.rfl | exact Fits.nil | exact Sel.here | apply Sel.there | apply Fits.cons | apply Fits.drop))))
              · have bq1 : decide (0 < q) = false := by simpa using hq0
                (repeat (first | refine EntL.qq ?_ | (apply Ent.seq) | (apply Ent.region) | (apply EntL.nil) | (apply EntX.then_normal) | refine EntL.uu ?_ | (refine EntL.nn (fun _ _ => ?_)) | (apply Ent.block) | (apply Ent.exit) | (apply Ent.ret) | (apply Ent.skip) | (apply EntX.then_ret) | (apply EntX.block_ret) | (apply EntX.then_exit) | (apply EntX.block_exit; exact rfl) | (apply EntX.block_exit_other; exact rfl) | (apply EntX.block_normal) | refine EntL.g1 ?_ | refine EntL.g2 ?_ | refine EntL.g3 ?_ | refine Ent.c1 ?_ | refine Ent.c2 ?_))
                refine Ent.draw 35 [cl bd (tabB A'), cl bp (tabI A')] mixed ?_
                ((first | refine EntD.qa 0 ?_ | refine EntD.pa 0 ?_); (first | refine EntD.qa 1 ?_ | refine EntD.pa 1 ?_); (first | refine EntD.qa 2 ?_ | refine EntD.pa 2 ?_))
                refine EntD.qa 3 (v := .bool false) ?_ (h := OpQ.load rfl inferInstance (by rw [← hd]; first | exact tabB_get hj' | (rw [Nat.zero_add]; exact tabB_get hj')))
                ((first | refine EntD.qa 4 ?_ | refine EntD.pa 4 ?_); (first | refine EntD.qa 5 ?_ | refine EntD.pa 5 ?_); (first | refine EntD.qa 6 ?_ | refine EntD.pa 6 ?_); (first | refine EntD.qa 7 ?_ | refine EntD.pa 7 ?_))
                refine EntD.qa 8 (v := .int .i64 q) ?_ (h := OpQ.load rfl inferInstance (by rw [← hq]; first | exact tabI_get hj' | (rw [Nat.zero_add]; exact tabI_get hj')))
                ((first | refine EntD.qa 9 ?_ | refine EntD.pa 9 ?_); (first | refine EntD.qa 10 ?_ | refine EntD.pa 10 ?_); (first | refine EntD.qa 11 ?_ | refine EntD.pa 11 ?_); (first | refine EntD.qa 12 ?_ | refine EntD.pa 12 ?_); (first | refine EntD.qa 13 ?_ | refine EntD.pa 13 ?_); (first | refine EntD.qa 14 ?_ | refine EntD.pa 14 ?_); (first | refine EntD.qa 15 ?_ | refine EntD.pa 15 ?_); (first | refine EntD.qa 16 ?_ | refine EntD.pa 16 ?_); (first | refine EntD.qa 17 ?_ | refine EntD.pa 17 ?_); (first | refine EntD.qa 18 ?_ | refine EntD.pa 18 ?_); (first | refine EntD.qa 19 ?_ | refine EntD.pa 19 ?_); (first | refine EntD.qa 20 ?_ | refine EntD.pa 20 ?_))
                refine EntD.qa 21 (v := .bool false) ?_ (h := OpQ.load rfl inferInstance (by rw [← hd]; first | exact tabB_get hj' | (rw [Nat.zero_add]; exact tabB_get hj')))
                (first | refine EntD.qa 22 ?_ | refine EntD.pa 22 ?_)
                (first | refine EntD.qa 24 ?_ | refine EntD.pa 24 ?_)
                refine EntD.one 23 (by decide +kernel) rfl (EntO.call (want_yes rfl rfl rfl (by exact rfl)) rfl (dirty_spec hsort c (1 + m) A' hlA') (by (repeat (first | exact Vals.nil | (apply Vals.cons; exact rfl)))) (by (repeat (first | exact Fits.rfl | exact Fits.nil | exact Sel.here | apply Sel.there | apply Fits.cons | apply Fits.drop))) (fun _ _ => .inr (by exact Fits.keep (by (repeat (first | exact Fits.rfl | exact Fits.nil | exact Sel.here | apply Sel.there | apply Fits.cons | apply Fits.drop))))) ?_)
                rintro _ ⟨dva, dvc, rfl⟩
                refine EntD.one 25 (by decide +kernel) rfl (EntO.call (want_yes rfl rfl rfl (by exact rfl)) rfl (hasD dva dvc) (by (repeat (first | exact Vals.nil | (apply Vals.cons; exact rfl)))) (by (repeat (first | exact Fits.rfl | exact Fits.nil | exact Sel.here | apply Sel.there | apply Fits.cons | apply Fits.drop))) (fun _ _ => .inr (by exact Fits.keep (by (repeat (first | exact Fits.rfl | exact Fits.nil | exact Sel.here | apply Sel.there | apply Fits.cons | apply Fits.drop))))) ?_)
                rintro _ -
                ((first | refine EntD.qa 26 ?_ | refine EntD.pa 26 ?_); (first | refine EntD.qa 27 ?_ | refine EntD.pa 27 ?_); (first | refine EntD.qa 28 ?_ | refine EntD.pa 28 ?_); (first | refine EntD.qa 29 ?_ | refine EntD.pa 29 ?_); (first | refine EntD.qa 30 ?_ | refine EntD.pa 30 ?_); (first | refine EntD.qa 31 ?_ | refine EntD.pa 31 ?_))
                refine EntD.qa 32 (v := .int .i64 q) ?_ (h := OpQ.load rfl inferInstance (by rw [← hq]; first | exact tabI_get hj' | (rw [Nat.zero_add]; exact tabI_get hj')))
                ((first | refine EntD.qa 33 ?_ | refine EntD.pa 33 ?_); (first | refine EntD.qa 34 ?_ | refine EntD.pa 34 ?_))
                (apply EntD.done; decide +kernel)
                (repeat (first | refine EntL.qq ?_ | (apply Ent.seq) | (apply Ent.region) | (apply EntL.nil) | (apply EntX.then_normal) | refine EntL.uu ?_ | (refine EntL.nn (fun _ _ => ?_)) | (apply Ent.block) | (apply Ent.exit) | (apply Ent.ret) | (apply Ent.skip) | (apply EntX.then_ret) | (apply EntX.block_ret) | (apply EntX.then_exit) | (apply EntX.block_exit; exact rfl) | (apply EntX.block_exit_other; exact rfl) | (apply EntX.block_normal) | refine EntL.g1 ?_ | refine EntL.g2 ?_ | refine EntL.g3 ?_ | refine Ent.c1 ?_ | refine Ent.c2 ?_))
                exact EntX.round_end (j + 1) (by omega) (by omega) (by repeat (first | exact EnvSub.nil | refine EnvSub.cons rfl ?_)) (by exact Fits.keep (by (repeat (first | exact Fits.rfl | exact Fits.nil | exact Sel.here | apply Sel.there | apply Fits.cons | apply Fits.drop))))
            · have hasD := hasD0 true hd
              have hasH := hasT (dirty_held (.inl hd))
              (repeat (first | refine EntL.qq ?_ | (apply Ent.seq) | (apply Ent.region) | (apply EntL.nil) | (apply EntX.then_normal) | refine EntL.uu ?_ | (refine EntL.nn (fun _ _ => ?_)) | (apply Ent.block) | (apply Ent.exit) | (apply Ent.ret) | (apply Ent.skip) | (apply EntX.then_ret) | (apply EntX.block_ret) | (apply EntX.then_exit) | (apply EntX.block_exit; exact rfl) | (apply EntX.block_exit_other; exact rfl) | (apply EntX.block_normal) | refine EntL.g1 ?_ | refine EntL.g2 ?_ | refine EntL.g3 ?_ | refine Ent.c1 ?_ | refine Ent.c2 ?_))
              refine Ent.draw 35 [cl bd (tabB A'), cl bp (tabI A')] mixed ?_
              ((first | refine EntD.qa 0 ?_ | refine EntD.pa 0 ?_); (first | refine EntD.qa 1 ?_ | refine EntD.pa 1 ?_); (first | refine EntD.qa 2 ?_ | refine EntD.pa 2 ?_))
              refine EntD.qa 3 (v := .bool true) ?_ (h := OpQ.load rfl inferInstance (by rw [← hd]; first | exact tabB_get hj' | (rw [Nat.zero_add]; exact tabB_get hj')))
              ((first | refine EntD.qa 4 ?_ | refine EntD.pa 4 ?_); (first | refine EntD.qa 5 ?_ | refine EntD.pa 5 ?_); (first | refine EntD.qa 6 ?_ | refine EntD.pa 6 ?_); (first | refine EntD.qa 7 ?_ | refine EntD.pa 7 ?_); (first | refine EntD.qa 8 ?_ | refine EntD.pa 8 ?_); (first | refine EntD.qa 9 ?_ | refine EntD.pa 9 ?_); (first | refine EntD.qa 10 ?_ | refine EntD.pa 10 ?_); (first | refine EntD.qa 11 ?_ | refine EntD.pa 11 ?_); (first | refine EntD.qa 12 ?_ | refine EntD.pa 12 ?_); (first | refine EntD.qa 13 ?_ | refine EntD.pa 13 ?_))
              refine EntD.one 14 (by decide +kernel) rfl (EntO.call (want_yes rfl rfl rfl (by exact rfl)) rfl hasH (by (repeat (first | exact Vals.nil | (apply Vals.cons; exact rfl)))) (by (repeat (first | exact Fits.rfl | exact Fits.nil | exact Sel.here | apply Sel.there | apply Fits.cons | apply Fits.drop))) (fun _ _ => .inr (by exact Fits.keep (by (repeat (first | exact Fits.rfl | exact Fits.nil | exact Sel.here | apply Sel.there | apply Fits.cons | apply Fits.drop))))) ?_)
              rintro _ -
              ((first | refine EntD.qa 15 ?_ | refine EntD.pa 15 ?_); (first | refine EntD.qa 16 ?_ | refine EntD.pa 16 ?_); (first | refine EntD.qa 17 ?_ | refine EntD.pa 17 ?_); (first | refine EntD.qa 18 ?_ | refine EntD.pa 18 ?_); (first | refine EntD.qa 19 ?_ | refine EntD.pa 19 ?_); (first | refine EntD.qa 20 ?_ | refine EntD.pa 20 ?_))
              refine EntD.qa 21 (v := .bool true) ?_ (h := OpQ.load rfl inferInstance (by rw [← hd]; first | exact tabB_get hj' | (rw [Nat.zero_add]; exact tabB_get hj')))
              (first | refine EntD.qa 22 ?_ | refine EntD.pa 22 ?_)
              (first | refine EntD.qa 24 ?_ | refine EntD.pa 24 ?_)
              refine EntD.one 23 (by decide +kernel) rfl (EntO.call (want_yes rfl rfl rfl (by exact rfl)) rfl (dirty_spec hsort c (1 + m) A' hlA') (by (repeat (first | exact Vals.nil | (apply Vals.cons; exact rfl)))) (by (repeat (first | exact Fits.rfl | exact Fits.nil | exact Sel.here | apply Sel.there | apply Fits.cons | apply Fits.drop))) (fun _ _ => .inr (by exact Fits.keep (by (repeat (first | exact Fits.rfl | exact Fits.nil | exact Sel.here | apply Sel.there | apply Fits.cons | apply Fits.drop))))) ?_)
              rintro _ ⟨dva, dvc, rfl⟩
              refine EntD.one 25 (by decide +kernel) rfl (EntO.call (want_yes rfl rfl rfl (by exact rfl)) rfl (hasD dva dvc) (by (repeat (first | exact Vals.nil | (apply Vals.cons; exact rfl)))) (by (repeat (first | exact Fits.rfl | exact Fits.nil | exact Sel.here | apply Sel.there | apply Fits.cons | apply Fits.drop))) (fun _ _ => .inr (by exact Fits.keep (by (repeat (first | exact Fits.rfl | exact Fits.nil | exact Sel.here | apply Sel.there | apply Fits.cons | apply Fits.drop))))) ?_)
              rintro _ -
              ((first | refine EntD.qa 26 ?_ | refine EntD.pa 26 ?_); (first | refine EntD.qa 27 ?_ | refine EntD.pa 27 ?_); (first | refine EntD.qa 28 ?_ | refine EntD.pa 28 ?_); (first | refine EntD.qa 29 ?_ | refine EntD.pa 29 ?_); (first | refine EntD.qa 30 ?_ | refine EntD.pa 30 ?_); (first | refine EntD.qa 31 ?_ | refine EntD.pa 31 ?_))
              refine EntD.qa 32 (v := .int .i64 q) ?_ (h := OpQ.load rfl inferInstance (by rw [← hq]; first | exact tabI_get hj' | (rw [Nat.zero_add]; exact tabI_get hj')))
              ((first | refine EntD.qa 33 ?_ | refine EntD.pa 33 ?_); (first | refine EntD.qa 34 ?_ | refine EntD.pa 34 ?_))
              (apply EntD.done; decide +kernel)
              (repeat (first | refine EntL.qq ?_ | (apply Ent.seq) | (apply Ent.region) | (apply EntL.nil) | (apply EntX.then_normal) | refine EntL.uu ?_ | (refine EntL.nn (fun _ _ => ?_)) | (apply Ent.block) | (apply Ent.exit) | (apply Ent.ret) | (apply Ent.skip) | (apply EntX.then_ret) | (apply EntX.block_ret) | (apply EntX.then_exit) | (apply EntX.block_exit; exact rfl) | (apply EntX.block_exit_other; exact rfl) | (apply EntX.block_normal) | refine EntL.g1 ?_ | refine EntL.g2 ?_ | refine EntL.g3 ?_ | refine Ent.c1 ?_ | refine Ent.c2 ?_))
              exact EntX.round_end (j + 1) (by omega) (by omega) (by repeat (first | exact EnvSub.nil | refine EnvSub.cons rfl ?_)) (by exact Fits.keep (by (repeat (first | exact Fits.rfl | exact Fits.nil | exact Sel.here | apply Sel.there | apply Fits.cons | apply Fits.drop))))
          · (repeat (first | refine EntL.qq ?_ | (apply Ent.seq) | (apply Ent.region) | (apply EntL.nil) | (apply EntX.then_normal) | refine EntL.uu ?_ | (refine EntL.nn (fun _ _ => ?_)) | (apply Ent.block) | (apply Ent.exit) | (apply Ent.ret) | (apply Ent.skip) | (apply EntX.then_ret) | (apply EntX.block_ret) | (apply EntX.then_exit) | (apply EntX.block_exit; exact rfl) | (apply EntX.block_exit_other; exact rfl) | (apply EntX.block_normal) | refine EntL.g1 ?_ | refine EntL.g2 ?_ | refine EntL.g3 ?_ | refine Ent.c1 ?_ | refine Ent.c2 ?_))
            exact EntX.cut_end () (by repeat (first | exact EnvSub.nil | refine EnvSub.cons rfl ?_)) (by exact Fits.keep (by (repeat (first | exact Fits.rfl | exact Fits.nil | exact Sel.here | apply Sel.there | apply Fits.cons | apply Fits.drop))))
        · -- Get, and what it gave
          have hgk := get_keeps (b := (r : Int)) hJ'
          have hasS := has_spec (.slice ha A'.length hcap) (numsOf A') r (by simp [numsOf]; omega)
          rw [show (numsOf A').length = A'.length by simp [numsOf]] at hasS
          rcases hit_or (r : Int) A' with hm | ⟨A1, a, A2, rfl, hab, hA1⟩
          · have hno : ¬ (r : Int) ∈ numsOf A' := by rw [held_iff, atN_miss hm]; simp
            rw [decide_eq_false hno] at hasS
            (repeat (first | refine EntL.qq ?_ | (apply Ent.seq) | (apply Ent.region) | (apply EntL.nil) | (apply EntX.then_normal) | refine EntL.uu ?_ | (refine EntL.nn (fun _ _ => ?_)) | (apply Ent.block) | (apply Ent.exit) | (apply Ent.ret) | (apply Ent.skip) | (apply EntX.then_ret) | (apply EntX.block_ret) | (apply EntX.then_exit) | (apply EntX.block_exit; exact rfl) | (apply EntX.block_exit_other; exact rfl) | (apply EntX.block_normal) | refine EntL.g1 ?_ | refine EntL.g2 ?_ | refine EntL.g3 ?_ | refine Ent.c1 ?_ | refine Ent.c2 ?_))
            refine EntL.call (get_miss c (1 + m) r A' hm) rfl (by (repeat (first | exact Fits.rfl | exact Fits.nil | exact Sel.here | apply Sel.there | apply Fits.cons | apply Fits.drop))) rfl ?_
            rintro _ -
            (repeat (first | refine EntL.qq ?_ | (apply Ent.seq) | (apply Ent.region) | (apply EntL.nil) | (apply EntX.then_normal) | refine EntL.uu ?_ | (refine EntL.nn (fun _ _ => ?_)) | (apply Ent.block) | (apply Ent.exit) | (apply Ent.ret) | (apply Ent.skip) | (apply EntX.then_ret) | (apply EntX.block_ret) | (apply EntX.then_exit) | (apply EntX.block_exit; exact rfl) | (apply EntX.block_exit_other; exact rfl) | (apply EntX.block_normal) | refine EntL.g1 ?_ | refine EntL.g2 ?_ | refine EntL.g3 ?_ | refine Ent.c1 ?_ | refine Ent.c2 ?_))
            refine Ent.draw 21 [cl bc [.int .i64 k, .int .i64 r, .int .i64 0, .int .u8 y]] mixed ?_
            ((first | refine EntD.qa 0 ?_ | refine EntD.pa 0 ?_); (first | refine EntD.qa 1 ?_ | refine EntD.pa 1 ?_); (first | refine EntD.qa 2 ?_ | refine EntD.pa 2 ?_); (first | refine EntD.qa 3 ?_ | refine EntD.pa 3 ?_); (first | refine EntD.qa 4 ?_ | refine EntD.pa 4 ?_))
            refine EntD.one 5 (by decide +kernel) rfl (EntO.call (want_none rfl) rfl hasS (by (repeat (first | exact Vals.nil | (apply Vals.cons; exact rfl)))) (by (repeat (first | exact Fits.rfl | exact Fits.nil | exact Sel.here | apply Sel.there | apply Fits.cons | apply Fits.drop))) (fun _ _ => .inr (by exact Fits.keep (by (repeat (first | exact Fits.rfl | exact Fits.nil | exact Sel.here | apply Sel.there | apply Fits.cons | apply Fits.drop))))) ?_)
            rintro _ -
            ((first | refine EntD.qa 6 ?_ | refine EntD.pa 6 ?_); (first | refine EntD.qa 7 ?_ | refine EntD.pa 7 ?_); (first | refine EntD.qa 8 ?_ | refine EntD.pa 8 ?_); (first | refine EntD.qa 9 ?_ | refine EntD.pa 9 ?_); (first | refine EntD.qa 10 ?_ | refine EntD.pa 10 ?_); (first | refine EntD.qa 11 ?_ | refine EntD.pa 11 ?_); (first | refine EntD.qa 12 ?_ | refine EntD.pa 12 ?_); (first | refine EntD.qa 13 ?_ | refine EntD.pa 13 ?_); (first | refine EntD.qa 14 ?_ | refine EntD.pa 14 ?_); (first | refine EntD.qa 15 ?_ | refine EntD.pa 15 ?_); (first | refine EntD.qa 16 ?_ | refine EntD.pa 16 ?_); (first | refine EntD.qa 17 ?_ | refine EntD.pa 17 ?_); (first | refine EntD.qa 18 ?_ | refine EntD.pa 18 ?_); (first | refine EntD.qa 19 ?_ | refine EntD.pa 19 ?_); (first | refine EntD.qa 20 ?_ | refine EntD.pa 20 ?_))
            (apply EntD.done; decide +kernel)
            (repeat (first | refine EntL.qq ?_ | (apply Ent.seq) | (apply Ent.region) | (apply EntL.nil) | (apply EntX.then_normal) | refine EntL.uu ?_ | (refine EntL.nn (fun _ _ => ?_)) | (apply Ent.block) | (apply Ent.exit) | (apply Ent.ret) | (apply Ent.skip) | (apply EntX.then_ret) | (apply EntX.block_ret) | (apply EntX.then_exit) | (apply EntX.block_exit; exact rfl) | (apply EntX.block_exit_other; exact rfl) | (apply EntX.block_normal) | refine EntL.g1 ?_ | refine EntL.g2 ?_ | refine EntL.g3 ?_ | refine Ent.c1 ?_ | refine Ent.c2 ?_))
            exact EntX.round_end (i + 1, A', T') ⟨by simp only; omega, hJ'⟩ (by simp only; omega) (by repeat (first | exact EnvSub.nil | refine EnvSub.cons rfl ?_)) (by exact Fits.keep (by (repeat (first | exact Fits.rfl | exact Fits.nil | exact Sel.here | apply Sel.there | apply Fits.cons | apply Fits.drop))))
          · have hyes : (r : Int) ∈ numsOf (A1 ++ a :: A2) := by rw [held_iff, atN_hit hab hA1]; rfl
            rw [decide_eq_true hyes] at hasS
            have hat := hJ'.data a (by simp)
            have h512 := hJ'.len a (by simp)
            rw [show getA (r : Int) (A1 ++ a :: A2) = A1 ++ A2 ++ [a] by simp only [getA, atN_hit hab hA1, rest_hit hab hA1]] at hgk
            have hgh := get_hit c (1 + m) A1 A2 a (by omega) (by omega)
            rw [hab] at hgh
            rw [hab] at hat
            have bs : (!decide (a.d = T' r)) = false := by simp [hat]
            (repeat (first | refine EntL.qq ?_ | (apply Ent.seq) | (apply Ent.region) | (apply EntL.nil) | (apply EntX.then_normal) | refine EntL.uu ?_ | (refine EntL.nn (fun _ _ => ?_)) | (apply Ent.block) | (apply Ent.exit) | (apply Ent.ret) | (apply Ent.skip) | (apply EntX.then_ret) | (apply EntX.block_ret) | (apply EntX.then_exit) | (apply EntX.block_exit; exact rfl) | (apply EntX.block_exit_other; exact rfl) | (apply EntX.block_normal) | refine EntL.g1 ?_ | refine EntL.g2 ?_ | refine EntL.g3 ?_ | refine Ent.c1 ?_ | refine Ent.c2 ?_))
            refine EntL.call hgh rfl (by (repeat (first | exact Fits.rfl | exact Fits.nil | exact Sel.here | apply Sel.there | apply Fits.cons | apply Fits.drop))) rfl ?_
            rintro _ ⟨gva, gvc, rfl⟩
            (repeat (first | refine EntL.qq ?_ | (apply Ent.seq) | (apply Ent.region) | (apply EntL.nil) | (apply EntX.then_normal) | refine EntL.uu ?_ | (refine EntL.nn (fun _ _ => ?_)) | (apply Ent.block) | (apply Ent.exit) | (apply Ent.ret) | (apply Ent.skip) | (apply EntX.then_ret) | (apply EntX.block_ret) | (apply EntX.then_exit) | (apply EntX.block_exit; exact rfl) | (apply EntX.block_exit_other; exact rfl) | (apply EntX.block_normal) | refine EntL.g1 ?_ | refine EntL.g2 ?_ | refine EntL.g3 ?_ | refine Ent.c1 ?_ | refine Ent.c2 ?_))
            refine Ent.draw 21 [own 1 (.slice gva a.d.length gvc) a.d.length (bv a.d), cl bt (tabS T'), cl bc [.int .i64 k, .int .i64 r, .int .i64 0, .int .u8 y]] mixed ?_
            ((first | refine EntD.qa 0 ?_ | refine EntD.pa 0 ?_); (first | refine EntD.qa 1 ?_ | refine EntD.pa 1 ?_); (first | refine EntD.qa 2 ?_ | refine EntD.pa 2 ?_); (first | refine EntD.qa 3 ?_ | refine EntD.pa 3 ?_); (first | refine EntD.qa 4 ?_ | refine EntD.pa 4 ?_))
            refine EntD.one 5 (by decide +kernel) rfl (EntO.call (want_none rfl) rfl hasS (by (repeat (first | exact Vals.nil | (apply Vals.cons; exact rfl)))) (by (repeat (first | exact Fits.rfl | exact Fits.nil | exact Sel.here | apply Sel.there | apply Fits.cons | apply Fits.drop))) (fun _ _ => .inr (by exact Fits.keep (by (repeat (first | exact Fits.rfl | exact Fits.nil | exact Sel.here | apply Sel.there | apply Fits.cons | apply Fits.drop))))) ?_)
            rintro _ -
            ((first | refine EntD.qa 6 ?_ | refine EntD.pa 6 ?_); (first | refine EntD.qa 7 ?_ | refine EntD.pa 7 ?_); (first | refine EntD.qa 8 ?_ | refine EntD.pa 8 ?_); (first | refine EntD.qa 9 ?_ | refine EntD.pa 9 ?_); (first | refine EntD.qa 10 ?_ | refine EntD.pa 10 ?_); (first | refine EntD.qa 11 ?_ | refine EntD.pa 11 ?_))
            refine EntD.qa 12 ?_ (h := OpQ.toStr rfl inferInstance inferInstance Try.underlying9 (reads_own (by (repeat (first | exact Sel.here | apply Sel.there)))))
            ((first | refine EntD.qa 13 ?_ | refine EntD.pa 13 ?_); (first | refine EntD.qa 14 ?_ | refine EntD.pa 14 ?_); (first | refine EntD.qa 15 ?_ | refine EntD.pa 15 ?_); (first | refine EntD.qa 16 ?_ | refine EntD.pa 16 ?_))
            refine EntD.qa 17 (v := sv (T' r)) ?_ (h := OpQ.load rfl inferInstance (by first | exact tabS_get (by omega) | (rw [Nat.zero_add]; exact tabS_get (by omega))))
            ((first | refine EntD.qa 18 ?_ | refine EntD.pa 18 ?_); (first | refine EntD.qa 19 ?_ | refine EntD.pa 19 ?_); (first | refine EntD.qa 20 ?_ | refine EntD.pa 20 ?_))
            (apply EntD.done; decide +kernel)
            (repeat (first | refine EntL.qq ?_ | (apply Ent.seq) | (apply Ent.region) | (apply EntL.nil) | (apply EntX.then_normal) | refine EntL.uu ?_ | (refine EntL.nn (fun _ _ => ?_)) | (apply Ent.block) | (apply Ent.exit) | (apply Ent.ret) | (apply Ent.skip) | (apply EntX.then_ret) | (apply EntX.block_ret) | (apply EntX.then_exit) | (apply EntX.block_exit; exact rfl) | (apply EntX.block_exit_other; exact rfl) | (apply EntX.block_normal) | refine EntL.g1 ?_ | refine EntL.g2 ?_ | refine EntL.g3 ?_ | refine Ent.c1 ?_ | refine Ent.c2 ?_))
            refine EntX.round_end (i + 1, A1 ++ A2 ++ [a], T') ⟨by simp only; omega, hgk.1⟩ (by simp only; omega) (by repeat (first | exact EnvSub.nil | refine EnvSub.cons rfl ?_)) ?_
            rw [← tabB_same (fun j => (hgk.2 j).1), ← tabI_same (fun j => (hgk.2 j).2)]
            exact Fits.keep (by (repeat (first | exact Fits.rfl | exact Fits.nil | exact Sel.here | apply Sel.there | apply Fits.cons | apply Fits.drop)))
    · have b1 : decide ((i : Int) < len) = true := by simpa using h1
      have b2 : decide ((i : Int) < 150) = false := by simp; omega
      (repeat (first | refine EntL.qq ?_ | (apply Ent.seq) | (apply Ent.region) | (apply EntL.nil) | (apply EntX.then_normal) | refine EntL.uu ?_ | (refine EntL.nn (fun _ _ => ?_)) | (apply Ent.block) | (apply Ent.exit) | (apply Ent.ret) | (apply Ent.skip) | (apply EntX.then_ret) | (apply EntX.block_ret) | (apply EntX.then_exit) | (apply EntX.block_exit; exact rfl) | (apply EntX.block_exit_other; exact rfl) | (apply EntX.block_normal) | refine EntL.g1 ?_ | refine EntL.g2 ?_ | refine EntL.g3 ?_ | refine Ent.c1 ?_ | refine Ent.c2 ?_))
      refine EntX.ret_of (res1 rfl rfl) () trivial rfl (by exact Fits.keep (by (repeat (first | exact Fits.rfl | exact Fits.nil | exact Sel.here | apply Sel.there | apply Fits.cons | apply Fits.drop))))
  · have b1 : decide ((i : Int) < len) = false := by simpa using h1
    (repeat (first | refine EntL.qq ?_ | (apply Ent.seq) | (apply Ent.region) | (apply EntL.nil) | (apply EntX.then_normal) | refine EntL.uu ?_ | (refine EntL.nn (fun _ _ => ?_)) | (apply Ent.block) | (apply Ent.exit) | (apply Ent.ret) | (apply Ent.skip) | (apply EntX.then_ret) | (apply EntX.block_ret) | (apply EntX.then_exit) | (apply EntX.block_exit; exact rfl) | (apply EntX.block_exit_other; exact rfl) | (apply EntX.block_normal) | refine EntL.g1 ?_ | refine EntL.g2 ?_ | refine EntL.g3 ?_ | refine Ent.c1 ?_ | refine Ent.c2 ?_))
    refine EntX.ret_of (res1 rfl rfl) () trivial rfl (by exact Fits.keep (by (repeat (first | exact Fits.rfl | exact Fits.nil | exact Sel.here | apply Sel.there | apply Fits.cons | apply Fits.drop))))
end Go.Proofs.Ythlbimdlpadhdaa
