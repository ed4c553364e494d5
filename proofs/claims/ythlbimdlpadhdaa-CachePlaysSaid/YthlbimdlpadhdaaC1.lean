/- The library functions that the cache calls over its row: by their contracts. -/
import Derived.Test.YthlbimdlpadhdaaSlWalk
import Derived.Test.YthlbimdlpadhdaaSlF
namespace Go.Proofs.Ythlbimdlpadhdaa
open Go Go.Sl

/-- a pointer to an entry -/
abbrev ptrV (p : Nat) : Value := .pointer (some ⟨p, 0, none⟩)
/-- where the first one stands that is asked for; how many there are, if there is none -/
def firstIx {α : Type} (pred : α → Bool) : List α → Nat
  | [] => 0
  | p :: l => if pred p then 0 else firstIx pred l + 1
theorem firstIx_le {α : Type} (pred : α → Bool) (l : List α) : firstIx pred l ≤ l.length := by
  induction l with
  | nil => simp [firstIx]
  | cons p l ih => simp only [firstIx]; split <;> simp; omega

theorem firstIx_get {α : Type} (pred : α → Bool) : ∀ (l : List α) (i : Nat), i ≤ firstIx pred l → ∀ h : i < l.length, (pred l[i] = true → firstIx pred l = i) ∧ (pred l[i] = false → i + 1 ≤ firstIx pred l)
  | [], _, _, h => by simp at h
  | p :: l, 0, _, _ => by cases h : pred p <;> simp [firstIx, h]
  | p :: l, i + 1, hi, h => by
    simp only [firstIx] at hi ⊢
    split at hi
    · omega
    · rename_i hp
      have := firstIx_get pred l i (by omega) (by simpa using h)
      simp only [hp, Bool.false_eq_true, if_false, List.getElem_cons_succ]
      exact ⟨fun h => by rw [this.1 h], fun h => by have := this.2 h; omega⟩

/-- what is asked of a function value: of each one of the row it tells 'pred', and leaves memory -/
def Asks (f : Nat) (caps : List Value) (A : HP) (l : List Nat) (pred : Nat → Bool) : Prop :=
  ∀ p ∈ l, Ctr Try.prog f ([ptrV p] ++ caps) (fun R => A :: R) (fun _ : Unit => True) (fun _ => .bool (pred p)) (fun _ R => A :: R)

theorem indexFunc_spec (f : Nat) [FnT Try.prog f] (caps : List Value) (A : HP) (v : Value) (l : List Nat) (pred : Nat → Bool) (hl : l.length ≤ 1000000) (ha : Asks f caps A l pred) :
    Ctr Try.prog 60 [v, .func (.func f) #[] caps.toArray] (fun R => own 1 v l.length (l.map ptrV) :: A :: R) (fun _ : Unit => True)
      (fun _ => .int .i64 (if firstIx pred l < l.length then firstIx pred l else -1)) (fun _ R => own 1 v l.length (l.map ptrV) :: A :: R) := by
  refine Ctr.of_ent Try.func60 rfl Try.ntmps60 rfl (fun σ R => ?_)
  refine Ent.own_len Sel.here (fun hv _ => ?_)
  obtain ⟨a, cap, rfl⟩ := hv
  (repeat (first | refine EntL.qq ?_ | (apply Ent.seq) | (apply Ent.region) | (apply EntL.nil) | (apply EntX.then_normal) | refine EntL.uu ?_ | (refine EntL.nn (fun _ _ => ?_)) | (apply Ent.block) | (apply Ent.exit) | (apply Ent.ret) | (apply Ent.skip) | (apply EntX.then_ret) | (apply EntX.block_ret) | (apply EntX.then_exit) | (apply EntX.block_exit; exact rfl) | (apply EntX.block_exit_other; exact rfl) | (apply EntX.block_normal) | refine EntL.g1 ?_ | refine EntL.g2 ?_ | refine EntL.g3 ?_ | refine Ent.c1 ?_ | refine Ent.c2 ?_))
  refine Ent.loop (α := Nat) (fun i => [(0, .slice a l.length cap), (1, .func (.func f) #[] caps.toArray), (7, .int .i64 l.length), (8, .int .i64 i)]) (fun _ => own 1 (.slice a l.length cap) l.length (l.map ptrV) :: A :: R)
    (fun i => i ≤ firstIx pred l) (fun i => l.length - i) 0 (Nat.zero_le _) (by repeat (first | exact EnvSub.nil | refine EnvSub.cons rfl ?_)) (fun _ h => h) (fun i hi => ?_)
  have hle := firstIx_le pred l
  (repeat (first | refine EntL.qq ?_ | (apply Ent.seq) | (apply Ent.region) | (apply EntL.nil) | (apply EntX.then_normal) | refine EntL.uu ?_ | (refine EntL.nn (fun _ _ => ?_)) | (apply Ent.block) | (apply Ent.exit) | (apply Ent.ret) | (apply Ent.skip) | (apply EntX.then_ret) | (apply EntX.block_ret) | (apply EntX.then_exit) | (apply EntX.block_exit; exact rfl) | (apply EntX.block_exit_other; exact rfl) | (apply EntX.block_normal) | refine EntL.g1 ?_ | refine EntL.g2 ?_ | refine EntL.g3 ?_ | refine Ent.c1 ?_ | refine Ent.c2 ?_))
  (first | (refine Ent.ifD rfl (fun h => ?_) (fun h => ?_) <;> (try (exfalso; omega))) | (refine Ent.ifN rfl (fun h => ?_) (fun h => ?_) <;> (try (exfalso; omega))) | refine Ent.cond rfl (fun h => ?_) (fun h => ?_))
  · -- a round
    have hil : i < l.length := by omega
    have hfi := firstIx_get pred l i hi hil
    (repeat (first | refine EntL.qq ?_ | (apply Ent.seq) | (apply Ent.region) | (apply EntL.nil) | (apply EntX.then_normal) | refine EntL.uu ?_ | (refine EntL.nn (fun _ _ => ?_)) | (apply Ent.block) | (apply Ent.exit) | (apply Ent.ret) | (apply Ent.skip) | (apply EntX.then_ret) | (apply EntX.block_ret) | (apply EntX.then_exit) | (apply EntX.block_exit; exact rfl) | (apply EntX.block_exit_other; exact rfl) | (apply EntX.block_normal) | refine EntL.g1 ?_ | refine EntL.g2 ?_ | refine EntL.g3 ?_ | refine Ent.c1 ?_ | refine Ent.c2 ?_))
    refine EntL.openOwn Sel.here (Nat.lt_of_le_of_lt (Nat.zero_le i) hil) (fun b cap' rest hv hcap h3 h4 => ?_)
    cases hv
    (repeat (first | refine EntL.qq ?_ | (apply Ent.seq) | (apply Ent.region) | (apply EntL.nil) | (apply EntX.then_normal) | refine EntL.uu ?_ | (refine EntL.nn (fun _ _ => ?_)) | (apply Ent.block) | (apply Ent.exit) | (apply Ent.ret) | (apply Ent.skip) | (apply EntX.then_ret) | (apply EntX.block_ret) | (apply EntX.then_exit) | (apply EntX.block_exit; exact rfl) | (apply EntX.block_exit_other; exact rfl) | (apply EntX.block_normal) | refine EntL.g1 ?_ | refine EntL.g2 ?_ | refine EntL.g3 ?_ | refine Ent.c1 ?_ | refine Ent.c2 ?_))
    refine EntL.q (OpQ.load rfl inferInstance (v := ptrV l[i]) ?_) rfl ?_
    · rw [List.getElem?_append_left (by simpa using hil), List.getElem?_map, List.getElem?_eq_getElem hil]
      rfl
    refine EntL.callv rfl (by (repeat (first | exact Vals.nil | (apply Vals.cons; exact rfl)))) (ha l[i] (List.getElem_mem hil)) (by (repeat (first | exact Fits.rfl | exact Fits.nil | exact Sel.here | apply Sel.there | apply Fits.cons | apply Fits.drop))) rfl (fun _ _ => ?_)
    (repeat (first | refine EntL.qq ?_ | (apply Ent.seq) | (apply Ent.region) | (apply EntL.nil) | (apply EntX.then_normal) | refine EntL.uu ?_ | (refine EntL.nn (fun _ _ => ?_)) | (apply Ent.block) | (apply Ent.exit) | (apply Ent.ret) | (apply Ent.skip) | (apply EntX.then_ret) | (apply EntX.block_ret) | (apply EntX.then_exit) | (apply EntX.block_exit; exact rfl) | (apply EntX.block_exit_other; exact rfl) | (apply EntX.block_normal) | refine EntL.g1 ?_ | refine EntL.g2 ?_ | refine EntL.g3 ?_ | refine Ent.c1 ?_ | refine Ent.c2 ?_))
    refine Ent.cond rfl (fun h => ?_) (fun h => ?_)
    · (repeat (first | refine EntL.qq ?_ | (apply Ent.seq) | (apply Ent.region) | (apply EntL.nil) | (apply EntX.then_normal) | refine EntL.uu ?_ | (refine EntL.nn (fun _ _ => ?_)) | (apply Ent.block) | (apply Ent.exit) | (apply Ent.ret) | (apply Ent.skip) | (apply EntX.then_ret) | (apply EntX.block_ret) | (apply EntX.then_exit) | (apply EntX.block_exit; exact rfl) | (apply EntX.block_exit_other; exact rfl) | (apply EntX.block_normal) | refine EntL.g1 ?_ | refine EntL.g2 ?_ | refine EntL.g3 ?_ | refine Ent.c1 ?_ | refine Ent.c2 ?_))
      have he := hfi.1 h
      refine EntX.ret_of (res1 rfl rfl) () trivial (by rw [if_pos (by omega), he]) (mem_trans (shut_own (by (repeat (first | exact Fits.rfl | exact Fits.nil | exact Sel.here | apply Sel.there | apply Fits.cons | apply Fits.drop))) hcap h3 h4) (by exact Fits.keep (by (repeat (first | exact Fits.rfl | exact Fits.nil | exact Sel.here | apply Sel.there | apply Fits.cons | apply Fits.drop)))))
    · (repeat (first | refine EntL.qq ?_ | (apply Ent.seq) | (apply Ent.region) | (apply EntL.nil) | (apply EntX.then_normal) | refine EntL.uu ?_ | (refine EntL.nn (fun _ _ => ?_)) | (apply Ent.block) | (apply Ent.exit) | (apply Ent.ret) | (apply Ent.skip) | (apply EntX.then_ret) | (apply EntX.block_ret) | (apply EntX.then_exit) | (apply EntX.block_exit; exact rfl) | (apply EntX.block_exit_other; exact rfl) | (apply EntX.block_normal) | refine EntL.g1 ?_ | refine EntL.g2 ?_ | refine EntL.g3 ?_ | refine Ent.c1 ?_ | refine Ent.c2 ?_))
      have he := hfi.2 h
      refine EntX.round_end (i + 1) he (by omega) (by repeat (first | exact EnvSub.nil | refine EnvSub.cons rfl ?_)) (mem_trans (shut_own (by (repeat (first | exact Fits.rfl | exact Fits.nil | exact Sel.here | apply Sel.there | apply Fits.cons | apply Fits.drop))) hcap h3 h4) (by exact Fits.keep (by (repeat (first | exact Fits.rfl | exact Fits.nil | exact Sel.here | apply Sel.there | apply Fits.cons | apply Fits.drop)))))
  · (repeat (first | refine EntL.qq ?_ | (apply Ent.seq) | (apply Ent.region) | (apply EntL.nil) | (apply EntX.then_normal) | refine EntL.uu ?_ | (refine EntL.nn (fun _ _ => ?_)) | (apply Ent.block) | (apply Ent.exit) | (apply Ent.ret) | (apply Ent.skip) | (apply EntX.then_ret) | (apply EntX.block_ret) | (apply EntX.then_exit) | (apply EntX.block_exit; exact rfl) | (apply EntX.block_exit_other; exact rfl) | (apply EntX.block_normal) | refine EntL.g1 ?_ | refine EntL.g2 ?_ | refine EntL.g3 ?_ | refine Ent.c1 ?_ | refine Ent.c2 ?_))
    refine EntX.ret_of (res1 rfl rfl) () trivial (by rw [if_neg (by omega)]) (by exact Fits.keep (by (repeat (first | exact Fits.rfl | exact Fits.nil | exact Sel.here | apply Sel.there | apply Fits.cons | apply Fits.drop))))
/-- the row without those that are asked for -/
def keepIx (pred : Nat → Bool) (l : List Nat) : List Nat := l.filter fun p => !pred p
theorem keep_first (pred : Nat → Bool) : ∀ l : List Nat, keepIx pred (l.take (firstIx pred l)) = l.take (firstIx pred l)
  | [] => by simp [keepIx]
  | p :: l => by
    cases h : pred p
    · have := keep_first pred l
      simp only [keepIx] at this
      simp [firstIx, h, keepIx, this]
    · simp [firstIx, h, keepIx]
theorem keep_all (pred : Nat → Bool) : ∀ l : List Nat, ¬ firstIx pred l < l.length → keepIx pred l = l
  | [], _ => rfl
  | p :: l, h => by
    cases hp : pred p
    · have := keep_all pred l (by simp [firstIx, hp] at h; omega)
      simp only [keepIx] at this
      simp [keepIx, hp, this]
    · simp [firstIx, hp] at h
theorem first_is {α : Type} (pred : α → Bool) (l : List α) (h : firstIx pred l < l.length) : pred l[firstIx pred l] = true := by
  cases hp : pred l[firstIx pred l] with
  | true => rfl
  | false => have := (firstIx_get pred l _ (Nat.le_refl _) h).2 hp; omega
theorem keep_take_succ (pred : Nat → Bool) (l : List Nat) (j : Nat) (h : j < l.length) : keepIx pred (l.take (j + 1)) = keepIx pred (l.take j) ++ (if pred l[j] then [] else [l[j]]) := by
  rw [List.take_succ_eq_append_getElem h, keepIx, List.filter_append]
  cases hp : pred l[j] <;> simp [keepIx, hp]
theorem keep_le (pred : Nat → Bool) (l : List Nat) (j : Nat) : (keepIx pred (l.take j)).length ≤ j := by
  have h1 := List.length_filter_le (fun p => !pred p) (l.take j)
  have h2 := List.length_take_le j l
  simp only [keepIx]; omega

/-- after 'j' rounds of the deletion: what stands ahead is what stays, from 'j' on all is as it was -/
structure DelAt (pred : Nat → Bool) (l : List Nat) (rest : List Value) (j : Nat) (cs : List Value) : Prop where
  lo : firstIx pred l + 1 ≤ j
  hi : j ≤ l.length
  head : cs.take (keepIx pred (l.take j)).length = (keepIx pred (l.take j)).map ptrV
  tail : cs.drop j = (l.drop j).map ptrV ++ rest
  len : cs.length = l.length + rest.length
  lt : (keepIx pred (l.take j)).length < j
theorem DelAt.begin {pred : Nat → Bool} {l : List Nat} {rest : List Value} (h : firstIx pred l < l.length) : DelAt pred l rest (firstIx pred l + 1) (l.map ptrV ++ rest) := by
  have hk := keep_take_succ pred l _ h
  rw [keep_first, first_is pred l h] at hk
  simp only [if_true, List.append_nil] at hk
  have hm : min (firstIx pred l) l.length = firstIx pred l := by omega
  refine ⟨Nat.le_refl _, h, ?_, ?_, by simp, ?_⟩
  · rw [hk]
    simp only [List.length_take, hm]
    rw [List.take_append_of_le_length (by simp; omega), List.map_take]
  · rw [List.drop_append_of_le_length (by simp; omega), List.map_drop]
  · rw [hk]; simp [hm]
theorem keep_begin {pred : Nat → Bool} {l : List Nat} (h : firstIx pred l < l.length) : (keepIx pred (l.take (firstIx pred l + 1))).length = firstIx pred l := by
  have hk := keep_take_succ pred l _ h
  rw [keep_first, first_is pred l h] at hk
  simp only [if_true, List.append_nil] at hk
  rw [hk]; simp; omega
theorem DelAt.cell {pred : Nat → Bool} {l : List Nat} {rest cs : List Value} {j : Nat} (d : DelAt pred l rest j cs) (h : j < l.length) : cs[j]? = some (ptrV l[j]) := by
  have := congrArg (·[0]?) d.tail
  simp only [List.getElem?_drop, Nat.add_zero] at this
  rw [this, List.getElem?_append_left (by simp; omega)]
  simp [h]
theorem DelAt.drop {pred : Nat → Bool} {l : List Nat} {rest cs : List Value} {j : Nat} (d : DelAt pred l rest j cs) (h : j < l.length) (hp : pred l[j] = true) : DelAt pred l rest (j + 1) cs := by
  have hk := keep_take_succ pred l j h
  rw [hp] at hk
  simp only [if_true, List.append_nil] at hk
  refine ⟨by have := d.lo; omega, h, by rw [hk]; exact d.head, ?_, d.len, by rw [hk]; have := d.lt; omega⟩
  rw [← List.drop_drop, d.tail, List.drop_append_of_le_length (by simp; omega), ← List.map_drop, List.drop_drop]
theorem DelAt.keep {pred : Nat → Bool} {l : List Nat} {rest cs : List Value} {j : Nat} (d : DelAt pred l rest j cs) (h : j < l.length) (hp : pred l[j] = false) :
    DelAt pred l rest (j + 1) (cs.set (keepIx pred (l.take j)).length (ptrV l[j])) ∧ (keepIx pred (l.take (j + 1))).length = (keepIx pred (l.take j)).length + 1 := by
  have hk := keep_take_succ pred l j h
  rw [hp] at hk
  simp only [Bool.false_eq_true, if_false] at hk
  have hlt := d.lt
  have hcl := d.len
  refine ⟨⟨by have := d.lo; omega, h, ?_, ?_, by simp [d.len], by rw [hk]; simp; exact hlt⟩, by rw [hk]; simp⟩
  · have e : (keepIx pred (l.take j) ++ [l[j]]).length = (keepIx pred (l.take j)).length + 1 := by simp
    rw [hk, e, take_set_succ (by omega), d.head, List.map_append]
    rfl
  · rw [List.drop_set_of_lt (by omega), ← List.drop_drop, d.tail, List.drop_append_of_le_length (by simp; omega), ← List.map_drop, List.drop_drop]

theorem deleteFunc_spec (f : Nat) [FnT Try.prog f] (caps : List Value) (A : HP) (v : Value) (l : List Nat) (pred : Nat → Bool) (hl : l.length ≤ 1000000) (ha : Asks f caps A l pred) :
    Ctr Try.prog 46 [v, .func (.func f) #[] caps.toArray] (fun R => own 1 v l.length (l.map ptrV) :: A :: R) (fun v' : Value => IsSl (keepIx pred l).length v')
      (fun v' => v') (fun v' R => own 1 v' (keepIx pred l).length ((keepIx pred l).map ptrV) :: A :: R) := by
  refine Ctr.of_ent Try.func46 rfl Try.ntmps46 rfl (fun σ R => ?_)
  refine Ent.own_len Sel.here (fun hv _ => ?_)
  obtain ⟨a, cap, rfl⟩ := hv
  have hle := firstIx_le pred l
  by_cases hf : firstIx pred l < l.length
  · (repeat (first | refine EntL.qq ?_ | (apply Ent.seq) | (apply Ent.region) | (apply EntL.nil) | (apply EntX.then_normal) | refine EntL.uu ?_ | (refine EntL.nn (fun _ _ => ?_)) | (apply Ent.block) | (apply Ent.exit) | (apply Ent.ret) | (apply Ent.skip) | (apply EntX.then_ret) | (apply EntX.block_ret) | (apply EntX.then_exit) | (apply EntX.block_exit; exact rfl) | (apply EntX.block_exit_other; exact rfl) | (apply EntX.block_normal) | refine EntL.g1 ?_ | refine EntL.g2 ?_ | refine EntL.g3 ?_ | refine Ent.c1 ?_ | refine Ent.c2 ?_))
    refine EntL.call (indexFunc_spec f caps A _ l pred hl ha) rfl (by (repeat (first | exact Fits.rfl | exact Fits.nil | exact Sel.here | apply Sel.there | apply Fits.cons | apply Fits.drop))) rfl (fun _ _ => ?_)
    rw [if_pos hf]
    (repeat (first | refine EntL.qq ?_ | (apply Ent.seq) | (apply Ent.region) | (apply EntL.nil) | (apply EntX.then_normal) | refine EntL.uu ?_ | (refine EntL.nn (fun _ _ => ?_)) | (apply Ent.block) | (apply Ent.exit) | (apply Ent.ret) | (apply Ent.skip) | (apply EntX.then_ret) | (apply EntX.block_ret) | (apply EntX.then_exit) | (apply EntX.block_exit; exact rfl) | (apply EntX.block_exit_other; exact rfl) | (apply EntX.block_normal) | refine EntL.g1 ?_ | refine EntL.g2 ?_ | refine EntL.g3 ?_ | refine Ent.c1 ?_ | refine Ent.c2 ?_))
    refine Ent.openOwn Sel.here (Nat.lt_of_le_of_lt (Nat.zero_le _) hf) (fun b cap' rest hv hcap h3 h4 => ?_)
    cases hv
    have hb := DelAt.begin (rest := rest) hf
    refine Ent.loop (α := Nat × List Value) (fun x => [(0, .slice (some ⟨b, 0, none⟩) l.length cap), (1, .func (.func f) #[] caps.toArray), (5, .int .i64 (keepIx pred (l.take x.1)).length), (6, .int .i64 x.1)]) (fun x => ar b x.2 :: A :: R)
      (fun x => DelAt pred l rest x.1 x.2) (fun x => l.length - x.1) (firstIx pred l + 1, l.map ptrV ++ rest) hb (EnvSub.cons rfl (EnvSub.cons rfl (EnvSub.cons ?s5 (EnvSub.cons rfl EnvSub.nil)))) (fun _ h => h) (fun x hx => ?_)
    case s5 => simp only [keep_begin hf]; rfl
    obtain ⟨j, cs⟩ := x
    simp only at hx ⊢
    have hkl := keep_le pred l j
    have hlt := hx.lt
    have hj := hx.hi
    have hlen := hx.len
    (repeat (first | refine EntL.qq ?_ | (apply Ent.seq) | (apply Ent.region) | (apply EntL.nil) | (apply EntX.then_normal) | refine EntL.uu ?_ | (refine EntL.nn (fun _ _ => ?_)) | (apply Ent.block) | (apply Ent.exit) | (apply Ent.ret) | (apply Ent.skip) | (apply EntX.then_ret) | (apply EntX.block_ret) | (apply EntX.then_exit) | (apply EntX.block_exit; exact rfl) | (apply EntX.block_exit_other; exact rfl) | (apply EntX.block_normal) | refine EntL.g1 ?_ | refine EntL.g2 ?_ | refine EntL.g3 ?_ | refine Ent.c1 ?_ | refine Ent.c2 ?_))
    (first | (refine Ent.ifD rfl (fun h => ?_) (fun h => ?_) <;> (try (exfalso; omega))) | (refine Ent.ifN rfl (fun h => ?_) (fun h => ?_) <;> (try (exfalso; omega))) | refine Ent.cond rfl (fun h => ?_) (fun h => ?_))
    · have hjl : j < l.length := by omega
      have hc := hx.cell hjl
      (repeat (first | refine EntL.qq ?_ | (apply Ent.seq) | (apply Ent.region) | (apply EntL.nil) | (apply EntX.then_normal) | refine EntL.uu ?_ | (refine EntL.nn (fun _ _ => ?_)) | (apply Ent.block) | (apply Ent.exit) | (apply Ent.ret) | (apply Ent.skip) | (apply EntX.then_ret) | (apply EntX.block_ret) | (apply EntX.then_exit) | (apply EntX.block_exit; exact rfl) | (apply EntX.block_exit_other; exact rfl) | (apply EntX.block_normal) | refine EntL.g1 ?_ | refine EntL.g2 ?_ | refine EntL.g3 ?_ | refine Ent.c1 ?_ | refine Ent.c2 ?_))
      refine EntL.q (OpQ.load rfl inferInstance hc) rfl ?_
      (repeat (first | refine EntL.qq ?_ | (apply Ent.seq) | (apply Ent.region) | (apply EntL.nil) | (apply EntX.then_normal) | refine EntL.uu ?_ | (refine EntL.nn (fun _ _ => ?_)) | (apply Ent.block) | (apply Ent.exit) | (apply Ent.ret) | (apply Ent.skip) | (apply EntX.then_ret) | (apply EntX.block_ret) | (apply EntX.then_exit) | (apply EntX.block_exit; exact rfl) | (apply EntX.block_exit_other; exact rfl) | (apply EntX.block_normal) | refine EntL.g1 ?_ | refine EntL.g2 ?_ | refine EntL.g3 ?_ | refine Ent.c1 ?_ | refine Ent.c2 ?_))
      refine EntL.callv rfl (by (repeat (first | exact Vals.nil | (apply Vals.cons; exact rfl)))) (ha l[j] (List.getElem_mem hjl)) (by (repeat (first | exact Fits.rfl | exact Fits.nil | exact Sel.here | apply Sel.there | apply Fits.cons | apply Fits.drop))) rfl (fun _ _ => ?_)
      cases hp : pred l[j]
      · (repeat (first | refine EntL.qq ?_ | (apply Ent.seq) | (apply Ent.region) | (apply EntL.nil) | (apply EntX.then_normal) | refine EntL.uu ?_ | (refine EntL.nn (fun _ _ => ?_)) | (apply Ent.block) | (apply Ent.exit) | (apply Ent.ret) | (apply Ent.skip) | (apply EntX.then_ret) | (apply EntX.block_ret) | (apply EntX.then_exit) | (apply EntX.block_exit; exact rfl) | (apply EntX.block_exit_other; exact rfl) | (apply EntX.block_normal) | refine EntL.g1 ?_ | refine EntL.g2 ?_ | refine EntL.g3 ?_ | refine Ent.c1 ?_ | refine Ent.c2 ?_))
        refine EntL.u (OpU.store rfl rfl rfl inferInstance (ble_of (by omega))) rfl ?_
        (repeat (first | refine EntL.qq ?_ | (apply Ent.seq) | (apply Ent.region) | (apply EntL.nil) | (apply EntX.then_normal) | refine EntL.uu ?_ | (refine EntL.nn (fun _ _ => ?_)) | (apply Ent.block) | (apply Ent.exit) | (apply Ent.ret) | (apply Ent.skip) | (apply EntX.then_ret) | (apply EntX.block_ret) | (apply EntX.then_exit) | (apply EntX.block_exit; exact rfl) | (apply EntX.block_exit_other; exact rfl) | (apply EntX.block_normal) | refine EntL.g1 ?_ | refine EntL.g2 ?_ | refine EntL.g3 ?_ | refine Ent.c1 ?_ | refine Ent.c2 ?_))
        have hk := hx.keep hjl hp
        refine EntX.round_end (j + 1, cs.set (keepIx pred (l.take j)).length (ptrV l[j])) hk.1 (by simp only; omega) (EnvSub.cons rfl (EnvSub.cons rfl (EnvSub.cons ?_ (EnvSub.cons rfl EnvSub.nil)))) (by exact Fits.keep (by (repeat (first | exact Fits.rfl | exact Fits.nil | exact Sel.here | apply Sel.there | apply Fits.cons | apply Fits.drop))))
        simp only [hk.2]
        rfl
      · (repeat (first | refine EntL.qq ?_ | (apply Ent.seq) | (apply Ent.region) | (apply EntL.nil) | (apply EntX.then_normal) | refine EntL.uu ?_ | (refine EntL.nn (fun _ _ => ?_)) | (apply Ent.block) | (apply Ent.exit) | (apply Ent.ret) | (apply Ent.skip) | (apply EntX.then_ret) | (apply EntX.block_ret) | (apply EntX.then_exit) | (apply EntX.block_exit; exact rfl) | (apply EntX.block_exit_other; exact rfl) | (apply EntX.block_normal) | refine EntL.g1 ?_ | refine EntL.g2 ?_ | refine EntL.g3 ?_ | refine Ent.c1 ?_ | refine Ent.c2 ?_))
        refine EntX.round_end (j + 1, cs) (hx.drop hjl hp) (by simp only; omega) (EnvSub.cons rfl (EnvSub.cons rfl (EnvSub.cons ?_ (EnvSub.cons rfl EnvSub.nil)))) (by exact Fits.keep (by (repeat (first | exact Fits.rfl | exact Fits.nil | exact Sel.here | apply Sel.there | apply Fits.cons | apply Fits.drop))))
        have hk := keep_take_succ pred l j hjl
        rw [hp] at hk
        simp only [if_true, List.append_nil] at hk
        simp only [hk]
        rfl
    · have hjl : j = l.length := by omega
      subst hjl
      (repeat (first | refine EntL.qq ?_ | (apply Ent.seq) | (apply Ent.region) | (apply EntL.nil) | (apply EntX.then_normal) | refine EntL.uu ?_ | (refine EntL.nn (fun _ _ => ?_)) | (apply Ent.block) | (apply Ent.exit) | (apply Ent.ret) | (apply Ent.skip) | (apply EntX.then_ret) | (apply EntX.block_ret) | (apply EntX.then_exit) | (apply EntX.block_exit; exact rfl) | (apply EntX.block_exit_other; exact rfl) | (apply EntX.block_normal) | refine EntL.g1 ?_ | refine EntL.g2 ?_ | refine EntL.g3 ?_ | refine Ent.c1 ?_ | refine Ent.c2 ?_))
      refine EntL.q (OpQ.slice_l1 rfl rfl (by omega) (by omega)) rfl ?_
      (repeat (first | refine EntL.qq ?_ | (apply Ent.seq) | (apply Ent.region) | (apply EntL.nil) | (apply EntX.then_normal) | refine EntL.uu ?_ | (refine EntL.nn (fun _ _ => ?_)) | (apply Ent.block) | (apply Ent.exit) | (apply Ent.ret) | (apply Ent.skip) | (apply EntX.then_ret) | (apply EntX.block_ret) | (apply EntX.then_exit) | (apply EntX.block_exit; exact rfl) | (apply EntX.block_exit_other; exact rfl) | (apply EntX.block_normal) | refine EntL.g1 ?_ | refine EntL.g2 ?_ | refine EntL.g3 ?_ | refine Ent.c1 ?_ | refine Ent.c2 ?_))
      refine EntL.u (OpU.clear rfl rfl rfl inferInstance (by omega)) rfl ?_
      (repeat (first | refine EntL.qq ?_ | (apply Ent.seq) | (apply Ent.region) | (apply EntL.nil) | (apply EntX.then_normal) | refine EntL.uu ?_ | (refine EntL.nn (fun _ _ => ?_)) | (apply Ent.block) | (apply Ent.exit) | (apply Ent.ret) | (apply Ent.skip) | (apply EntX.then_ret) | (apply EntX.block_ret) | (apply EntX.then_exit) | (apply EntX.block_exit; exact rfl) | (apply EntX.block_exit_other; exact rfl) | (apply EntX.block_normal) | refine EntL.g1 ?_ | refine EntL.g2 ?_ | refine EntL.g3 ?_ | refine Ent.c1 ?_ | refine Ent.c2 ?_))
      refine EntL.q (OpQ.slice_h1 rfl rfl (by omega)) rfl ?_
      (repeat (first | refine EntL.qq ?_ | (apply Ent.seq) | (apply Ent.region) | (apply EntL.nil) | (apply EntX.then_normal) | refine EntL.uu ?_ | (refine EntL.nn (fun _ _ => ?_)) | (apply Ent.block) | (apply Ent.exit) | (apply Ent.ret) | (apply Ent.skip) | (apply EntX.then_ret) | (apply EntX.block_ret) | (apply EntX.then_exit) | (apply EntX.block_exit; exact rfl) | (apply EntX.block_exit_other; exact rfl) | (apply EntX.block_normal) | refine EntL.g1 ?_ | refine EntL.g2 ?_ | refine EntL.g3 ?_ | refine Ent.c1 ?_ | refine Ent.c2 ?_))
      have hcells : splice cs (0 + (keepIx pred (List.take l.length l)).length) (List.replicate (l.length - (keepIx pred (List.take l.length l)).length) (Value.pointer none)) =
          (keepIx pred l).map ptrV ++ (List.replicate (l.length - (keepIx pred l).length) (Value.pointer none) ++ rest) := by
        have h1 := hx.head
        have h2 := hx.tail
        simp only [List.take_length, List.drop_length, List.map_nil, List.nil_append, Nat.zero_add] at h1 h2 hlt ⊢
        rw [splice, h1, List.append_assoc]
        congr 2
        rw [List.length_replicate, show (keepIx pred l).length + (l.length - (keepIx pred l).length) = l.length by omega, h2]
      rw [hcells]
      simp only [List.take_length] at hlt hkl ⊢
      refine EntX.ret_of (res1 rfl rfl) _ ⟨_, _, rfl⟩ rfl (mem_trans (shut_own (sz := 1) (k := (keepIx pred l).length) (cap := cap) (T := A :: R) (by (repeat (first | exact Fits.rfl | exact Fits.nil | exact Sel.here | apply Sel.there | apply Fits.cons | apply Fits.drop))) (by omega) (by simp) (by simp only [List.length_append, List.length_map, List.length_replicate] at h4 ⊢; omega)) (by exact Fits.keep (by (repeat (first | exact Fits.rfl | exact Fits.nil | exact Sel.here | apply Sel.there | apply Fits.cons | apply Fits.drop)))))
  · -- none is asked for
    have hall := keep_all pred l hf
    (repeat (first | refine EntL.qq ?_ | (apply Ent.seq) | (apply Ent.region) | (apply EntL.nil) | (apply EntX.then_normal) | refine EntL.uu ?_ | (refine EntL.nn (fun _ _ => ?_)) | (apply Ent.block) | (apply Ent.exit) | (apply Ent.ret) | (apply Ent.skip) | (apply EntX.then_ret) | (apply EntX.block_ret) | (apply EntX.then_exit) | (apply EntX.block_exit; exact rfl) | (apply EntX.block_exit_other; exact rfl) | (apply EntX.block_normal) | refine EntL.g1 ?_ | refine EntL.g2 ?_ | refine EntL.g3 ?_ | refine Ent.c1 ?_ | refine Ent.c2 ?_))
    refine EntL.call (indexFunc_spec f caps A _ l pred hl ha) rfl (by (repeat (first | exact Fits.rfl | exact Fits.nil | exact Sel.here | apply Sel.there | apply Fits.cons | apply Fits.drop))) rfl (fun _ _ => ?_)
    rw [if_neg hf]
    (repeat (first | refine EntL.qq ?_ | (apply Ent.seq) | (apply Ent.region) | (apply EntL.nil) | (apply EntX.then_normal) | refine EntL.uu ?_ | (refine EntL.nn (fun _ _ => ?_)) | (apply Ent.block) | (apply Ent.exit) | (apply Ent.ret) | (apply Ent.skip) | (apply EntX.then_ret) | (apply EntX.block_ret) | (apply EntX.then_exit) | (apply EntX.block_exit; exact rfl) | (apply EntX.block_exit_other; exact rfl) | (apply EntX.block_normal) | refine EntL.g1 ?_ | refine EntL.g2 ?_ | refine EntL.g3 ?_ | refine Ent.c1 ?_ | refine Ent.c2 ?_))
    refine EntX.ret_of (res1 rfl rfl) _ ⟨_, _, by rw [hall]⟩ rfl (by rw [hall]; exact Fits.keep (by (repeat (first | exact Fits.rfl | exact Fits.nil | exact Sel.here | apply Sel.there | apply Fits.cons | apply Fits.drop))))
end Go.Proofs.Ythlbimdlpadhdaa
