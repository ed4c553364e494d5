/-
  More operations: comparisons with nil, pointers, structs by value, literals, slicing, make, copy, function values. No program in sight.
-/
import Derived.Test.YthlbimdlpadhdaaSlMem
namespace Go.Sl
open Go
attribute [local semireducible] Ent EntL EntX OpTo Ctr pt OpQ OpU cl ar

section
variable {P : Program} {Q : Exit → Act → World → Prop} {n : Nat} {env : Env} {σ : Sig} {H : List HP} {ops : Array Oper} {l : List Oper}
variable {dst : Option Tmp} {ty : TypeId} {pos : String} {af : Array Edge} {g : Option (Nat × Bool)}

/-! ### Comparisons -/
theorem OpQ.eqOther {x y : Operand} {op : BinOp} {t t' : TypeId} {a b v : Value} (hx : evalE env x = some a) (hy : evalE env y = some b) (hg : ∀ w, (eqGuard op t x y a b).run P w = .ok () w) (hr : ∀ w, St σ H w → (Go.binOp op t a b).run P w = .ok v w) :
    OpQ P ⟨dst, .binOp op t x y t', ty, pos, af, g⟩ env σ H v := fun ρ w hk s => by
  simp [execOp, hk _ _ hx, hk _ _ hy, hg w, hr w s]
theorem run_eql_of {t : TypeId} {a b : Value} {r : Bool} {w : World} (hb : Go.binOp .eql t a b = (do pure (.bool (← Op.equal t a b)))) (h : ∀ d, (Op.equalIn (d + 1) t a b).run P w = .ok r w) : (Go.binOp .eql t a b).run P w = .ok (.bool r) w := by
  rw [hb]
  have : (Op.equal t a b).run P w = .ok r w := h 9999
  simp [this]
theorem run_neq_of {t : TypeId} {a b : Value} {r : Bool} {w : World} (hb : Go.binOp .neq t a b = (do pure (.bool (!(← Op.equal t a b))))) (h : ∀ d, (Op.equalIn (d + 1) t a b).run P w = .ok r w) : (Go.binOp .neq t a b).run P w = .ok (.bool (!r)) w := by
  rw [hb]
  have : (Op.equal t a b).run P w = .ok r w := h 9999
  simp [this]
class BoolT (P : Program) (t : Nat) : Prop where h : P.underlying t = some .bool
theorem OpQ.eq_ptr_nil {x y : Operand} {t t' e : TypeId} {p : Option Addr} (hx : evalE env x = some (.pointer p)) (hy : evalE env y = some (.pointer none)) [ht : PtrT P t e] :
    OpQ P ⟨dst, .binOp .eql t x y t', ty, pos, af, g⟩ env σ H (.bool p.isNone) :=
  OpQ.eqOther hx hy (fun w => by cases p <;> simp [eqGuard]) (fun w _ => run_eql_of (by cases p <;> rfl) (fun d => by cases p <;> simp [Op.equalIn, run_underlying ht.h]))
theorem OpQ.ne_ptr_nil {x y : Operand} {t t' e : TypeId} {p : Option Addr} (hx : evalE env x = some (.pointer p)) (hy : evalE env y = some (.pointer none)) [ht : PtrT P t e] :
    OpQ P ⟨dst, .binOp .neq t x y t', ty, pos, af, g⟩ env σ H (.bool (!p.isNone)) :=
  OpQ.eqOther hx hy (fun w => by cases p <;> simp [eqGuard]) (fun w _ => run_neq_of (by cases p <;> rfl) (fun d => by cases p <;> simp [Op.equalIn, run_underlying ht.h]))
theorem OpQ.eq_slice_nil {x y : Operand} {t t' e sz : TypeId} {p : Option Addr} {k c : Nat} (hx : evalE env x = some (.slice p k c)) (hy : evalE env y = some (.slice none 0 0)) [ht : SliceT P t e sz] :
    OpQ P ⟨dst, .binOp .eql t x y t', ty, pos, af, g⟩ env σ H (.bool p.isNone) :=
  OpQ.eqOther hx hy (fun w => by cases p <;> simp [eqGuard]) (fun w _ => run_eql_of (by cases p <;> rfl) (fun d => by cases p <;> simp [Op.equalIn, run_underlying (sliceOf_spec ht.h).1]))
theorem OpQ.ne_slice_nil {x y : Operand} {t t' e sz : TypeId} {p : Option Addr} {k c : Nat} (hx : evalE env x = some (.slice p k c)) (hy : evalE env y = some (.slice none 0 0)) [ht : SliceT P t e sz] :
    OpQ P ⟨dst, .binOp .neq t x y t', ty, pos, af, g⟩ env σ H (.bool (!p.isNone)) :=
  OpQ.eqOther hx hy (fun w => by cases p <;> simp [eqGuard]) (fun w _ => run_neq_of (by cases p <;> rfl) (fun d => by cases p <;> simp [Op.equalIn, run_underlying (sliceOf_spec ht.h).1]))
theorem OpQ.eq_bool {x y : Operand} {t t' : TypeId} {a b : Bool} (hx : evalE env x = some (.bool a)) (hy : evalE env y = some (.bool b)) [ht : BoolT P t] :
    OpQ P ⟨dst, .binOp .eql t x y t', ty, pos, af, g⟩ env σ H (.bool (a == b)) :=
  OpQ.eqOther hx hy (fun w => by simp [eqGuard]) (fun w _ => run_eql_of rfl (fun d => by simp [Op.equalIn, run_underlying ht.h]))
theorem OpQ.ne_bool {x y : Operand} {t t' : TypeId} {a b : Bool} (hx : evalE env x = some (.bool a)) (hy : evalE env y = some (.bool b)) [ht : BoolT P t] :
    OpQ P ⟨dst, .binOp .neq t x y t', ty, pos, af, g⟩ env σ H (.bool (!(a == b))) :=
  OpQ.eqOther hx hy (fun w => by simp [eqGuard]) (fun w _ => run_neq_of rfl (fun d => by simp [Op.equalIn, run_underlying ht.h]))
/-- strings -/
theorem OpQ.eq_string {x y : Operand} {t t' : TypeId} {a b : ByteArray} (hx : evalE env x = some (.string a)) (hy : evalE env y = some (.string b)) :
    OpQ P ⟨dst, .binOp .eql t x y t', ty, pos, af, g⟩ env σ H (.bool (a.toList == b.toList)) :=
  OpQ.eqOther hx hy (fun w => by simp [eqGuard]) (fun w _ => by simp [binOp, Op.stringOp])
theorem OpQ.ne_string {x y : Operand} {t t' : TypeId} {a b : ByteArray} (hx : evalE env x = some (.string a)) (hy : evalE env y = some (.string b)) :
    OpQ P ⟨dst, .binOp .neq t x y t', ty, pos, af, g⟩ env σ H (.bool (!(a.toList == b.toList))) :=
  OpQ.eqOther hx hy (fun w => by simp [eqGuard]) (fun w _ => by simp [binOp, Op.stringOp])
/-- two pointers into blocks of plain cells -/
def Plain (w : World) (b : Nat) : Prop := ∃ c T, w.heap[b]? = some (.cells c T (0, 0))
theorem St.plain' {b : Nat} {cs : List Value} {R : List HP} {w : World} (s : Sel (cl b cs) H R) (h : St σ H w) : Plain w b := by
  obtain ⟨T, h'⟩ := h.open_cl s
  exact ⟨_, T, St.at .here h'⟩
theorem St.ne_cl {b b' : Nat} {cs cs' : List Value} {R R' : List HP} {w : World} (s : Sel (cl b cs) H R) (s' : Sel (cl b' cs') R R') (h : St σ H w) : b ≠ b' := by
  obtain ⟨T, h1⟩ := h.open_cl s
  obtain ⟨T', h2⟩ := h1.open_cl (Sel.there s')
  exact fun e => St.ne .here .here h2 e.symm
theorem run_sameAddr {a b : Addr} {w : World} (ha : Plain w a.block) (hb : Plain w b.block) : (sameAddr a b).run P w = .ok (a == b) w := by
  obtain ⟨c, T, ha⟩ := ha
  obtain ⟨c', T', hb⟩ := hb
  by_cases h : a.block = b.block
  · simp [sameAddr, h]
  · have hne : (a == b) = false := by simp; intro e; exact h (by rw [e])
    have f1 : ∀ o s, w.frozen? ⟨a.block, o, s⟩ = false := fun o s => by simp [World.frozen?, ha]
    have f2 : ∀ o s, w.frozen? ⟨b.block, o, s⟩ = false := fun o s => by simp [World.frozen?, hb]
    have s1 : w.shape? a.block = some (T, c.size) := by simp [World.shape?, ha]
    have s2 : w.shape? b.block = some (T', c'.size) := by simp [World.shape?, hb]
    have f1' := f1 a.off a.spot
    have f2' := f2 b.off b.spot
    simp [sameAddr, h, hne, f1', f2', f1, f2, noView, viewAt, s1, s2, mayBeOne, stringish]
theorem OpQ.eq_ptr {x y : Operand} {t t' e sz bs : TypeId} {a b : Addr} (hx : evalE env x = some (.pointer (some a))) (hy : evalE env y = some (.pointer (some b))) [ht : PtrT P t e] [hs : SizeT P e sz bs] (hz : Nat.beq sz 0 = false)
    (ha : ∀ w, St σ H w → Plain w a.block) (hb : ∀ w, St σ H w → Plain w b.block) : OpQ P ⟨dst, .binOp .eql t x y t', ty, pos, af, g⟩ env σ H (.bool (a == b)) :=
  OpQ.eqOther hx hy (fun w => by simp [eqGuard]) (fun w s => by
    have hz : sz ≠ 0 := Nat.ne_of_beq_eq_false hz
    have hsz : ∀ w, (sizeOf e).run P w = .ok sz w := fun w => by
      have := hs.h
      cases h : P.info? e with
      | none => simp [h] at this
      | some i => simp [h] at this; simp [sizeOf, typeInfo, h, this.1]
    exact run_eql_of rfl (fun d => by simp [Op.equalIn, run_underlying ht.h, hsz, hz, run_sameAddr (P := P) (ha w s) (hb w s)]))
theorem OpQ.ne_ptr {x y : Operand} {t t' e sz bs : TypeId} {a b : Addr} (hx : evalE env x = some (.pointer (some a))) (hy : evalE env y = some (.pointer (some b))) [ht : PtrT P t e] [hs : SizeT P e sz bs] (hz : Nat.beq sz 0 = false)
    (ha : ∀ w, St σ H w → Plain w a.block) (hb : ∀ w, St σ H w → Plain w b.block) : OpQ P ⟨dst, .binOp .neq t x y t', ty, pos, af, g⟩ env σ H (.bool (!(a == b))) :=
  OpQ.eqOther hx hy (fun w => by simp [eqGuard]) (fun w s => by
    have hz : sz ≠ 0 := Nat.ne_of_beq_eq_false hz
    have hsz : ∀ w, (sizeOf e).run P w = .ok sz w := fun w => by
      have := hs.h
      cases h : P.info? e with
      | none => simp [h] at this
      | some i => simp [h] at this; simp [sizeOf, typeInfo, h, this.1]
    exact run_neq_of rfl (fun d => by simp [Op.equalIn, run_underlying ht.h, hsz, hz, run_sameAddr (P := P) (ha w s) (hb w s)]))

/-! ### Function values, tuples -/
inductive Vals (env : Env) : List Operand → List Value → Prop
  | nil : Vals env [] []
  | cons {x : Operand} {v : Value} {xs : List Operand} {vs : List Value} : evalE env x = some v → Vals env xs vs → Vals env (x :: xs) (v :: vs)
theorem Vals.known {xs : List Operand} {vs : List Value} {ρ : Operand → Value} (h : Vals env xs vs) (hk : Known env ρ) : xs.map ρ = vs := by
  induction h with
  | nil => rfl
  | cons hx _ ih => simp [hk _ _ hx, ih]
theorem OpQ.makeFunc {fn : Fn} {xs ys : List Operand} {vs us : List Value} (h1 : Vals env xs vs) (h2 : Vals env ys us) : OpQ P ⟨dst, .makeFunc fn xs.toArray ys.toArray, ty, pos, af, g⟩ env σ H (.func fn vs.toArray us.toArray) := fun ρ w hk _ => by
  simp [execOp, Instr.makeFunc, h1.known hk, h2.known hk]
/-- a call of a function value -/
theorem EntL.callv {f : FuncId} {x : Operand} {xs : List Operand} {vs caps : List Value} {tys : Array TypeId} {pre : List HP → List HP} {R : List HP} {β : Sort _} {φ : β → Prop} {val : β → Value} {post : β → List HP → List HP}
    (hx : evalE env x = some (.func (.func f) #[] caps.toArray)) (hv : Vals env xs vs) (hc : Ctr P f (vs ++ caps) pre φ val post) [hf : FnT P f] (hp : Fits (pre R) H) (hd : okDst n dst = true)
    (kk : ∀ x, φ x → EntL P ops Q l n (putE env dst (val x)) σ (post x R)) : EntL P ops Q (⟨dst, .call ⟨.value x, xs.toArray, tys⟩, ty, pos, af, none⟩ :: l) n env σ H := by
  intro a w fr s
  obtain ⟨fn, hf1, hf2, hf3⟩ := fnOk_spec hf.h
  refine wpOper (wanted_none rfl a) ?_
  obtain ⟨c, hc'⟩ : ∃ c, fn.body = some c := by
    cases h : fn.body with
    | none => simp [h] at hf3
    | some c => exact ⟨c, rfl⟩
  have hname : ¬ fn.name = "runtime.NumGoroutine" := by simpa using hf2
  have hr : (execOp a.eval ⟨dst, .call ⟨.value x, xs.toArray, tys⟩, ty, pos, af, none⟩).run P w = .ok (.enter f (vs ++ caps).toArray) w := by
    simp [execOp, fr.known _ _ hx, resolve, Deferred.ofValue, invoke, callFunc, hf1, hname, hc', hv.known fr.known]
  simp only [Oper.wp, hr, Oper.upon]
  refine (hc σ R w (hp.st s)).mono ?_
  rintro e w' ⟨x, hx, rfl, s'⟩
  exact kk x hx _ _ (fr.put _ (okDst.lt hd)) s'

/-! ### Structs by value -/
/-- a field of one cell; a field of several -/
def fieldPlain (P : Program) (s : TypeId) (i : Nat) : Option Nat :=
  match P.underlying s with
  | some (.struct fs) => match fs[i]? with
    | some f => if plainOf P f.type then some f.offset else none
    | none => none
  | _ => none
def fieldAgg (P : Program) (s : TypeId) (i : Nat) : Option (Nat × Nat) :=
  match P.underlying s with
  | some (.struct fs) => match fs[i]? with
    | some f => (aggSize P f.type).map fun k => (f.offset, k)
    | none => none
  | _ => none
class FieldP (P : Program) (s i : Nat) (off : outParam Nat) : Prop where h : fieldPlain P s i = some off
class FieldA (P : Program) (s i : Nat) (off k : outParam Nat) : Prop where h : fieldAgg P s i = some (off, k)
theorem OpQ.field {x : Operand} {s i off : Nat} {cs : List Value} {v : Value} (hx : evalE env x = some (.agg cs.toArray)) [hf : FieldP P s i off] (hv : cs[off]? = some v) :
    OpQ P ⟨dst, .field s x i, ty, pos, af, g⟩ env σ H v := fun ρ w hk _ => by
  have h := hf.h
  unfold fieldPlain at h
  split at h <;> try cases h
  rename_i fs hu
  split at h <;> try cases h
  rename_i f hfi
  split at h <;> try cases h
  rename_i hp
  obtain ⟨d, j, hd, hp, hj, hjs⟩ := plainOf_spec hp
  simp [execOp, hk _ _ hx, Instr.field, run_underlying hu, hfi, asAgg, part, run_isAgg hd, hp, hv]
theorem OpQ.field_agg {x : Operand} {s i off k : Nat} {cs vs : List Value} (hx : evalE env x = some (.agg cs.toArray)) [hf : FieldA P s i off k] (hv : (cs.drop off).take k = vs) :
    OpQ P ⟨dst, .field s x i, ty, pos, af, g⟩ env σ H (.agg vs.toArray) := fun ρ w hk _ => by
  have h := hf.h
  unfold fieldAgg at h
  split at h <;> try cases h
  rename_i fs hu
  split at h <;> try cases h
  rename_i f hfi
  cases ha : aggSize P f.type with
  | none => simp [ha] at h
  | some k' =>
    simp [ha] at h
    obtain ⟨rfl, rfl⟩ := h
    obtain ⟨⟨d, hd, hp⟩, j, hj, hjs⟩ := aggSize_spec ha
    subst hv
    simp [execOp, hk _ _ hx, Instr.field, run_underlying hu, hfi, asAgg, part, run_isAgg hd, hp, sizeOf, typeInfo, hj, hjs]

/-! ### make, slicing -/
theorem run_sliceBounds_lh {k k' : IntKind} {i j : Int} {len cap : Nat} (h0 : 0 ≤ i) (hij : i ≤ j) (hj : j ≤ cap) (w : World) : (Instr.sliceBounds true len cap (some (.int k i)) (some (.int k' j)) none).run P w = .ok (i.toNat, j.toNat, cap) w := by
  simp [Instr.sliceBounds, Instr.sliceBound, asIntOf, show 0 ≤ j by omega, hj, h0, show i ≤ max j 0 by omega]
theorem run_sliceBounds_l {k : IntKind} {i : Int} {len cap : Nat} (h0 : 0 ≤ i) (hij : i ≤ len) (w : World) : (Instr.sliceBounds true len cap (some (.int k i)) none none).run P w = .ok (i.toNat, len, cap) w := by
  simp [Instr.sliceBounds, Instr.sliceBound, asIntOf, h0, hij]
theorem run_sliceBounds_h {k' : IntKind} {j : Int} {len cap : Nat} (h0 : 0 ≤ j) (hj : j ≤ cap) (w : World) : (Instr.sliceBounds true len cap none (some (.int k' j)) none).run P w = .ok (0, j.toNat, cap) w := by
  simp [Instr.sliceBounds, Instr.sliceBound, asIntOf, h0, hj]
/-- where a part begins: at the end of the room the address stays -/
def atOr (b o : Nat) (m l : Nat) (k : Nat) : Addr := if m = l then ⟨b, o, none⟩ else ⟨b, o + k, none⟩
theorem OpQ.slice_lh {x lo hi : Operand} {t e sz : Nat} {b o len cap : Nat} {k k' : IntKind} {i j : Int} (hx : evalE env x = some (.slice (some ⟨b, o, none⟩) len cap)) (h1 : evalE env lo = some (.int k i)) (h2 : evalE env hi = some (.int k' j)) [ht : SliceT P t e sz]
    (h0 : 0 ≤ i) (hij : i ≤ j) (hj : j ≤ cap) : OpQ P ⟨dst, .slice t x (some lo) (some hi) none, ty, pos, af, g⟩ env σ H (.slice (some (atOr b o cap i.toNat (i.toNat * sz))) (j.toNat - i.toNat) (cap - i.toNat)) := fun ρ w hk _ => by
  obtain ⟨hu, q, hq, hqs⟩ := sliceOf_spec ht.h
  have hb := run_sliceBounds_lh (P := P) (k := k) (k' := k') (len := len) h0 hij hj w
  simp only [execOp, hk _ _ hx, Option.map, hk _ _ h1, hk _ _ h2, Instr.sliceAt, Sem.run_bind, run_underlying hu, Result.andThen_ok, Instr.slice, hb, sizeOf, typeInfo, Sem.run_pure, run_program, hq, hqs, atOr]
  split <;> simp_all [addr_add]
theorem OpQ.slice_l {x lo : Operand} {t e sz : Nat} {b o len cap : Nat} {k : IntKind} {i : Int} (hx : evalE env x = some (.slice (some ⟨b, o, none⟩) len cap)) (h1 : evalE env lo = some (.int k i)) [ht : SliceT P t e sz]
    (h0 : 0 ≤ i) (hij : i ≤ len) : OpQ P ⟨dst, .slice t x (some lo) none none, ty, pos, af, g⟩ env σ H (.slice (some (atOr b o cap i.toNat (i.toNat * sz))) (len - i.toNat) (cap - i.toNat)) := fun ρ w hk _ => by
  obtain ⟨hu, q, hq, hqs⟩ := sliceOf_spec ht.h
  have hb := run_sliceBounds_l (P := P) (k := k) (cap := cap) h0 hij w
  simp only [execOp, hk _ _ hx, Option.map, hk _ _ h1, Instr.sliceAt, Sem.run_bind, run_underlying hu, Result.andThen_ok, Instr.slice, hb, sizeOf, typeInfo, Sem.run_pure, run_program, hq, hqs, atOr]
  split <;> simp_all [addr_add]
theorem OpQ.slice_h {x hi : Operand} {t e sz : Nat} {b o len cap : Nat} {k : IntKind} {j : Int} (hx : evalE env x = some (.slice (some ⟨b, o, none⟩) len cap)) (h1 : evalE env hi = some (.int k j)) [ht : SliceT P t e sz]
    (h0 : 0 ≤ j) (hj : j ≤ cap) : OpQ P ⟨dst, .slice t x none (some hi) none, ty, pos, af, g⟩ env σ H (.slice (some ⟨b, o, none⟩) j.toNat cap) := fun ρ w hk _ => by
  obtain ⟨hu, q, hq, hqs⟩ := sliceOf_spec ht.h
  have hb := run_sliceBounds_h (P := P) (k' := k) (len := len) h0 hj w
  simp only [execOp, hk _ _ hx, Option.map, hk _ _ h1, Instr.sliceAt, Sem.run_bind, run_underlying hu, Result.andThen_ok, Instr.slice, hb, sizeOf, typeInfo, Sem.run_pure, run_program, hq, hqs]
  split <;> simp_all [addr_add]
  omega
theorem atOr_lt {b o m l k : Nat} (h : l < m) : atOr b o m l k = ⟨b, o + k, none⟩ := by unfold atOr; rw [if_neg (by omega)]
/-- from a place on, one cell an element, within the room -/
theorem OpQ.slice_l1 {x lo : Operand} {t e : Nat} {b o len cap i : Nat} {k : IntKind} (hx : evalE env x = some (.slice (some ⟨b, o, none⟩) len cap)) (h1 : evalE env lo = some (.int k (i : Int))) [ht : SliceT P t e 1]
    (hij : i ≤ len) (hlt : i < cap) : OpQ P ⟨dst, .slice t x (some lo) none none, ty, pos, af, g⟩ env σ H (.slice (some ⟨b, o + i, none⟩) (len - i) (cap - i)) := by
  have := OpQ.slice_l (P := P) (dst := dst) (ty := ty) (pos := pos) (af := af) (g := g) (σ := σ) (H := H) hx h1 (ht := ht) (by omega) (by omega)
  rw [atOr_lt (by omega)] at this
  simpa using this
theorem OpQ.slice_h1 {x hi : Operand} {t e : Nat} {b o len cap j : Nat} {k : IntKind} {sz : Nat} (hx : evalE env x = some (.slice (some ⟨b, o, none⟩) len cap)) (h1 : evalE env hi = some (.int k (j : Int))) [ht : SliceT P t e sz]
    (hj : j ≤ cap) : OpQ P ⟨dst, .slice t x none (some hi) none, ty, pos, af, g⟩ env σ H (.slice (some ⟨b, o, none⟩) j cap) := by
  have := OpQ.slice_h (P := P) (dst := dst) (ty := ty) (pos := pos) (af := af) (g := g) (σ := σ) (H := H) hx h1 (ht := ht) (by omega) (by omega)
  simpa using this
theorem OpQ.slice_lh1 {x lo hi : Operand} {t e : Nat} {b o len cap i j : Nat} {k k' : IntKind} (hx : evalE env x = some (.slice (some ⟨b, o, none⟩) len cap)) (h1 : evalE env lo = some (.int k (i : Int))) (h2 : evalE env hi = some (.int k' (j : Int))) [ht : SliceT P t e 1]
    (hij : i ≤ j) (hj : j ≤ cap) (hlt : i < cap) : OpQ P ⟨dst, .slice t x (some lo) (some hi) none, ty, pos, af, g⟩ env σ H (.slice (some ⟨b, o + i, none⟩) (j - i) (cap - i)) := by
  have := OpQ.slice_lh (P := P) (dst := dst) (ty := ty) (pos := pos) (af := af) (g := g) (σ := σ) (H := H) hx h1 h2 (ht := ht) (by omega) (by omega) (by omega)
  rw [atOr_lt (by omega)] at this
  simpa using this
end
end Go.Sl
