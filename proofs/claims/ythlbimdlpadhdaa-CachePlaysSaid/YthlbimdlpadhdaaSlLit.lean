/-
  Literals of structs and slices, make, copy, clear, bytes as text. No program in sight.
-/
import Derived.Test.YthlbimdlpadhdaaSlMap
namespace Go.Sl
open Go
attribute [local semireducible] Ent EntL EntX OpTo Ctr pt OpQ OpU cl ar

section
variable {P : Program} {Q : Exit → Act → World → Prop} {n : Nat} {env : Env} {σ : Sig} {H : List HP} {ops : Array Oper} {l : List Oper}
variable {dst : Option Tmp} {ty : TypeId} {pos : String} {af : Array Edge} {g : Option (Nat × Bool)}

inductive Parts (env : Env) : List (Nat × Operand) → List (Nat × Value) → Prop
  | nil : Parts env [] []
  | cons {i : Nat} {x : Operand} {v : Value} {xs : List (Nat × Operand)} {vs : List (Nat × Value)} : evalE env x = some v → Parts env xs vs → Parts env ((i, x) :: xs) ((i, v) :: vs)
theorem Parts.known {xs : List (Nat × Operand)} {vs : List (Nat × Value)} {ρ : Operand → Value} (h : Parts env xs vs) (hk : Known env ρ) : xs.map (fun p => (p.1, ρ p.2)) = vs := by
  induction h with
  | nil => rfl
  | cons hx _ ih => simp [hk _ _ hx, ih]

/-- the cells of a value, written out -/
class CellsOf (v : Value) (l : outParam (List Value)) : Prop where h : v.cells = l.toArray
instance {cs : List Value} : CellsOf (.agg cs.toArray) cs := ⟨rfl⟩
instance {k : IntKind} {a : Int} : CellsOf (.int k a) [.int k a] := ⟨rfl⟩
instance {b : Bool} : CellsOf (.bool b) [.bool b] := ⟨rfl⟩
instance {s : ByteArray} : CellsOf (.string s) [.string s] := ⟨rfl⟩
instance {a : Option Addr} : CellsOf (.pointer a) [.pointer a] := ⟨rfl⟩
instance {a : Option Addr} {m c : Nat} : CellsOf (.slice a m c) [.slice a m c] := ⟨rfl⟩
instance {a : Option Nat} : CellsOf (.map a) [.map a] := ⟨rfl⟩
instance {f : Fn} {a b : Array Value} : CellsOf (.func f a b) [.func f a b] := ⟨rfl⟩
instance : CellsOf .nilFunc [.nilFunc] := ⟨rfl⟩
instance {t : TypeId} {v : Value} : CellsOf (.iface t v) [.iface t v] := ⟨rfl⟩
instance : CellsOf .nilIface [.nilIface] := ⟨rfl⟩

/-- a row with some cells laid over others, written out -/
class Over (cs : List Value) (o : Nat) (vs : List Value) (cs' : outParam (List Value)) : Prop where h : splice cs o vs = cs' ∧ o + vs.length ≤ cs.length
instance Over.nil {cs : List Value} : Over cs 0 [] cs := ⟨by simp [splice]⟩
instance Over.zero {c v : Value} {cs vs cs' : List Value} [h : Over cs 0 vs cs'] : Over (c :: cs) 0 (v :: vs) (v :: cs') := ⟨by
  have := h.h
  simp [splice] at this ⊢
  exact ⟨this.1, by omega⟩⟩
instance Over.succ {c : Value} {cs vs cs' : List Value} {o : Nat} [h : Over cs o vs cs'] : Over (c :: cs) (o + 1) vs (c :: cs') := ⟨by
  have := h.h
  refine ⟨?_, by simp; omega⟩
  rw [← this.1]
  simp [splice]
  rw [show o + 1 + vs.length = (o + vs.length) + 1 by omega, List.drop_succ_cons]⟩

class Nth (l : List (Nat × Nat)) (i : Nat) (o k : outParam Nat) : Prop where h : l[i]? = some (o, k)
instance {o k : Nat} {l : List (Nat × Nat)} : Nth ((o, k) :: l) 0 o k := ⟨rfl⟩
instance {p : Nat × Nat} {l : List (Nat × Nat)} {i o k : Nat} [h : Nth l i o k] : Nth (p :: l) (i + 1) o k := ⟨by simpa using h.h⟩

class Fill (pl : List (Nat × Nat)) (cs : List Value) (vs : List (Nat × Value)) (cs' : outParam (List Value)) : Prop where h : Instr.fill (fun i => pl[i]?) cs.toArray vs = some cs'.toArray
instance Fill.nil {pl : List (Nat × Nat)} {cs : List Value} : Fill pl cs [] cs := ⟨rfl⟩
theorem foldl_splice : ∀ (vs : List Value) (cs : List Value) (o k : Nat), o + k + vs.length ≤ cs.length →
    (vs.zipIdx k).foldl (fun (a : Array Value) (p : Value × Nat) => a.setIfInBounds (o + p.2) p.1) cs.toArray = (splice cs (o + k) vs).toArray
  | [], cs, o, k, _ => by simp [splice]
  | v :: vs, cs, o, k, h => by
    have h' : o + k + (vs.length + 1) ≤ cs.length := by simpa using h
    simp only [List.zipIdx_cons, List.foldl_cons]
    have e : cs.toArray.setIfInBounds (o + k) v = (cs.set (o + k) v).toArray := by simp
    rw [e, foldl_splice vs (cs.set (o + k) v) o (k + 1) (by simp; omega), show o + (k + 1) = o + k + 1 by omega, splice_cons _ _ _ _ h']
theorem fill_one {pl : List (Nat × Nat)} {cs vs : List Value} {v : Value} {i o k : Nat} {rest : List (Nat × Value)} (hn : pl[i]? = some (o, k)) (hv : v.cells = vs.toArray) (hk : vs.length = k) (hl : o + vs.length ≤ cs.length) :
    Instr.fill (fun i => pl[i]?) cs.toArray ((i, v) :: rest) = Instr.fill (fun i => pl[i]?) (splice cs o vs).toArray rest := by
  have hz : v.cells.zipIdx.foldl (fun (a : Array Value) (p : Value × Nat) => a.setIfInBounds (o + p.2) p.1) cs.toArray = (splice cs o vs).toArray := by
    have := foldl_splice vs cs o 0 (by simpa using hl)
    rw [hv]
    simpa using this
  simp only [Instr.fill, hn]
  rw [if_neg (by rw [hv]; simp [hk]; omega)]
  rw [← hz]
class Len (l : List Value) (k : outParam Nat) : Prop where h : l.length = k
instance : Len [] 0 := ⟨rfl⟩
instance {v : Value} {l : List Value} {k : Nat} [h : Len l k] : Len (v :: l) (k + 1) := ⟨by simp [h.h]⟩
instance Fill.cons {pl : List (Nat × Nat)} {cs vs cs1 cs' : List Value} {v : Value} {i o k : Nat} {rest : List (Nat × Value)} [hn : Nth pl i o k] [hv : CellsOf v vs] [hk : Len vs k] [ho : Over cs o vs cs1] [hr : Fill pl cs1 rest cs'] : Fill pl cs ((i, v) :: rest) cs' := ⟨by
  rw [fill_one hn.h hv.h hk.h ho.h.2, ho.h.1]
  exact hr.h⟩

theorem run_mapM_fields {fs : List Field} (h : ∀ f ∈ fs, (P.info? f.type).isSome = true) (w : World) : (fs.mapM (m := Sem) fun f => do pure (f.offset, ← sizeOf f.type)).run P w = .ok (fs.map fun f => (f.offset, P.cellsOf f.type)) w := by
  induction fs with
  | nil => simp
  | cons f fs ih =>
    have hf := h f (by simp)
    have := ih (fun f' hf' => h f' (by simp [hf']))
    cases hi : P.info? f.type with
    | none => simp [hi] at hf
    | some i =>
      have h1 : (sizeOf f.type).run P w = .ok (P.cellsOf f.type) w := by simp [sizeOf, typeInfo, hi, Program.cellsOf]
      simp only [List.mapM_cons, Sem.run_bind, h1, Result.andThen_ok, Sem.run_pure, this, List.map_cons]
theorem OpQ.build {t : Nat} {xs : List (Nat × Operand)} {vs : List (Nat × Value)} {pl : List (Nat × Nat)} {z cs : List Value} [ht : StructT P t pl] [hz : ZeroT P t (.agg z.toArray)] (hv : Parts env xs vs) (hf : Fill pl z vs cs) :
    OpQ P ⟨dst, .build t xs.toArray, ty, pos, af, g⟩ env σ H (.agg cs.toArray) := fun ρ w hk _ => by
  have h := ht.h
  unfold structOf at h
  split at h <;> try cases h
  rename_i fs hu
  split at h <;> try cases h
  rename_i hall
  have hzv : (zeroValue t).run P w = .ok (.agg z.toArray) w := by
    have := hz.h
    cases h : P.info? t with
    | none => simp [h] at this
    | some i => simp [h] at this; simp [zeroValue, typeInfo, h, this]
  have hm : (fs.mapM (m := Sem) fun f => do pure (f.offset, ← sizeOf f.type)).run P w = .ok (fs.toList.map fun f => (f.offset, P.cellsOf f.type)).toArray w := by
    rw [Array.mapM_eq_mapM_toList, Sem.run_map, run_mapM_fields (fun f hf => by simpa using (List.all_eq_true.1 hall) f hf)]
    rfl
  have hfill := hf.h
  simp only [execOp, Instr.build, Sem.run_bind, hzv, Result.andThen_ok, run_underlying hu, hm]
  have e : (xs.toArray.map fun (p : Nat × Operand) => (p.1, ρ p.2)).toList = vs := by simp [← hv.known hk]
  have e2 : (fun (i : Nat) => ((fs.toList.map fun f => (f.offset, P.cellsOf f.type)).toArray)[i]?) = fun (i : Nat) => (fs.toList.map fun f => (f.offset, P.cellsOf f.type))[i]? := by funext i; simp
  simp only [Value.cells, e2]
  rw [show (Array.map (fun x => (x.fst, ρ x.snd)) xs.toArray).toList = vs from e]
  rw [hfill]
  rfl

/-! ### Literals of slices -/
class App (a b : List Value) (c : outParam (List Value)) : Prop where h : a ++ b = c
instance {b : List Value} : App [] b b := ⟨rfl⟩
instance {x : Value} {a b c : List Value} [h : App a b c] : App (x :: a) b (x :: c) := ⟨by simp [h.h]⟩
class Flat (k sz : Nat) (vs : List (Nat × Value)) (cs : outParam (List Value)) : Prop where
  h : ∀ A : List Value, A.length = (k + vs.length) * sz → Instr.fill (fun i => some (i * sz, sz)) A.toArray vs = some (A.take (k * sz) ++ cs).toArray
instance Flat.nil {k sz : Nat} : Flat k sz [] [] := ⟨fun A hA => by
  have : A.take (k * sz) = A := List.take_of_length_le (by simp at hA; omega)
  simp [Instr.fill, this]⟩
instance Flat.cons {k sz : Nat} {v : Value} {l cs cs' : List Value} {rest : List (Nat × Value)} [hv : CellsOf v l] [hl : Len l sz] [hr : Flat (k + 1) sz rest cs] [ha : App l cs cs'] : Flat k sz ((k, v) :: rest) cs' := ⟨fun A hA => by
  have hlen : l.length = sz := hl.h
  have hA' : A.length = (k + 1 + rest.length) * sz := by rw [hA, List.length_cons]; congr 1; omega
  have hle : k * sz + sz ≤ A.length := by
    rw [hA', show k * sz + sz = (k + 1) * sz by rw [Nat.add_mul, Nat.one_mul]]
    exact Nat.mul_le_mul_right _ (by omega)
  have hz : v.cells.zipIdx.foldl (fun (a : Array Value) (p : Value × Nat) => a.setIfInBounds (k * sz + p.2) p.1) A.toArray = (splice A (k * sz) l).toArray := by
    have := foldl_splice l A (k * sz) 0 (by simp [hlen]; omega)
    rw [hv.h]
    simpa using this
  simp only [Instr.fill]
  rw [if_neg (by rw [hv.h]; simp [hlen]; omega)]
  have := hr.h (splice A (k * sz) l) (by rw [splice_length (by rw [hlen]; exact hle), hA'])
  rw [hz, this, ← ha.h]
  congr 2
  have e1 : (splice A (k * sz) l).take ((k + 1) * sz) = A.take (k * sz) ++ l := by
    have : (A.take (k * sz) ++ l).length = (k + 1) * sz := by simp [hlen, Nat.add_mul]; omega
    rw [splice, List.append_assoc, ← List.append_assoc, List.take_append_of_le_length (by omega), List.take_of_length_le (by omega)]
  rw [e1, List.append_assoc]⟩
theorem OpTo.buildSlice {t e sz k : Nat} {xs : List (Nat × Operand)} {vs : List (Nat × Value)} {cs : List Value} {z : Value} [ht : SliceT P t e sz] [hz : ZeroT P e z] (hv : Parts env xs vs) (hsz : Nat.blt 0 sz = true) (hlen : vs.length = k) (hf : Flat 0 sz vs cs) (hk : Nat.ble (k * sz) 16777216 = true) :
    OpTo P ⟨dst, .buildSlice t k xs.toArray, ty, pos, af, g⟩ env σ H (fun _ : Nat => True) (fun b => .slice (some ⟨b, 0, none⟩) k k) (fun b => cl b cs :: H) := fun ρ w hkn s => by
  obtain ⟨hu, i, hi, his⟩ := sliceOf_spec ht.h
  have hzi : i.zero = some z := by have := hz.h; simpa [hi] using this
  have hk := Nat.le_of_ble_eq_true hk
  have hsz := Nat.le_of_ble_eq_true hsz
  refine ⟨w.heap.size, w.alloc (.cells cs.toArray e), trivial, .inl ?_, s.newRow e cs⟩
  have e1 : (Array.map (fun x => (x.fst, ρ x.snd)) xs.toArray).toList = vs := by simp [← hv.known hkn]
  have hzv : (zeroValue e).run P w = .ok z w := by simp [zeroValue, typeInfo, hi, hzi]
  have hfill := hf.h ((Array.range (k * sz)).map (z.cells[· % z.cells.size]!)).toList (by simp [hlen])
  simp only [Nat.zero_mul, List.take_zero, List.nil_append, Array.toArray_toList] at hfill
  have hgt : ¬ (k * sz > 2 ^ 24) := by omega
  simp only [execOp, Instr.buildSlice, Sem.run_bind, run_underlying hu, Result.andThen_ok, sizeOf, typeInfo, run_program, hi, Sem.run_pure, his]
  rw [if_neg hgt]
  by_cases h0 : k * sz = 0
  · have hvs : vs = [] := by
      have : k = 0 := by rcases Nat.mul_eq_zero.1 h0 with h | h <;> omega
      rw [this] at hlen
      exact List.eq_nil_of_length_eq_zero hlen
    rw [if_pos h0]
    rw [h0] at hfill
    simp only [e1, h0]
    rw [hvs] at hfill ⊢
    have e0 : Array.range 0 = #[] := rfl
    rw [e0] at hfill ⊢
    have hcs : cs = [] := by
      have := congrArg Array.toList (Option.some.inj hfill)
      simpa using this.symm
    subst hcs
    simp [Instr.fill, newRow]
  · rw [if_neg h0]
    simp only [Sem.run_bind, hzv, Result.andThen_ok, Sem.run_pure, e1, hfill]
    simp [newRow]
end
end Go.Sl
