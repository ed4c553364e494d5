/-
  Arguments that came in, read part by part; the frame of a law's row. No program in sight.
-/
import Derived.Test.YthlbimdlpadhdaaSlOwn
import Derived.ChangeArms
import Derived.OpenShut
import Derived.ShutString
import Derived.ChangeOld
import Derived.RowKit
namespace Go.Sl
open Go Go.WideShapes Go.ChangeShapes

/-- these cells are read as one of this type -/
def Rd (P : Program) (W : World) (t : TypeId) (cs : List Value) : Prop :=
  ∃ (H : Type) (enc : TypeId × Value → H) (sp : Nat → Bool) (hd : Bool) (fuel : Nat) (x : DataW H × List MemPlace), DataW.trod enc P W 0 sp hd fuel t cs = some x
section
variable {P : Program} {W : World} {t : TypeId} {cs : List Value}
theorem Rd.of {H : Type} {enc : TypeId × Value → H} {sp : Nat → Bool} {hd : Bool} {v : Value} {d : DataW H} {ps : List MemPlace} (h : DataW.Trod enc P W 0 sp hd t v d ps) : Rd P W t v.cells.toList :=
  let ⟨fuel, hf⟩ := h; ⟨H, enc, sp, hd, fuel, _, hf⟩
theorem Rd.bool (h : Rd P W t cs) (ht : P.underlying t = some .bool) : ∃ b, cs = [.bool b] := by
  obtain ⟨H, enc, sp, hd, fuel, x, h⟩ := h
  obtain ⟨b, hb, _⟩ := DataW.trod_bool ht h
  exact ⟨b, hb⟩
theorem Rd.int {k : IntKind} (h : Rd P W t cs) (ht : P.underlying t = some (.int k)) : ∃ n, cs = [.int k n] ∧ (Lit.int k n).wf = true := by
  obtain ⟨H, enc, sp, hd, fuel, x, h⟩ := h
  obtain ⟨b, hb, _, hw⟩ := DataW.trod_int ht h
  exact ⟨b, hb, hw⟩
theorem Rd.string (h : Rd P W t cs) (ht : P.underlying t = some .string) : ∃ s : ByteArray, cs = [.string s] ∧ s.size ≤ maxLen := by
  obtain ⟨H, enc, sp, hd, fuel, x, h⟩ := h
  obtain ⟨b, hb, _, hw⟩ := DataW.trod_string ht h
  exact ⟨b, hb, hw⟩
theorem Rd.struct {fs : Array Field} (h : Rd P W t cs) (ht : P.underlying t = some (.struct fs)) : cs.length = P.cellsOf t ∧ ∀ (i : Nat) (f : Field), fs[i]? = some f → Rd P W f.type ((cs.drop f.offset).take (P.cellsOf f.type)) := by
  obtain ⟨H, enc, sp, hd, fuel, x, h⟩ := h
  obtain ⟨xs, n, _, _, hl, hx, hf⟩ := DataW.trod_struct ht h
  refine ⟨hl, fun i f hi => ?_⟩
  have hlt : i < xs.length := by rw [hx]; exact (Array.getElem?_eq_some_iff.1 hi).1
  exact ⟨H, enc, sp, hd, n, xs[i], by rw [hf i f hi, List.getElem?_eq_getElem hlt]⟩
theorem Rd.array {k : Nat} {e : TypeId} (h : Rd P W t cs) (ht : P.underlying t = some (.array k e)) : cs.length = P.cellsOf t ∧ ∀ i, i < k → Rd P W e ((cs.drop (i * P.cellsOf e)).take (P.cellsOf e)) := by
  obtain ⟨H, enc, sp, hd, fuel, x, h⟩ := h
  cases fuel with
  | zero => simp [DataW.trod] at h
  | succ n =>
    unfold DataW.trod at h
    rw [ht] at h
    dsimp only at h
    split at h
    · rename_i hlen
      obtain ⟨xs, hxs, _⟩ := Option.map_eq_some_iff.1 h
      refine ⟨hlen, fun i hi => ?_⟩
      have hl := mapM_some_length hxs
      have hg := mapM_some_get hxs i i (by simp [hi])
      have hlt : i < xs.length := by rw [hl]; simpa using hi
      exact ⟨H, enc, sp, hd, n, xs[i], by rw [hg, List.getElem?_eq_getElem hlt]⟩
    · cases h
theorem Rd.slice {e : TypeId} (h : Rd P W t cs) (ht : P.underlying t = some (.slice e)) : ∃ a len cap, cs = [.slice a len cap] ∧ len ≤ cap ∧ cap ≤ maxLen ∧ ∃ X, RowsAt W a len (P.cellsOf e) X ∧ ∀ i, i < len → Rd P W e (X i) := by
  obtain ⟨H, enc, sp, hd, fuel, x, h⟩ := h
  rcases DataW.trod_slice ht h with ⟨rfl, _⟩ | ⟨a, len, cap, elems, rest, n, _, rfl, _, _, hlc, hcm, hl, hx, _⟩
  · exact ⟨none, 0, 0, rfl, Nat.le_refl _, Nat.zero_le _, fun _ => [], ⟨fun i hi => by omega, fun i hi => by omega, fun p hp => by cases hp⟩, fun i hi => by omega⟩
  · have each : ∀ i, i < len → ∃ cs, W.cells? 0 (a.add (i * P.cellsOf e)) (P.cellsOf e) = some cs ∧ ∃ y, DataW.trod enc P W 0 sp hd n e cs = some y := fun i hi => by
      have := hx i hi
      rw [List.getElem?_eq_getElem (by omega)] at this
      obtain ⟨cs, h1, h2⟩ := Option.bind_eq_some_iff.1 this
      exact ⟨cs, h1, _, h2⟩
    obtain ⟨X, hX⟩ := Deep.choose_lt each
    refine ⟨_, _, _, rfl, hlc, hcm, X, ⟨fun _ _ => ⟨_, rfl⟩, fun i hi => (World.cells?_some (hX i hi).1).2.1, ?_⟩, fun i hi => let ⟨y, hy⟩ := (hX i hi).2; ⟨H, enc, sp, hd, n, y, hy⟩⟩
    intro p hp i hi j v hv
    cases hp
    obtain ⟨_, h2, h3⟩ := World.cells?_some (hX i hi).1
    have hj : j < P.cellsOf e := by rw [← h2]; exact (List.getElem?_eq_some_iff.1 hv).1
    rw [h3 j hj, hv]
def structF (P : Program) (t : TypeId) : Option (List (Nat × Nat × Nat)) :=
  match P.underlying t with
  | some (.struct fs) => some (fs.toList.map fun f => (f.offset, P.cellsOf f.type, f.type))
  | _ => none
class StructF (P : Program) (t : Nat) (l : outParam (List (Nat × Nat × Nat))) (n : outParam Nat) : Prop where h : structF P t = some l ∧ P.cellsOf t = n
theorem Rd.parts {l : List (Nat × Nat × Nat)} {n : Nat} (h : Rd P W t cs) [hs : StructF P t l n] : cs.length = n ∧ ∀ x ∈ l, Rd P W x.2.2 ((cs.drop x.1).take x.2.1) := by
  obtain ⟨h1, h2⟩ := hs.h
  unfold structF at h1
  split at h1
  · rename_i fs hu
    cases h1
    obtain ⟨hl, hf⟩ := h.struct hu
    refine ⟨hl.trans h2, fun x hx => ?_⟩
    obtain ⟨f, hf', rfl⟩ := List.mem_map.1 hx
    obtain ⟨i, hi⟩ := List.getElem?_of_mem hf'
    exact hf i f (by simpa using hi)
  · cases h1
theorem one_cell {cs : List Value} {off : Nat} {v : Value} (h : (cs.drop off).take 1 = [v]) : cs[off]? = some v := by
  have := congrArg (·[0]?) h
  simpa [List.getElem?_take, List.getElem?_drop] using this
theorem Rd.intAt {k : IntKind} {off : Nat} (h : Rd P W t ((cs.drop off).take 1)) (ht : P.underlying t = some (.int k)) : ∃ n, cs[off]? = some (.int k n) ∧ k.min ≤ n ∧ n ≤ k.max := by
  obtain ⟨n, e, w⟩ := h.int ht
  exact ⟨n, one_cell e, by simpa [Lit.wf] using w⟩
theorem Rd.boolAt {off : Nat} (h : Rd P W t ((cs.drop off).take 1)) (ht : P.underlying t = some .bool) : ∃ b, cs[off]? = some (.bool b) := by
  obtain ⟨n, e⟩ := h.bool ht
  exact ⟨n, one_cell e⟩
theorem Rd.stringAt {off : Nat} (h : Rd P W t ((cs.drop off).take 1)) (ht : P.underlying t = some .string) : ∃ s : ByteArray, cs[off]? = some (.string s) ∧ s.size ≤ maxLen := by
  obtain ⟨n, e, w⟩ := h.string ht
  exact ⟨n, one_cell e, w⟩
theorem Rd.sliceAt {e : TypeId} {off : Nat} (h : Rd P W t ((cs.drop off).take 1)) (ht : P.underlying t = some (.slice e)) : ∃ a len cap, cs[off]? = some (.slice a len cap) ∧ len ≤ cap ∧ cap ≤ maxLen ∧ ∃ X, RowsAt W a len (P.cellsOf e) X ∧ ∀ i, i < len → Rd P W e (X i) := by
  obtain ⟨a, len, cap, e, h⟩ := h.slice ht
  exact ⟨a, len, cap, one_cell e, h⟩
end

/-- all arguments, read -/
def RdAll (P : Program) (W : World) (base : Nat) : List TypeId → List Value → Prop
  | [], vs => vs = []
  | t :: ts, vs => ∃ v vs', vs = v :: vs' ∧ Rd P W t v.cells.toList ∧ Value.okWide P W .any base t v ∧ RdAll P W base ts vs'
theorem rdAll_of {H : Type} {enc : TypeId × Value → H} {P : Program} {W : World} {base : Nat} {sp : Nat → Bool} {hd : Bool} : ∀ {ts : List TypeId} {vs : List Value} {ds : List (DataW H)} {ps : List MemPlace},
    DataW.TrodAll enc P W 0 sp hd ts vs ds ps → (∀ (j : Nat) (t : TypeId) (v : Value), ts[j]? = some t → vs[j]? = some v → Value.okWide P W .any base t v) → RdAll P W base ts vs
  | [], vs, ds, ps, h, _ => (trodAll_nil h).1
  | t :: ts, vs, ds, ps, h, hv => by
    obtain ⟨v, vs', d, ds', p, q, rfl, rfl, rfl, h1, h2⟩ := trodAll_cons h
    exact ⟨v, vs', rfl, Rd.of h1, hv 0 t v rfl rfl, rdAll_of h2 (fun j t v h h' => hv (j + 1) t v (by simpa using h) (by simpa using h'))⟩
theorem trodAll_kept {H : Type} {enc : TypeId × Value → H} {P : Program} (hl : laidOutB P = true) {W w : World} (hk : Kept W w) : ∀ {ts : List TypeId} {vs : List Value} {ds : List (DataW H)} {ps : List MemPlace},
    (ts.all fun t => P.readableRec t && decide (t < P.types.size)) = true → DataW.TrodAll enc P W 0 (fun _ => true) true ts vs ds ps → DataW.TrodAll enc P w 0 (fun b => decide (b < W.heap.size)) true ts vs ds ps
  | [], vs, ds, ps, _, h => by
    obtain ⟨rfl, rfl, rfl⟩ := trodAll_nil h
    exact trodAll_mk0
  | t :: ts, vs, ds, ps, ha, h => by
    obtain ⟨v, vs', d, ds', p, q, rfl, rfl, rfl, h1, h2⟩ := trodAll_cons h
    simp only [List.all_cons, Bool.and_eq_true, decide_eq_true_eq] at ha
    exact ⟨p, q, Kept.trod hl ha.1.1 ha.1.2 h1 hk, trodAll_kept hl hk (by simpa using ha.2) h2, rfl⟩
/-- a law's contract, whatever comes in -/
def LawCalls (P : Program) (f : FuncId) (ts : List TypeId) : Prop :=
  ∀ W base vs, RdAll P W base ts vs → Calls P f vs.toArray W fun e w => e = .returned (.bool true) ∧ Kept W w
end Go.Sl
