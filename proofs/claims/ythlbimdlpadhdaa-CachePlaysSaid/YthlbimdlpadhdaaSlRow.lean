/-
  What was there at the call, as one chunk; what came in, read cell by cell; a law's row out of its contract. No program in sight.
-/
import Derived.Test.YthlbimdlpadhdaaSlWalk
import Derived.ProofKit
import Derived.OpenShut
import Derived.WideKeyArgs
import Derived.Deep.Slices
import Derived.SizedLaws
namespace Go.Sl
open Go
attribute [local semireducible] Ent EntL EntX OpTo Ctr pt OpQ OpU cl ar

/-- all that was there at the call -/
def old (W : World) : HP := fun h => h = fun b => W.heap[b]?
theorem St.start (W : World) : St (W.os, W.output) [old W] W := ⟨rfl, rfl, _, by simp only [stars, star_emp]; exact rfl, fun _ _ h => h⟩
structure Kept (W w : World) : Prop where
  os : w.os = W.os
  out : w.output = W.output
  block : ∀ (b : Nat) (o : Obj), W.heap[b]? = some o → w.heap[b]? = some o
theorem St.block {σ : Sig} {H R : List HP} {W w : World} (s : Sel (old W) H R) (h : St σ H w) : ∀ (b : Nat) (o : Obj), W.heap[b]? = some o → w.heap[b]? = some o := fun b o hb => by
  obtain ⟨x, hx, hs⟩ := h.mem
  rw [s.stars] at hx
  obtain ⟨h1, h2, _, rfl, e, _⟩ := hx
  refine hs b o ?_
  rw [old] at e
  subst e
  simp [join, hb]
theorem St.oldCell {σ : Sig} {H R : List HP} {W w : World} (s : Sel (old W) H R) (h : St σ H w) {a : Addr} {v : Value} (hv : W.cell? a = some v) : w.cell? a = some v := by
  unfold World.cell? at hv ⊢
  split at hv
  · rename_i c T fr hb
    rw [h.block s _ _ hb]
    exact hv
  · cases hv
theorem Kept.at {W w : World} (h : Kept W w) {b : Nat} (hb : b < W.heap.size) : w.heap[b]? = W.heap[b]? := by
  rw [Array.getElem?_eq_getElem hb]
  exact h.block b _ (Array.getElem?_eq_getElem hb)
theorem Kept.frame {W w : World} (h : Kept W w) (may : MemPlace → Prop) : W.keptBut w may := by
  refine ⟨h.os, h.out, fun i hi => ?_⟩
  rw [h.at hi]
  split <;> simp_all
theorem Kept.same {W w : World} (h : Kept W w) {p : MemPlace} (hp : p.block < W.heap.size) : W.sameAt w p := by
  cases p with
  | cell b o => exact World.cell?_of_block (w := W) (h.at hp)
  | map b => exact h.at hp
theorem Kept.trod {H : Type} {enc : TypeId × Value → H} {P : Program} {t : TypeId} (hl : laidOutB P = true) (hr : P.readableRec t = true) (hrow : t < P.types.size) {W w : World} {v : Value} {d : DataW H} {ps : List MemPlace}
    (h : DataW.Trod enc P W 0 (fun _ => true) true t v d ps) (hb : Kept W w) : DataW.Trod enc P w 0 (fun b => decide (b < W.heap.size)) true t v d ps := by
  have hlt : ∀ x ∈ ps, x.block < W.heap.size := by obtain ⟨m, hm⟩ := h; exact DataW.trod_lt m _ _ _ hm
  exact WideElems.Trod_stays hl hr hrow h (fun x hx => hb.same (hlt x hx)) (fun x hx => by simpa using hlt x hx)
theorem Ctr.kept {P : Program} {f : FuncId} {args : List Value} {W : World} {β : Sort _} {φ : β → Prop} {val : β → Value} {post : β → List HP → List HP} (hs : ∀ x, ∃ R, Sel (old W) (post x []) R)
    (h : Ctr P f args (fun R => old W :: R) φ val post) : Calls P f args.toArray W (fun e w => ∃ x, φ x ∧ e = .returned (val x) ∧ Kept W w) :=
  (h (W.os, W.output) [] W (St.start W)).mono fun _ _ ⟨x, hx, he, st⟩ => ⟨x, hx, he, st.os, st.out, st.block (hs x).choose_spec⟩
theorem Ctr.law {P : Program} {f : FuncId} {args : List Value} {W : World} (h : Ctr P f args (fun R => old W :: R) (fun _ : Unit => True) (fun _ => .bool true) (fun _ R => old W :: R)) :
    Calls P f args.toArray W (fun e w => e = .returned (.bool true) ∧ Kept W w) :=
  (h.kept (fun _ => ⟨_, .here⟩)).mono fun _ _ ⟨_, _, he, k⟩ => ⟨he, k⟩

section
variable {P : Program} {env : Env} {σ : Sig} {H : List HP} {dst : Option Tmp} {ty : TypeId} {pos : String} {af : Array Edge} {g : Option (Nat × Bool)}
/-! ### Reads at whatever address -/
theorem OpQ.indexAddrA {x y : Operand} {t e : TypeId} {a : Addr} {len cap sz : Nat} {k : IntKind} {i : Int} (hx : evalE env x = some (.slice (some a) len cap)) (hy : evalE env y = some (.int k i)) [ht : SliceT P t e sz]
    (h0 : 0 ≤ i) (h1 : i < len) :
    OpQ P ⟨dst, .indexAddr t x y, ty, pos, af, g⟩ env σ H (.pointer (some (a.add (i.toNat * sz)))) :=
  (fun ρ w hk _ => by
    obtain ⟨hu, j, hj, hs⟩ := sliceOf_spec ht.h
    simp [execOp, hk _ _ hx, hk _ _ hy, Instr.indexAt, asIntOf, run_underlying hu, h0, h1, sizeOf, typeInfo, hj, hs])
theorem OpQ.loadA {x : Operand} {t : TypeId} {a : Addr} {v : Value} (hx : evalE env x = some (.pointer (some a))) [ht : PlainT P t] (hc : ∀ w, St σ H w → w.cell? a = some v) :
    OpQ P ⟨dst, .load t x, ty, pos, af, g⟩ env σ H v :=
  (fun ρ w hk s => by
    have hc := hc w s
    obtain ⟨d, i, hd, hp, _⟩ := plainOf_spec ht.h
    simp [execOp, hk _ _ hx, Instr.loadAt, Instr.sureAddr, loadVar, run_isAgg hd, hp, hc])
theorem OpQ.load_aggA {x : Operand} {t : TypeId} {a : Addr} {k : Nat} {vs : List Value} (hx : evalE env x = some (.pointer (some a))) [ht : AggT P t k] (hlen : vs.length = k)
    (hc : ∀ w, St σ H w → ∀ j v, vs[j]? = some v → w.cell? (a.add j) = some v) :
    OpQ P ⟨dst, .load t x, ty, pos, af, g⟩ env σ H (.agg vs.toArray) :=
  (fun ρ w hk s => by
    obtain ⟨⟨d, hu, hp⟩, i, hi, hk'⟩ := aggSize_spec ht.h
    have hr := run_loadCells_list (P := P) w a vs (hc w s)
    rw [hlen] at hr
    simp [execOp, hk _ _ hx, Instr.loadAt, Instr.sureAddr, loadVar, run_isAgg hu, hp, sizeOf, typeInfo, hi, hk', hr])
theorem OpU.store_agg {x y : Operand} {t : TypeId} {b off k : Nat} {cs vs : List Value} {H' : List HP} (hx : evalE env x = some (.pointer (some ⟨b, off, none⟩))) (hy : evalE env y = some (.agg vs.toArray))
    [ht : AggT P t k] (h1 : vs.all (·.oneCell') = true) (h2 : vs.length = k) (u : Upd b H cs (splice cs off vs) H') (hl : Nat.ble (off + vs.length) cs.length = true) : OpU P ⟨dst, .store t x y, ty, pos, af, g⟩ env σ H undef H' := fun ρ w hk s => by
  have hl := Nat.le_of_ble_eq_true hl
  obtain ⟨⟨d, hu, hp⟩, i, hi, his⟩ := aggSize_spec ht.h
  have hst := run_storeCells_cells (P := P) b off vs 0 w (by simpa using u.blk.there_is s hl) (fun j hj => by simp only [Nat.add_zero]; exact u.blk.free s (by omega)) (fun v hv => by simpa using List.all_eq_true.1 h1 v hv)
  simp only [Nat.add_zero] at hst
  refine ⟨w.setCells b off vs, .inr ⟨?_, rfl⟩, u.setCells s (by simpa using hl)⟩
  simp [execOp, hk _ _ hx, hk _ _ hy, Instr.storeAt, Instr.sureAddr, storeVar, Value.cells, sizeOf, typeInfo, hi, his, h2, hst]
end

/-- a slice that came in: what its elements' cells hold -/
structure RowsAt (W : World) (a : Option Addr) (len sz : Nat) (X : Nat → List Value) : Prop where
  addr : ∀ i, i < len → ∃ p, a = some p
  size : ∀ i, i < len → (X i).length = sz
  cell : ∀ p, a = some p → ∀ i, i < len → ∀ j v, (X i)[j]? = some v → W.cell? ((p.add (i * sz)).add j) = some v
theorem rowsAt_of_trod {H : Type} {enc : TypeId × Value → H} {P : Program} {W : World} {sp : Nat → Bool} {hd : Bool} {t e : TypeId} {a : Option Addr} {len cap : Nat} {d : DataW H} {ps : List MemPlace} (ht : P.underlying t = some (.slice e))
    (h : DataW.Trod enc P W 0 sp hd t (.slice a len cap) d ps) : len ≤ maxLen ∧ ∃ X, RowsAt W a len (P.cellsOf e) X ∧ ∀ i, i < len → ∃ n x, DataW.trod enc P W 0 sp hd n e (X i) = some x := by
  obtain ⟨fuel, hf⟩ := h
  rcases Deep.open_slice ht hf with ⟨hcs, _⟩ | ⟨a', len', cap', m, n, D, Pl, hcs, _, hl, hm, hmm, _, hx⟩
  · simp [Value.cells] at hcs
    obtain ⟨rfl, rfl, rfl⟩ := hcs
    exact ⟨Nat.zero_le _, fun _ => [], ⟨fun i hi => by omega, fun i hi => by omega, fun p hp => by cases hp⟩, fun i hi => by omega⟩
  · simp [Value.cells] at hcs
    obtain ⟨rfl, rfl, rfl⟩ := hcs
    have hlm : len ≤ m := by rw [hmm]; split <;> omega
    have each : ∀ i, i < len → ∃ cs, W.cells? 0 (a'.add (i * P.cellsOf e)) (P.cellsOf e) = some cs ∧ DataW.trod enc P W 0 sp hd n e cs = some (D i, Pl i) := fun i hi => hx i (by omega)
    obtain ⟨X, hX⟩ := Deep.choose_lt each
    refine ⟨by omega, X, ⟨fun _ _ => ⟨_, rfl⟩, fun i hi => (World.cells?_some (hX i hi).1).2.1, ?_⟩, fun i hi => ⟨n, _, (hX i hi).2⟩⟩
    intro p hp i hi j v hv
    cases hp
    obtain ⟨_, h2, h3⟩ := World.cells?_some (hX i hi).1
    have hj : j < P.cellsOf e := by rw [← h2]; exact (List.getElem?_eq_some_iff.1 hv).1
    rw [h3 j hj, hv]
theorem RowsAt.st {W : World} {a : Addr} {len sz : Nat} {X : Nat → List Value} (h : RowsAt W (some a) len sz X) {σ : Sig} {H R : List HP} (s : Sel (old W) H R) {i : Nat} (hi : i < len) :
    ∀ w, St σ H w → ∀ j v, (X i)[j]? = some v → w.cell? ((a.add (i * sz)).add j) = some v := fun _ st j v hj => st.oldCell s (h.cell a rfl i hi j v hj)
end Go.Sl
