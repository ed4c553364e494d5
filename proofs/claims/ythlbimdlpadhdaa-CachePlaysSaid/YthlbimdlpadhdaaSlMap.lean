/-
  Maps with int keys, as lists of pairs in the order in which they came. No program in sight.
-/
import Derived.Test.YthlbimdlpadhdaaSlDraw
namespace Go.Sl
open Go
attribute [local semireducible] Ent EntL EntX OpTo Ctr pt OpQ OpU cl ar

section
variable {P : Program} {Q : Exit → Act → World → Prop} {n : Nat} {env : Env} {σ : Sig} {H : List HP} {ops : Array Oper} {l : List Oper}
variable {dst : Option Tmp} {ty : TypeId} {pos : String} {af : Array Edge} {g : Option (Nat × Bool)}

abbrev KV := List (Int × Value)
def kvGet : KV → Int → Option Value
  | [], _ => none
  | (a, v) :: l, k => if a = k then some v else kvGet l k
def kvSet : KV → Int → Value → KV
  | [], k, v => [(k, v)]
  | (a, u) :: l, k, v => if a = k then (a, v) :: l else (a, u) :: kvSet l k v
def kvDel : KV → Int → KV
  | [], _ => []
  | (a, u) :: l, k => if a = k then l else (a, u) :: kvDel l k

theorem kvGet_none {kv : KV} {k : Int} : kvGet kv k = none ↔ k ∉ kv.map Prod.fst := by
  induction kv with
  | nil => simp [kvGet]
  | cons p l ih =>
    obtain ⟨a, v⟩ := p
    by_cases h : a = k
    · simp [kvGet, h]
    · simp only [kvGet, h, if_false, ih, List.map_cons, List.mem_cons, not_or]
      exact ⟨fun h' => ⟨fun e => h e.symm, h'⟩, fun h' => h'.2⟩
theorem kvGet_set_self (kv : KV) (k : Int) (v : Value) : kvGet (kvSet kv k v) k = some v := by
  induction kv with
  | nil => simp [kvSet, kvGet]
  | cons p l ih =>
    obtain ⟨a, u⟩ := p
    by_cases h : a = k <;> simp [kvSet, kvGet, h, ih]
theorem kvGet_set_ne {kv : KV} {k k' : Int} {v : Value} (hk : k ≠ k') : kvGet (kvSet kv k v) k' = kvGet kv k' := by
  induction kv with
  | nil => simp [kvSet, kvGet, hk]
  | cons p l ih =>
    obtain ⟨a, u⟩ := p
    by_cases h : a = k
    · subst h; simp [kvSet, kvGet, hk]
    · simp only [kvSet, h, if_false, kvGet, ih]
theorem kvGet_del_ne {kv : KV} {k k' : Int} (hk : k ≠ k') : kvGet (kvDel kv k) k' = kvGet kv k' := by
  induction kv with
  | nil => simp [kvDel, kvGet]
  | cons p l ih =>
    obtain ⟨a, u⟩ := p
    by_cases h : a = k
    · subst h; simp [kvDel, kvGet, hk]
    · simp only [kvDel, h, if_false, kvGet, ih]
theorem keys_del {kv : KV} {k : Int} : (kvDel kv k).map Prod.fst = (kv.map Prod.fst).erase k := by
  induction kv with
  | nil => rfl
  | cons p l ih =>
    obtain ⟨a, u⟩ := p
    by_cases h : a = k
    · subst h; simp [kvDel]
    · simp [kvDel, h, ih]
theorem nodup_del {kv : KV} {k : Int} (h : (kv.map Prod.fst).Nodup) : ((kvDel kv k).map Prod.fst).Nodup := by rw [keys_del]; exact h.erase _
theorem kvGet_del_self {kv : KV} {k : Int} (h : (kv.map Prod.fst).Nodup) : kvGet (kvDel kv k) k = none := by
  rw [kvGet_none, keys_del]
  exact h.not_mem_erase
theorem mem_keys_set {kv : KV} {k k' : Int} {v : Value} : k' ∈ (kvSet kv k v).map Prod.fst ↔ k' = k ∨ k' ∈ kv.map Prod.fst := by
  induction kv with
  | nil => simp [kvSet]
  | cons p l ih =>
    obtain ⟨a, u⟩ := p
    by_cases h : a = k
    · subst h; simp [kvSet]
    · simp only [kvSet, h, if_false, List.map_cons, List.mem_cons, ih]
      constructor <;> (rintro (h | h | h) <;> simp [h])
theorem nodup_set {kv : KV} {k : Int} {v : Value} (h : (kv.map Prod.fst).Nodup) : ((kvSet kv k v).map Prod.fst).Nodup := by
  induction kv with
  | nil => simp [kvSet]
  | cons p l ih =>
    obtain ⟨a, u⟩ := p
    simp only [List.map_cons, List.nodup_cons] at h
    by_cases ha : a = k
    · subst ha; simp only [kvSet, if_true, List.map_cons, List.nodup_cons]; exact h
    · have e : kvSet ((a, u) :: l) k v = (a, u) :: kvSet l k v := by simp [kvSet, ha]
      rw [e, List.map_cons, List.nodup_cons, mem_keys_set]
      refine ⟨fun h' => ?_, ih h.2⟩
      rcases h' with h' | h'
      · exact ha h'
      · exact h.1 h'

/-- What a map's entries are: the pairs, in order; each born behind those before it. -/
structure MapIs (kv : KV) (es : Array MapEntry) (clock : Nat) : Prop where
  pairs : es.toList.map (fun e => (e.key, e.val)) = kv.map (fun p => (Value.int .i64 p.1, p.2))
  born : (es.toList.map (·.born)).Pairwise (· < ·)
  old : ∀ e ∈ es.toList, e.born < clock
def mpi (b : Nat) (kv : KV) : HP := fun h => ∃ es clock, MapIs kv es clock ∧ pt b (.map es clock) h

theorem St.open_mpi {b : Nat} {kv : KV} {R : List HP} {w : World} (s : Sel (mpi b kv) H R) (h : St σ H w) : ∃ es clock, MapIs kv es clock ∧ St σ (pt b (.map es clock) :: R) w := by
  obtain ⟨x, hx, hs⟩ := h.mem
  rw [s.stars] at hx
  obtain ⟨h1, h2, hd, rfl, ⟨es, clock, hm, hp⟩, a⟩ := hx
  exact ⟨es, clock, hm, h.os, h.out, _, ⟨h1, h2, hd, rfl, hp, a⟩, hs⟩
theorem St.shut_mpi {b clock : Nat} {es : Array MapEntry} {kv : KV} {w : World} (hm : MapIs kv es clock) (h : St σ (pt b (.map es clock) :: H) w) : St σ (mpi b kv :: H) w := by
  obtain ⟨x, ⟨h1, h2, hd, rfl, hp, a⟩, s⟩ := h.mem
  exact ⟨h.os, h.out, _, ⟨h1, h2, hd, rfl, ⟨es, clock, hm, hp⟩, a⟩, s⟩

theorem MapIs.nil : MapIs [] #[] 0 := ⟨rfl, by simp, by simp⟩
theorem MapIs.size {kv : KV} {es : Array MapEntry} {clock : Nat} (h : MapIs kv es clock) : es.size = kv.length := by
  have := congrArg List.length h.pairs
  simpa using this

theorem findNow_int (K : IntKind) (k : Int) : ∀ (es : List MapEntry) (kv : KV) (i : Nat), es.map (fun e => (e.key, e.val)) = kv.map (fun p => (Value.int .i64 p.1, p.2)) →
    (kvGet kv k = none ∧ Instr.findNow (.int K) (.int .i64 k) es i = some none ∧ (∀ v, kvSet kv k v = kv ++ [(k, v)]) ∧ kvDel kv k = kv) ∨
    ∃ j e, Instr.findNow (.int K) (.int .i64 k) es i = some (some (i + j, e.val)) ∧ es[j]? = some e ∧ e.key = .int .i64 k ∧ kvGet kv k = some e.val ∧ (∀ v, kvSet kv k v = kv.set j (k, v)) ∧ kvDel kv k = kv.eraseIdx j
  | [], [], i, _ => .inl ⟨rfl, rfl, fun _ => rfl, rfl⟩
  | [], _ :: _, _, h => by simp at h
  | _ :: _, [], _, h => by simp at h
  | e :: es, (a, u) :: kv, i, h => by
    simp only [List.map_cons, List.cons.injEq, Prod.mk.injEq] at h
    obtain ⟨⟨hk, hv⟩, ht⟩ := h
    by_cases ha : a = k
    · subst ha
      refine .inr ⟨0, e, ?_, rfl, hk, by simp [kvGet, hv], fun v => by simp [kvSet], by simp [kvDel]⟩
      simp [Instr.findNow, hk, Instr.sameNow]
    · have hs : Instr.sameNow (.int K) (.int .i64 k) e.key = some false := by
        rw [hk]; simp [Instr.sameNow]; exact fun h => ha h.symm
      rcases findNow_int K k es kv (i + 1) ht with ⟨h1, h2, h3, h4⟩ | ⟨j, e', h1, h2, h3, h4, h5, h6⟩
      · exact .inl ⟨by simp [kvGet, ha, h1], by simp [Instr.findNow, hs, h2], fun v => by simp [kvSet, ha, h3], by simp [kvDel, ha, h4]⟩
      · refine .inr ⟨j + 1, e', ?_, by simpa using h2, h3, by simp [kvGet, ha, h4], fun v => by simp [kvSet, ha, h5], by simp [kvDel, ha, h6]⟩
        simp only [Instr.findNow, hs, h1]
        rw [show i + 1 + j = i + (j + 1) by omega]

theorem run_checkKey_int {t : TypeId} {K : IntKind} (ht : P.underlying t = some (.int K)) (b : Bool) (k : Int) (w : World) : (Instr.checkKey b 10000 t (.int .i64 k)).run P w = .ok () w := by
  have : ∀ d, (Instr.checkKey b (d + 1) t (.int .i64 k)).run P w = .ok () w := fun d => by simp [Instr.checkKey, run_underlying ht]
  exact this 9999
theorem run_getObj_map' {w : World} {b : Nat} {es : Array MapEntry} {clock : Nat} (h : w.heap[b]? = some (.map es clock)) : (getObj b).run P w = .ok (.map es clock) w := by
  simp [getObj, Sem.run, h]
theorem run_setObj_map' {w : World} {b : Nat} {es : Array MapEntry} {clock : Nat} (h : w.heap[b]? = some (.map es clock)) (o : Obj) : (setObj b o).run P w = .ok () { w with heap := w.heap.setIfInBounds b o } := by
  simp [setObj, Sem.run, h]
theorem St.setMap {b clock : Nat} {es : Array MapEntry} {o : Obj} {R : List HP} {w : World} (h : St σ (pt b (.map es clock) :: R) w) : St σ (pt b o :: R) { w with heap := w.heap.setIfInBounds b o } := by
  have hb := St.at .here h
  have hlt : b < w.heap.size := (Array.getElem?_eq_some_iff.1 hb).1
  refine St.set .here h rfl rfl ?_ (fun k hk => ?_)
  · show (w.heap.setIfInBounds b o)[b]? = _
    simp [hlt]
  · show (w.heap.setIfInBounds b o)[k]? = _
    rw [Array.getElem?_setIfInBounds, if_neg (fun e => hk e.symm)]

theorem OpTo.makeMap {t : TypeId} : OpTo P ⟨dst, .makeMap t none, ty, pos, af, g⟩ env σ H (fun _ : Nat => True) (fun b => .map (some b)) (fun b => mpi b [] :: H) := fun ρ w hk s =>
  ⟨w.heap.size, w.alloc (.map #[] 0), trivial, .inl (by simp [execOp, Instr.makeMap]), (s.alloc (o := .map #[] 0)).shut_mpi MapIs.nil⟩

theorem OpQ.lookup {x y : Operand} {t kt e b : Nat} {k : Int} {kv : KV} {R : List HP} {z : Value} (hx : evalE env x = some (.map (some b))) (hy : evalE env y = some (.int .i64 k)) [ht : MapT P t kt e] [hk : IntT P kt .i64] [hz : ZeroT P e z] (s : Sel (mpi b kv) H R) :
    OpQ P ⟨dst, .lookup t x y false, ty, pos, af, g⟩ env σ H ((kvGet kv k).getD z) := fun ρ w hkn st => by
  obtain ⟨es, clock, hm, st'⟩ := st.open_mpi s
  have hb := run_getObj_map' (P := P) (St.at .here st')
  have hzv : (zeroValue e).run P w = .ok z w := by
    have := hz.h
    cases h : P.info? e with
    | none => simp [h] at this
    | some i => simp [h] at this; simp [zeroValue, typeInfo, h, this]
  rcases findNow_int .i64 k es.toList kv 0 hm.pairs with ⟨h1, h2, _⟩ | ⟨j, e', h1, _, _, h4, _⟩
  · simp [execOp, hkn _ _ hx, hkn _ _ hy, Instr.lookup, run_underlying ht.h, hb, run_checkKey_int hk.h, Instr.findKey, run_underlying hk.h, h2, h1, hzv]
  · simp [execOp, hkn _ _ hx, hkn _ _ hy, Instr.lookup, run_underlying ht.h, hb, run_checkKey_int hk.h, Instr.findKey, run_underlying hk.h, h1, h4]
theorem OpQ.lookup_ok {x y : Operand} {t kt e b : Nat} {k : Int} {kv : KV} {R : List HP} {z : Value} (hx : evalE env x = some (.map (some b))) (hy : evalE env y = some (.int .i64 k)) [ht : MapT P t kt e] [hk : IntT P kt .i64] [hz : ZeroT P e z] (s : Sel (mpi b kv) H R) :
    OpQ P ⟨dst, .lookup t x y true, ty, pos, af, g⟩ env σ H (.tuple #[(kvGet kv k).getD z, .bool (kvGet kv k).isSome]) := fun ρ w hkn st => by
  obtain ⟨es, clock, hm, st'⟩ := st.open_mpi s
  have hb := run_getObj_map' (P := P) (St.at .here st')
  have hzv : (zeroValue e).run P w = .ok z w := by
    have := hz.h
    cases h : P.info? e with
    | none => simp [h] at this
    | some i => simp [h] at this; simp [zeroValue, typeInfo, h, this]
  rcases findNow_int .i64 k es.toList kv 0 hm.pairs with ⟨h1, h2, _⟩ | ⟨j, e', h1, _, _, h4, _⟩
  · simp [execOp, hkn _ _ hx, hkn _ _ hy, Instr.lookup, run_underlying ht.h, hb, run_checkKey_int hk.h, Instr.findKey, run_underlying hk.h, h2, h1, hzv]
  · simp [execOp, hkn _ _ hx, hkn _ _ hy, Instr.lookup, run_underlying ht.h, hb, run_checkKey_int hk.h, Instr.findKey, run_underlying hk.h, h1, h4]

theorem MapIs.set {kv : KV} {es : Array MapEntry} {clock j : Nat} {e : MapEntry} {k : Int} (h : MapIs kv es clock) (he : es.toList[j]? = some e) (v : Value) :
    MapIs (kv.set j (k, v)) (es.modify j fun e => { e with key := .int .i64 k, val := v }) clock := by
  have hl : j < es.toList.length := (List.getElem?_eq_some_iff.1 he).1
  have e1 : (es.modify j fun e => { e with key := .int .i64 k, val := v }).toList = es.toList.modify j (fun e => { e with key := .int .i64 k, val := v }) := by simp
  refine ⟨?_, ?_, ?_⟩
  · rw [e1]
    apply List.ext_getElem?
    intro i
    have hp := congrArg (·[i]?) h.pairs
    simp only [List.getElem?_map] at hp
    simp only [List.getElem?_map, List.getElem?_modify, List.getElem?_set]
    by_cases hij : j = i
    · subst hij
      have hkl : j < kv.length := by have := h.size; simpa [this] using hl
      simp [he, hkl]
    · simp [hij]
      simpa using hp
  · rw [e1]
    have : (es.toList.modify j fun e => { e with key := .int .i64 k, val := v }).map (·.born) = es.toList.map (·.born) := by
      apply List.ext_getElem?
      intro i
      simp only [List.getElem?_map, List.getElem?_modify]
      split <;> cases es.toList[i]? <;> simp
    rw [this]
    exact h.born
  · intro x hx
    rw [e1] at hx
    obtain ⟨i, hi⟩ := List.mem_iff_getElem?.1 hx
    rw [List.getElem?_modify] at hi
    cases hh : es.toList[i]? with
    | none => simp [hh] at hi
    | some y =>
      simp [hh] at hi
      have := h.old y (List.mem_of_getElem? hh)
      split at hi <;> (subst hi; exact this)
theorem MapIs.push {kv : KV} {es : Array MapEntry} {clock : Nat} (h : MapIs kv es clock) (k : Int) (v : Value) : MapIs (kv ++ [(k, v)]) (es.push ⟨.int .i64 k, v, clock⟩) (clock + 1) := by
  refine ⟨by simp [h.pairs], ?_, ?_⟩
  · simp only [Array.toList_push, List.map_append, List.map_cons, List.map_nil]
    rw [List.pairwise_append]
    refine ⟨h.born, by simp, fun a ha b hb => ?_⟩
    obtain ⟨e, he, rfl⟩ := List.mem_map.1 ha
    simp at hb
    subst hb
    exact h.old e he
  · intro e he
    simp only [Array.toList_push, List.mem_append, List.mem_singleton] at he
    rcases he with he | rfl
    · have := h.old e he; omega
    · simp
theorem map_eraseIdx' {α β : Type} (f : α → β) : ∀ (l : List α) (j : Nat), (l.eraseIdx j).map f = (l.map f).eraseIdx j
  | [], _ => rfl
  | _ :: _, 0 => rfl
  | a :: l, j + 1 => by simp [map_eraseIdx' f l j]
theorem MapIs.erase {kv : KV} {es : Array MapEntry} {clock j : Nat} (h : MapIs kv es clock) : MapIs (kv.eraseIdx j) (es.eraseIdxIfInBounds j) clock := by
  have e1 : (es.eraseIdxIfInBounds j).toList = es.toList.eraseIdx j := by simp
  refine ⟨?_, ?_, ?_⟩
  · rw [e1, map_eraseIdx', h.pairs, map_eraseIdx']
  · rw [e1, map_eraseIdx']
    exact h.born.sublist (List.eraseIdx_sublist _ _)
  · intro e he
    rw [e1] at he
    exact h.old e ((List.eraseIdx_sublist _ _).subset he)

/-- the map's chunk turned -/
class UpdM (b : Nat) (H : List HP) (kv : outParam KV) (kv' : KV) (H' : outParam (List HP)) : Prop where
  out : ∃ R, Sel (mpi b kv) H R ∧ stars H' = star (mpi b kv') (stars R)
instance (priority := 1100) UpdM.here {b : Nat} {kv kv' : KV} {H : List HP} : UpdM b (mpi b kv :: H) kv kv' (mpi b kv' :: H) := ⟨H, .here, rfl⟩
instance (priority := 900) UpdM.there {b : Nat} {A : HP} {kv kv' : KV} {H H' : List HP} [u : UpdM b H kv kv' H'] : UpdM b (A :: H) kv kv' (A :: H') :=
  ⟨let ⟨R, s, e⟩ := u.out; ⟨A :: R, .there s, by simp only [stars, e]; rw [star_left]⟩⟩
theorem UpdM.map {b : Nat} {kv kv' : KV} {H' : List HP} (u : UpdM b H kv kv' H') {w : World} (h : St σ H w) : ∃ es clock, MapIs kv es clock ∧ w.heap[b]? = some (.map es clock) ∧
    ∀ es' clock', MapIs kv' es' clock' → St σ H' { w with heap := w.heap.setIfInBounds b (.map es' clock') } := by
  obtain ⟨R, s, e⟩ := u.out
  obtain ⟨es, clock, hm, st⟩ := h.open_mpi s
  exact ⟨es, clock, hm, St.at .here st, fun es' clock' hm' => (st.setMap.shut_mpi hm').of_eq (by rw [e]; rfl)⟩

theorem OpU.mapUpdate {x y z : Operand} {t kt e b : Nat} {k : Int} {kv : KV} {v : Value} {H' : List HP} (hx : evalE env x = some (.map (some b))) (hy : evalE env y = some (.int .i64 k)) (hz : evalE env z = some v) [ht : MapT P t kt e] [hk : IntT P kt .i64]
    (u : UpdM b H kv (kvSet kv k v) H') : OpU P ⟨dst, .mapUpdate t x y z, ty, pos, af, g⟩ env σ H undef H' := fun ρ w hkn st => by
  obtain ⟨es, clock, hm, hb, hk'⟩ := u.map st
  have hg := run_getObj_map' (P := P) hb
  rcases findNow_int .i64 k es.toList kv 0 hm.pairs with ⟨h1, h2, h3, _⟩ | ⟨j, e', h1, h2, h3, h4, h5, _⟩
  · refine ⟨_, .inr ⟨?_, rfl⟩, hk' _ _ (h3 v ▸ hm.push k v)⟩
    simp [execOp, hkn _ _ hx, hkn _ _ hy, hkn _ _ hz, Instr.mapUpdate, run_underlying ht.h, hg, run_checkKey_int hk.h, Instr.findKey, run_underlying hk.h, h2, run_setObj_map' (P := P) hb]
  · refine ⟨_, .inr ⟨?_, rfl⟩, hk' _ _ (h5 v ▸ hm.set h2 v)⟩
    have h2' : es[j]? = some e' := by simpa using h2
    simp [execOp, hkn _ _ hx, hkn _ _ hy, hkn _ _ hz, Instr.mapUpdate, run_underlying ht.h, hg, run_checkKey_int hk.h, Instr.findKey, run_underlying hk.h, h1, h2', h3, Instr.keyThatStays, Instr.sameBits, run_setObj_map' (P := P) hb]
theorem OpU.delete {x y : Operand} {t kt e b t' : Nat} {k : Int} {kv : KV} {H' : List HP} (hx : evalE env x = some (.map (some b))) (hy : evalE env y = some (.int .i64 k)) [ht : MapT P t kt e] [hk : IntT P kt .i64]
    (u : UpdM b H kv (kvDel kv k) H') : OpU P ⟨dst, .call ⟨.builtin .delete, #[x, y], #[t, t']⟩, ty, pos, af, g⟩ env σ H (.tuple #[]) H' := fun ρ w hkn st => by
  obtain ⟨es, clock, hm, hb, hk'⟩ := u.map st
  have hg := run_getObj_map' (P := P) hb
  rcases findNow_int .i64 k es.toList kv 0 hm.pairs with ⟨h1, h2, _, h4⟩ | ⟨j, e', h1, h2, _, _, _, h6⟩
  · refine ⟨_, .inl ?_, hk' es clock (by rw [h4]; exact hm)⟩
    simp [execOp, resolve, invoke, builtin, Builtin.delete_, hkn _ _ hx, hkn _ _ hy, run_underlying ht.h, hg, run_checkKey_int hk.h, Instr.findKey, run_underlying hk.h, h2, run_setObj_map' (P := P) hb]
  · refine ⟨_, .inl ?_, hk' _ clock (h6 ▸ hm.erase)⟩
    simp [execOp, resolve, invoke, builtin, Builtin.delete_, hkn _ _ hx, hkn _ _ hy, run_underlying ht.h, hg, run_checkKey_int hk.h, Instr.findKey, run_underlying hk.h, h1, run_setObj_map' (P := P) hb]
theorem OpQ.len_map {x : Operand} {t kt e b : Nat} {kv : KV} {R : List HP} (hx : evalE env x = some (.map (some b))) [ht : MapT P t kt e] (s : Sel (mpi b kv) H R) :
    OpQ P ⟨dst, .call ⟨.builtin .len, #[x], #[t]⟩, ty, pos, af, g⟩ env σ H (.int .i64 kv.length) := fun ρ w hkn st => by
  obtain ⟨es, clock, hm, st'⟩ := st.open_mpi s
  have hb := run_getObj_map' (P := P) (St.at .here st')
  simp [execOp, resolve, invoke, builtin, Builtin.len_, hkn _ _ hx, run_underlying ht.h, hb, goInt, hm.size]
end
attribute [irreducible] mpi
end Go.Sl
