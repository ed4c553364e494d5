/-
  make, copy, clear, bytes and texts, the greatest and the least. No program in sight.
-/
import Derived.Test.YthlbimdlpadhdaaSlLit
namespace Go.Sl
open Go
attribute [local semireducible] Ent EntL EntX OpTo Ctr pt OpQ OpU cl ar

section
variable {P : Program} {Q : Exit → Act → World → Prop} {n : Nat} {env : Env} {σ : Sig} {H : List HP} {ops : Array Oper} {l : List Oper}
variable {dst : Option Tmp} {ty : TypeId} {pos : String} {af : Array Edge} {g : Option (Nat × Bool)}

theorem madeCells_one {z : Value} (hz : z.cells = #[z]) (k : Nat) : (madeCells z.cells k) = (List.replicate k z).toArray := by
  rw [hz]
  apply Array.ext
  · simp [size_madeCells]
  · intro i h1 h2
    simp [madeCells, Nat.mod_one]
/-- a new slice of plain elements -/
theorem OpTo.makeSlice {x y : Operand} {t e bytes : Nat} {k k' : IntKind} {a : Int} {z : Value} (hx : evalE env x = some (.int k a)) (hy : evalE env y = some (.int k' a)) [ht : SliceT P t e 1] [hs : SizeT P e 1 bytes] [hz : ZeroT P e z]
    (hzc : z.cells = #[z]) (h0 : 0 ≤ a) (h1 : (bytes : Int) * a ≤ 281474976710656) (h2 : a ≤ 9223372036854775807) :
    OpTo P ⟨dst, .makeSlice t x y, ty, pos, af, g⟩ env σ H (fun _ : Nat => True) (fun b => .slice (some ⟨b, 0, none⟩) a.toNat a.toNat) (fun b => cl b (List.replicate a.toNat z) :: H) := fun ρ w hk s => by
  obtain ⟨hu, i, hi, his⟩ := sliceOf_spec ht.h
  have hib : i.bytes = bytes := by have := hs.h; simp [hi] at this; exact this.2
  have hzi : i.zero = some z := by have := hz.h; simpa [hi] using this
  have hr := run_make (P := P) w t e i z hu hi hzi k k' a a h0 (Int.le_refl _) (by rw [hib]; exact h1) h2
  rw [his, Nat.mul_one, madeCells_one hzc] at hr
  exact ⟨w.heap.size, _, trivial, .inl (by simp [execOp, hk _ _ hx, hk _ _ hy, hr]), s.newRow e _⟩

theorem OpQ.max2 {x y : Operand} {k k' : IntKind} {a b : Int} {tys : Array TypeId} (hx : evalE env x = some (.int k a)) (hy : evalE env y = some (.int k' b)) : OpQ P ⟨dst, .call ⟨.builtin .max, #[x, y], tys⟩, ty, pos, af, g⟩ env σ H (.int k (max a b)) := fun ρ w hk _ => by
  simp only [execOp, resolve, invoke, builtin, Builtin.max_, Sem.run_bind, Sem.run_pure, Result.andThen_ok]
  simp [hk _ _ hx, hk _ _ hy, Builtin.max2]
  split <;> omega
theorem OpQ.min2 {x y : Operand} {k k' : IntKind} {a b : Int} {tys : Array TypeId} (hx : evalE env x = some (.int k a)) (hy : evalE env y = some (.int k' b)) : OpQ P ⟨dst, .call ⟨.builtin .min, #[x, y], tys⟩, ty, pos, af, g⟩ env σ H (.int k (min a b)) := fun ρ w hk _ => by
  simp only [execOp, resolve, invoke, builtin, Builtin.min_, Sem.run_bind, Sem.run_pure, Result.andThen_ok]
  simp [hk _ _ hx, hk _ _ hy, Builtin.min2]
  split <;> omega

/-! ### Bytes -/
def bv (l : List UInt8) : List Value := l.map fun x => .int .u8 (x.toNat : Int)
theorem bv_length (l : List UInt8) : (bv l).length = l.length := by simp [bv]
theorem bv_append (l r : List UInt8) : bv (l ++ r) = bv l ++ bv r := by simp [bv]
theorem bv_take (l : List UInt8) (k : Nat) : (bv l).take k = bv (l.take k) := by simp [bv]
theorem bv_drop (l : List UInt8) (k : Nat) : (bv l).drop k = bv (l.drop k) := by simp [bv]
theorem bv_replicate (k : Nat) : List.replicate k (Value.int .u8 0) = bv (List.replicate k 0) := by simp [bv]
theorem bv_get {l : List UInt8} {i : Nat} (h : i < l.length) : (bv l)[i]? = some (.int .u8 ((l[i]'h).toNat : Int)) := by simp [bv, h]
theorem bv_one (l : List UInt8) : ∀ u ∈ bv l, u.oneCell' = true := by
  intro u hu
  obtain ⟨x, _, rfl⟩ := List.mem_map.1 hu
  rfl
theorem bv_splice (l r : List UInt8) (o : Nat) : splice (bv l) o (bv r) = bv (l.take o ++ r ++ l.drop (o + r.length)) := by simp [splice, bv_take, bv_drop, bv_append, bv_length]
def sv (l : List UInt8) : Value := .string ⟨l.toArray⟩

theorem OpQ.toStr {x : Operand} {s t e m c : Nat} {ao : Option Addr} {bs : List UInt8} (hx : evalE env x = some (.slice ao m c)) (hs : SliceT P s e 1) (he : IntT P e .u8) (ht : P.underlying t = some .string) (hr : ∀ w, St σ H w → Reads w 1 ao m (bv bs)) :
    OpQ P ⟨dst, .convert s t x, ty, pos, af, g⟩ env σ H (sv bs) := fun ρ w hk st => by
  obtain ⟨h1, h2, h3⟩ := hr w st
  have hu := (sliceOf_spec hs.h).1
  have hlen : bs.length = m := by simpa [bv_length] using h1
  cases ao with
  | none =>
    have hm := h2 rfl
    subst hm
    have : bs = [] := List.eq_nil_of_length_eq_zero hlen
    subst this
    have hc := run_convert_bytes_string (P := P) w s t e none 0 c hu he.h ht
    have hx' := hk _ _ hx
    simp only [execOp, hx', Sem.run_bind, hc, Conv.bytesToString, Sem.run_pure, Result.andThen_ok, sv]
    rfl
  | some a =>
    subst hlen
    have hc := run_convert_bytes_back (P := P) w s t e a c bs hu he.h ht (fun j hj => h3 a rfl j _ (bv_get hj))
    simp [execOp, hk _ _ hx, sv, hc]

/-- strings of bytes are the same if the bytes are -/
theorem toList_mk (l : List UInt8) : (⟨l.toArray⟩ : ByteArray).toList = l := by
  rw [ByteArray.toList_eq]
theorem OpQ.eq_str {x y : Operand} {t t' : TypeId} {a b : List UInt8} (hx : evalE env x = some (sv a)) (hy : evalE env y = some (sv b)) :
    OpQ P ⟨dst, .binOp .eql t x y t', ty, pos, af, g⟩ env σ H (.bool (decide (a = b))) := fun ρ w hk st => by
  have := OpQ.eq_string (P := P) (dst := dst) (ty := ty) (pos := pos) (af := af) (g := g) (t := t) (t' := t') (σ := σ) (H := H) hx hy ρ w hk st
  rw [this, toList_mk, toList_mk]
  have e : (a == b) = decide (a = b) := by rw [Bool.eq_iff_iff]; simp
  rw [e]
theorem OpQ.ne_str {x y : Operand} {t t' : TypeId} {a b : List UInt8} (hx : evalE env x = some (sv a)) (hy : evalE env y = some (sv b)) :
    OpQ P ⟨dst, .binOp .neq t x y t', ty, pos, af, g⟩ env σ H (.bool (!decide (a = b))) := fun ρ w hk st => by
  have := OpQ.ne_string (P := P) (dst := dst) (ty := ty) (pos := pos) (af := af) (g := g) (t := t) (t' := t') (σ := σ) (H := H) hx hy ρ w hk st
  rw [this, toList_mk, toList_mk]
  have e : (a == b) = decide (a = b) := by rw [Bool.eq_iff_iff]; simp
  rw [e]

/-! ### copy, clear -/
theorem OpU.copy {x y : Operand} {t t' e b o dLen dCap m c : Nat} {ao : Option Addr} {cs news : List Value} {H' : List HP} (hx : evalE env x = some (.slice (some ⟨b, o, none⟩) dLen dCap)) (hy : evalE env y = some (.slice ao m c)) [ht : SliceT P t e 1]
    (hr : ∀ w, St σ H w → Reads w 1 ao m news) (u : Upd b H cs (splice cs o (news.take (min m dLen))) H') (hl : o + min m dLen ≤ cs.length) (h1 : ∀ u ∈ news, u.oneCell' = true) :
    OpU P ⟨dst, .call ⟨.builtin .copy, #[x, y], #[t, t']⟩, ty, pos, af, g⟩ env σ H (.int .i64 (min m dLen : Nat)) H' := fun ρ w hk st => by
  obtain ⟨r1, r2, r3⟩ := hr w st
  obtain ⟨hu, i, hi, his⟩ := sliceOf_spec ht.h
  have hlen : (news.take (min m dLen)).length = min m dLen := by simp [r1]
  have h1' : ∀ u ∈ news.take (min m dLen), u.oneCell' = true := fun u hu => h1 u (List.mem_of_mem_take hu)
  have hf : (Builtin.firstCells 1 (min m dLen) (.slice ao m c)).run P w = .ok (news.take (min m dLen)).toArray w := by
    cases ao with
    | none =>
      have := r2 rfl
      subst this
      simp [Builtin.firstCells]
    | some a => exact run_firstCells_some (P := P) w 1 (min m dLen) a m c _ (by simp [hlen]) (fun j v hj => r3 a rfl j v (by
        rw [List.getElem?_take] at hj
        split at hj
        · exact hj
        · cases hj))
  have hst := run_storeCells_cells (P := P) b o (news.take (min m dLen)) 0 w (by simpa [hlen] using u.blk.there_is st hl) (fun j hj => by simp only [Nat.add_zero]; exact u.blk.free st (by omega)) h1'
  simp only [Nat.add_zero] at hst
  refine ⟨w.setCells b o (news.take (min m dLen)), .inl ?_, u.setCells st (by rw [hlen]; exact hl)⟩
  have hmin : Nat.min m dLen = min m dLen := rfl
  simp [execOp, resolve, invoke, builtin, Builtin.copy_, hk _ _ hx, hk _ _ hy, run_underlying hu, Builtin.lenOf, sizeOf, typeInfo, hi, his, hmin, hf, hst, goInt]
theorem zeroCells_one {z : Value} (hz : z.cells = #[z]) (k : Nat) : (Builtin.zeroCells z.cells k).toList = List.replicate k z := by
  rw [hz]
  apply List.ext_getElem
  · simp [Builtin.zeroCells]
  · intro i h1 h2
    simp [Builtin.zeroCells, Nat.mod_one]
theorem OpU.clear {x : Operand} {t e b o m c : Nat} {cs : List Value} {z : Value} {H' : List HP} (hx : evalE env x = some (.slice (some ⟨b, o, none⟩) m c)) [ht : SliceT P t e 1] [hz : ZeroT P e z] (hzc : z.cells = #[z]) (h1 : z.oneCell' = true)
    (u : Upd b H cs (splice cs o (List.replicate m z)) H') (hl : o + m ≤ cs.length) :
    OpU P ⟨dst, .call ⟨.builtin .clear, #[x], #[t]⟩, ty, pos, af, g⟩ env σ H (.tuple #[]) H' := fun ρ w hk st => by
  obtain ⟨hu, i, hi, his⟩ := sliceOf_spec ht.h
  have hzi : i.zero = some z := by have := hz.h; simpa [hi] using this
  have hst := run_storeCells_cells (P := P) b o (List.replicate m z) 0 w (by simpa using u.blk.there_is st hl) (fun j hj => by simp only [Nat.add_zero]; exact u.blk.free st (by simp at hj; omega)) (fun v hv => by rw [(List.mem_replicate.1 hv).2]; exact h1)
  simp only [Nat.add_zero] at hst
  refine ⟨w.setCells b o (List.replicate m z), .inl ?_, u.setCells st (by simpa using hl)⟩
  cases m with
  | zero => simp [execOp, resolve, invoke, builtin, Builtin.clear_, hk _ _ hx, run_underlying hu, World.setCells]
  | succ m => simp [execOp, resolve, invoke, builtin, Builtin.clear_, hk _ _ hx, run_underlying hu, zeroValue, typeInfo, hi, hzi, zeroCells_one hzc, hst]
end
attribute [irreducible] sv
end Go.Sl
