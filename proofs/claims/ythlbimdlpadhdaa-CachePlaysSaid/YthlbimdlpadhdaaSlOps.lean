/-
  The rules of the separation logic, operation by operation. No program in sight.
-/
import Derived.Test.YthlbimdlpadhdaaSlCore
namespace Go.Sl
open Go
attribute [local semireducible] Ent EntL EntX OpTo Ctr pt

section
variable {P : Program} {Q : Exit → Act → World → Prop} {n : Nat} {env : Env} {σ : Sig} {H : List HP} {ops : Array Oper} {l : List Oper}
variable {dst : Option Tmp} {ty : TypeId} {pos : String} {af : Array Edge} {g : Option (Nat × Bool)}

def okDst (n : Nat) : Option Tmp → Bool
  | none => true
  | some d => Nat.ble (d + 1) n
theorem ble_of {a b : Nat} (h : a ≤ b) : Nat.ble a b = true := by rw [Nat.ble_eq]; exact h
theorem okDst.lt {n : Nat} {dst : Option Tmp} (h : okDst n dst = true) : ∀ d, dst = some d → d < n := by
  intro d hd; subst hd; exact Nat.le_of_ble_eq_true h

/-- a guard that is met is no guard -/
theorem EntL.unguard {op : Op} {j : Nat} {want b : Bool} {d : Tmp} (hj : (ops[j]?).bind (·.dst) = some d) (hv : look env d = some (.bool b)) (hb : b = want)
    (h : EntL P ops Q (⟨dst, op, ty, pos, af, none⟩ :: l) n env σ H) : EntL P ops Q (⟨dst, op, ty, pos, af, some (j, want)⟩ :: l) n env σ H := by
  intro a w f s
  have h1 := h a w f s
  have h2 : Region.wanted ⟨dst, op, ty, pos, af, some (j, want)⟩ (yielded ops a.tmps) = true := by rw [wanted_some (n := n) rfl hj hv a f, hb]; simp
  unfold wpList at h1 ⊢
  rw [if_pos h2]
  rw [if_pos (wanted_none rfl a)] at h1
  exact h1
theorem EntL.guard_no {op : Op} {j : Nat} {want b : Bool} {d : Tmp} (hj : (ops[j]?).bind (·.dst) = some d) (hv : look env d = some (.bool b)) (hb : b = !want) (hd : okDst n dst = true)
    (k : EntL P ops Q l n (putE env dst undef) σ H) : EntL P ops Q (⟨dst, op, ty, pos, af, some (j, want)⟩ :: l) n env σ H := EntL.pass rfl hj hv hb (okDst.lt hd) k
theorem EntL.guard_undef {op : Op} {j : Nat} {want : Bool} {d : Tmp} (hj : (ops[j]?).bind (·.dst) = some d) (hv : look env d = some undef) (hd : okDst n dst = true)
    (k : EntL P ops Q l n (putE env dst undef) σ H) : EntL P ops Q (⟨dst, op, ty, pos, af, some (j, want)⟩ :: l) n env σ H := EntL.pass_undef rfl hj hv (okDst.lt hd) k

/-- An operation that yields one value and leaves the world. -/
def OpQ (P : Program) (o : Oper) (env : Env) (σ : Sig) (H : List HP) (v : Value) : Prop := ∀ ρ w, Known env ρ → St σ H w → (execOp ρ o).run P w = .ok (.value v) w
theorem EntL.q {op : Op} {v : Value} (h : OpQ P ⟨dst, op, ty, pos, af, none⟩ env σ H v) (hd : okDst n dst = true) (k : EntL P ops Q l n (putE env dst v) σ H) : EntL P ops Q (⟨dst, op, ty, pos, af, none⟩ :: l) n env σ H :=
  EntL.op (β := Unit) (φ := fun _ => True) (val := fun _ => v) (H' := fun _ => H) rfl (okDst.lt hd) (fun ρ w hk s => ⟨(), w, trivial, .inl (h ρ w hk s), s⟩) (fun _ _ => k)

theorem OpQ.move {x : Operand} {v : Value} (hx : evalE env x = some v) :
    OpQ P ⟨dst, .move x, ty, pos, af, g⟩ env σ H v :=
  (fun ρ w hk _ => by simp [execOp, hk _ _ hx])
theorem OpQ.assign {x : Operand} {v : Value} (hx : evalE env x = some v) :
    OpQ P ⟨dst, .assign x, ty, pos, af, g⟩ env σ H v :=
  (fun ρ w hk _ => by simp [execOp, hk _ _ hx])
theorem OpQ.pick_true {c x y : Operand} {b : Bool} {v : Value} (hc : evalE env c = some (.bool b)) (hb : b = true) (hx : evalE env x = some v) :
    OpQ P ⟨dst, .pick c x y, ty, pos, af, g⟩ env σ H v :=
  (fun ρ w hk _ => by subst hb; simp [execOp, hk _ _ hx, hk _ _ hc, go_sem])
theorem OpQ.pick_false {c x y : Operand} {b : Bool} {v : Value} (hc : evalE env c = some (.bool b)) (hb : b = false) (hx : evalE env y = some v) :
    OpQ P ⟨dst, .pick c x y, ty, pos, af, g⟩ env σ H v :=
  (fun ρ w hk _ => by subst hb; simp [execOp, hk _ _ hx, hk _ _ hc, go_sem])
/-! ### Integers -/
class IntT (P : Program) (t : Nat) (k : outParam IntKind) : Prop where h : P.underlying t = some (.int k)
theorem run_eqGuard_int (op : BinOp) (t : TypeId) (x y : Operand) (k k' : IntKind) (a b : Int) (w : World) : (eqGuard op t x y (.int k a) (.int k' b)).run P w = .ok () w := by
  simp only [eqGuard]; split <;> rfl
theorem OpQ.arith {x y : Operand} {k : IntKind} {a b r : Int} {op : BinOp} {t t' : TypeId} (hx : evalE env x = some (.int k a)) (hy : evalE env y = some (.int k b)) (hr : ∀ w, (Op.intArith op k a b).run P w = .ok (.int k r) w)
    (ho : op = .add ∨ op = .sub ∨ op = .mul) :
    OpQ P ⟨dst, .binOp op t x y t', ty, pos, af, g⟩ env σ H (.int k r) :=
  (fun ρ w hk _ => by
    have := hr w
    rcases ho with rfl | rfl | rfl <;> simp [execOp, hk _ _ hx, hk _ _ hy, run_eqGuard_int, binOp, this])
theorem OpQ.add {x y : Operand} {k : IntKind} {a b : Int} {t t' : TypeId} (hx : evalE env x = some (.int k a)) (hy : evalE env y = some (.int k b)) (hr : k.wrap (a + b) = a + b) :
    OpQ P ⟨dst, .binOp .add t x y t', ty, pos, af, g⟩ env σ H (.int k (a + b)) :=
  OpQ.arith hx hy (fun w => by simp [Op.intArith, hr]) (by simp)
theorem OpQ.sub {x y : Operand} {k : IntKind} {a b : Int} {t t' : TypeId} (hx : evalE env x = some (.int k a)) (hy : evalE env y = some (.int k b)) (hr : k.wrap (a - b) = a - b) :
    OpQ P ⟨dst, .binOp .sub t x y t', ty, pos, af, g⟩ env σ H (.int k (a - b)) :=
  OpQ.arith hx hy (fun w => by simp [Op.intArith, hr]) (by simp)
theorem OpQ.mul {x y : Operand} {k : IntKind} {a b : Int} {t t' : TypeId} (hx : evalE env x = some (.int k a)) (hy : evalE env y = some (.int k b)) (hr : k.wrap (a * b) = a * b) :
    OpQ P ⟨dst, .binOp .mul t x y t', ty, pos, af, g⟩ env σ H (.int k (a * b)) :=
  OpQ.arith hx hy (fun w => by simp [Op.intArith, hr]) (by simp)
theorem OpQ.addw {x y : Operand} {k : IntKind} {a b : Int} {t t' : TypeId} (hx : evalE env x = some (.int k a)) (hy : evalE env y = some (.int k b)) :
    OpQ P ⟨dst, .binOp .add t x y t', ty, pos, af, g⟩ env σ H (.int k (k.wrap (a + b))) :=
  OpQ.arith hx hy (fun w => by simp [Op.intArith]) (by simp)
theorem OpQ.subw {x y : Operand} {k : IntKind} {a b : Int} {t t' : TypeId} (hx : evalE env x = some (.int k a)) (hy : evalE env y = some (.int k b)) :
    OpQ P ⟨dst, .binOp .sub t x y t', ty, pos, af, g⟩ env σ H (.int k (k.wrap (a - b))) :=
  OpQ.arith hx hy (fun w => by simp [Op.intArith]) (by simp)
theorem OpQ.mulw {x y : Operand} {k : IntKind} {a b : Int} {t t' : TypeId} (hx : evalE env x = some (.int k a)) (hy : evalE env y = some (.int k b)) :
    OpQ P ⟨dst, .binOp .mul t x y t', ty, pos, af, g⟩ env σ H (.int k (k.wrap (a * b))) :=
  OpQ.arith hx hy (fun w => by simp [Op.intArith]) (by simp)

theorem OpQ.bop {x y : Operand} {k : IntKind} {a b : Int} {v : Value} {op : BinOp} {t t' : TypeId} (hx : evalE env x = some (.int k a)) (hy : evalE env y = some (.int k b)) (hr : ∀ w, (Go.binOp op t (.int k a) (.int k b)).run P w = .ok v w) :
    OpQ P ⟨dst, .binOp op t x y t', ty, pos, af, g⟩ env σ H v :=
  (fun ρ w hk _ => by simp [execOp, hk _ _ hx, hk _ _ hy, run_eqGuard_int, hr w])
theorem OpQ.lss {x y : Operand} {k : IntKind} {a b : Int} {t t' : TypeId} (hx : evalE env x = some (.int k a)) (hy : evalE env y = some (.int k b)) :
    OpQ P ⟨dst, .binOp .lss t x y t', ty, pos, af, g⟩ env σ H (.bool (decide (a < b))) :=
  OpQ.bop hx hy (fun w => by simp [binOp, Op.intCmp])
theorem OpQ.leq {x y : Operand} {k : IntKind} {a b : Int} {t t' : TypeId} (hx : evalE env x = some (.int k a)) (hy : evalE env y = some (.int k b)) :
    OpQ P ⟨dst, .binOp .leq t x y t', ty, pos, af, g⟩ env σ H (.bool (decide (a ≤ b))) :=
  OpQ.bop hx hy (fun w => by simp [binOp, Op.intCmp])
theorem OpQ.gtr {x y : Operand} {k : IntKind} {a b : Int} {t t' : TypeId} (hx : evalE env x = some (.int k a)) (hy : evalE env y = some (.int k b)) :
    OpQ P ⟨dst, .binOp .gtr t x y t', ty, pos, af, g⟩ env σ H (.bool (decide (b < a))) :=
  OpQ.bop hx hy (fun w => by simp [binOp, Op.intCmp])
theorem OpQ.geq {x y : Operand} {k : IntKind} {a b : Int} {t t' : TypeId} (hx : evalE env x = some (.int k a)) (hy : evalE env y = some (.int k b)) :
    OpQ P ⟨dst, .binOp .geq t x y t', ty, pos, af, g⟩ env σ H (.bool (decide (b ≤ a))) :=
  OpQ.bop hx hy (fun w => by simp [binOp, Op.intCmp])
theorem OpQ.eql {x y : Operand} {k : IntKind} {a b : Int} {t t' : TypeId} (hx : evalE env x = some (.int k a)) (hy : evalE env y = some (.int k b)) :
    OpQ P ⟨dst, .binOp .eql t x y t', ty, pos, af, g⟩ env σ H (.bool (decide (a = b))) :=
  OpQ.bop hx hy (fun w => by simp [binOp, Op.intCmp]; rw [Bool.eq_iff_iff]; simp)
theorem OpQ.neq {x y : Operand} {k : IntKind} {a b : Int} {t t' : TypeId} (hx : evalE env x = some (.int k a)) (hy : evalE env y = some (.int k b)) :
    OpQ P ⟨dst, .binOp .neq t x y t', ty, pos, af, g⟩ env σ H (.bool (decide (a ≠ b))) :=
  OpQ.bop hx hy (fun w => by simp [binOp, Op.intCmp]; rw [Bool.eq_iff_iff]; simp)
theorem OpQ.rem {x y : Operand} {k : IntKind} {a b : Int} {t t' : TypeId} (hx : evalE env x = some (.int k a)) (hy : evalE env y = some (.int k b)) (hb : b ≠ 0) :
    OpQ P ⟨dst, .binOp .rem t x y t', ty, pos, af, g⟩ env σ H (.int k (a.tmod b)) :=
  OpQ.bop hx hy (fun w => by simp [binOp, Op.intDiv, hb])
theorem OpQ.quo {x y : Operand} {k : IntKind} {a b : Int} {t t' : TypeId} (hx : evalE env x = some (.int k a)) (hy : evalE env y = some (.int k b)) (hb : b ≠ 0) (hr : k.wrap (a.tdiv b) = a.tdiv b) :
    OpQ P ⟨dst, .binOp .quo t x y t', ty, pos, af, g⟩ env σ H (.int k (a.tdiv b)) :=
  OpQ.bop hx hy (fun w => by simp [binOp, Op.intDiv, hb, hr])
theorem OpQ.not {x : Operand} {b : Bool} {t : TypeId} (hx : evalE env x = some (.bool b)) :
    OpQ P ⟨dst, .unOp .not t x, ty, pos, af, g⟩ env σ H (.bool (!b)) :=
  (fun ρ w hk _ => by simp [execOp, hk _ _ hx, Op.unary])
theorem OpQ.conv {x : Operand} {k k' : IntKind} {a : Int} {s t : TypeId} [hs : IntT P s k] [ht : IntT P t k'] (hx : evalE env x = some (.int k a)) (hr : k'.wrap a = a) :
    OpQ P ⟨dst, .convert s t x, ty, pos, af, g⟩ env σ H (.int k' a) :=
  (fun ρ w hk _ => by simp [execOp, hk _ _ hx, convert, run_underlying hs.h, run_underlying ht.h, Conv.intToInt, hr])
theorem OpQ.convw {x : Operand} {k k' : IntKind} {a : Int} {s t : TypeId} [hs : IntT P s k] [ht : IntT P t k'] (hx : evalE env x = some (.int k a)) :
    OpQ P ⟨dst, .convert s t x, ty, pos, af, g⟩ env σ H (.int k' (k'.wrap a)) :=
  (fun ρ w hk _ => by simp [execOp, hk _ _ hx, convert, run_underlying hs.h, run_underlying ht.h, Conv.intToInt])
/-! ### Tuples -/
theorem OpQ.extract {x : Operand} {vs : Array Value} {i : Nat} {v : Value} (hx : evalE env x = some (.tuple vs)) (hv : vs[i]? = some v) :
    OpQ P ⟨dst, .extract x i, ty, pos, af, g⟩ env σ H v :=
  (fun ρ w hk _ => by simp [execOp, hk _ _ hx, Instr.extract, hv])
/-! ### Cells -/
/-- A block's cells, none of them frozen; 'ar': the same, where a mark may stand behind the last. -/
def cl (b : Nat) (cs : List Value) : HP := fun h => ∃ T, pt b (.cells cs.toArray T (0, 0)) h
def ar (b : Nat) (cs : List Value) : HP := fun h => ∃ T, ∃ fr : Nat × Nat, (fr.2 ≤ fr.1 ∨ cs.length ≤ fr.1) ∧ pt b (.cells cs.toArray T fr) h
theorem ar_of_cl {b : Nat} {cs : List Value} : ∀ h, cl b cs h → ar b cs h := fun _ ⟨T, h⟩ => ⟨T, (0, 0), .inl (Nat.le_refl _), h⟩
theorem St.open_cl {σ : Sig} {b : Nat} {cs : List Value} {H R : List HP} {w : World} (s : Sel (cl b cs) H R) (h : St σ H w) : ∃ T, St σ (pt b (.cells cs.toArray T (0, 0)) :: R) w := by
  obtain ⟨x, hx, hs⟩ := h.mem
  rw [s.stars] at hx
  obtain ⟨h1, h2, hd, rfl, ⟨T, hp⟩, a⟩ := hx
  exact ⟨T, h.os, h.out, _, ⟨h1, h2, hd, rfl, hp, a⟩, hs⟩
theorem St.shut_cl {σ : Sig} {b : Nat} {T : TypeId} {cs : List Value} {H : List HP} {w : World} (h : St σ (pt b (.cells cs.toArray T (0, 0)) :: H) w) : St σ (cl b cs :: H) w := by
  obtain ⟨x, ⟨h1, h2, hd, rfl, hp, a⟩, s⟩ := h.mem
  exact ⟨h.os, h.out, _, ⟨h1, h2, hd, rfl, ⟨T, hp⟩, a⟩, s⟩
theorem St.open_ar {σ : Sig} {b : Nat} {cs : List Value} {H R : List HP} {w : World} (s : Sel (ar b cs) H R) (h : St σ H w) : ∃ T, ∃ fr : Nat × Nat, (fr.2 ≤ fr.1 ∨ cs.length ≤ fr.1) ∧ St σ (pt b (.cells cs.toArray T fr) :: R) w := by
  obtain ⟨x, hx, hs⟩ := h.mem
  rw [s.stars] at hx
  obtain ⟨h1, h2, hd, rfl, ⟨T, fr, hf, hp⟩, a⟩ := hx
  exact ⟨T, fr, hf, h.os, h.out, _, ⟨h1, h2, hd, rfl, hp, a⟩, hs⟩
theorem St.shut_ar {σ : Sig} {b : Nat} {T : TypeId} {cs : List Value} {H : List HP} {w : World} {fr : Nat × Nat} (hf : fr.2 ≤ fr.1 ∨ cs.length ≤ fr.1) (h : St σ (pt b (.cells cs.toArray T fr) :: H) w) : St σ (ar b cs :: H) w := by
  obtain ⟨x, ⟨h1, h2, hd, rfl, hp, a⟩, s⟩ := h.mem
  exact ⟨h.os, h.out, _, ⟨h1, h2, hd, rfl, ⟨T, fr, hf, hp⟩, a⟩, s⟩

/-- where a block's cells stand among the chunks; how the chunks are with it turned -/
class Blk (b : Nat) (H : List HP) (cs : outParam (List Value)) : Prop where
  out : ∃ R, Sel (cl b cs) H R ∨ Sel (ar b cs) H R
class Upd (b : Nat) (H : List HP) (cs : outParam (List Value)) (cs' : List Value) (H' : outParam (List HP)) : Prop where
  out : ∃ R, (Sel (cl b cs) H R ∧ stars H' = star (cl b cs') (stars R)) ∨ (Sel (ar b cs) H R ∧ stars H' = star (ar b cs') (stars R))
instance (priority := 1100) Blk.cl_here {b : Nat} {cs : List Value} {H : List HP} : Blk b (cl b cs :: H) cs := ⟨_, .inl .here⟩
instance (priority := 1100) Blk.ar_here {b : Nat} {cs : List Value} {H : List HP} : Blk b (ar b cs :: H) cs := ⟨_, .inr .here⟩
instance (priority := 900) Blk.there {b : Nat} {A : HP} {cs : List Value} {H : List HP} [u : Blk b H cs] : Blk b (A :: H) cs :=
  ⟨let ⟨R, h⟩ := u.out; ⟨A :: R, h.imp .there .there⟩⟩
instance (priority := 1100) Upd.cl_here {b : Nat} {cs cs' : List Value} {H : List HP} : Upd b (cl b cs :: H) cs cs' (cl b cs' :: H) := ⟨H, .inl ⟨.here, rfl⟩⟩
instance (priority := 1100) Upd.ar_here {b : Nat} {cs cs' : List Value} {H : List HP} : Upd b (ar b cs :: H) cs cs' (ar b cs' :: H) := ⟨H, .inr ⟨.here, rfl⟩⟩
instance (priority := 900) Upd.there {b : Nat} {A : HP} {cs cs' : List Value} {H H' : List HP} [u : Upd b H cs cs' H'] : Upd b (A :: H) cs cs' (A :: H') :=
  ⟨let ⟨R, h⟩ := u.out; ⟨A :: R, h.imp (fun ⟨s, e⟩ => ⟨.there s, by simp only [stars, e]; rw [star_left]⟩) (fun ⟨s, e⟩ => ⟨.there s, by simp only [stars, e]; rw [star_left]⟩)⟩⟩

theorem Blk.cells {b : Nat} {cs : List Value} (u : Blk b H cs) {w : World} (h : St σ H w) : ∃ T fr, w.heap[b]? = some (.cells cs.toArray T fr) ∧ (fr.2 ≤ fr.1 ∨ cs.length ≤ fr.1) := by
  obtain ⟨R, s | s⟩ := u.out
  · obtain ⟨T, h'⟩ := h.open_cl s
    exact ⟨T, (0, 0), St.at .here h', .inl (Nat.le_refl _)⟩
  · obtain ⟨T, fr, hf, h'⟩ := h.open_ar s
    exact ⟨T, fr, St.at .here h', hf⟩
theorem Blk.cell {b : Nat} {cs : List Value} (u : Blk b H cs) {w : World} (h : St σ H w) {off : Nat} {v : Value} (hv : cs[off]? = some v) : w.cell? ⟨b, off, none⟩ = some v := by
  obtain ⟨T, fr, hb, _⟩ := u.cells h
  simp [World.cell?, hb, hv]
theorem Blk.free {b : Nat} {cs : List Value} (u : Blk b H cs) {w : World} (h : St σ H w) {off : Nat} (hv : off < cs.length) : w.frozen? ⟨b, off, none⟩ = false := by
  obtain ⟨T, fr, hb, hf⟩ := u.cells h
  simp only [World.frozen?, hb]
  rcases hf with hf | hf
  · simp; omega
  · simp; omega
theorem Upd.blk {b : Nat} {cs cs' : List Value} {H' : List HP} (u : Upd b H cs cs' H') : Blk b H cs := by
  obtain ⟨R, ⟨s, _⟩ | ⟨s, _⟩⟩ := u.out
  · exact ⟨R, .inl s⟩
  · exact ⟨R, .inr s⟩
theorem Upd.set {b : Nat} {cs cs' : List Value} {H' : List HP} (u : Upd b H cs cs' H') {w : World} (h : St σ H w) (hl : cs'.length = cs.length) :
    ∃ T fr, w.heap[b]? = some (.cells cs.toArray T fr) ∧ ∀ w', w'.os = w.os → w'.output = w.output → w'.heap[b]? = some (.cells cs'.toArray T fr) → (∀ k, k ≠ b → w'.heap[k]? = w.heap[k]?) → St σ H' w' := by
  obtain ⟨R, ⟨s, e⟩ | ⟨s, e⟩⟩ := u.out
  · obtain ⟨T, h'⟩ := h.open_cl s
    exact ⟨T, (0, 0), St.at .here h', fun w' ho hu hb hn => ((St.set .here h' ho hu hb hn).shut_cl (cs := cs')).of_eq (by rw [e]; rfl)⟩
  · obtain ⟨T, fr, hf, h'⟩ := h.open_ar s
    exact ⟨T, fr, St.at .here h', fun w' ho hu hb hn => ((St.set .here h' ho hu hb hn).shut_ar (cs := cs') (by rw [hl]; exact hf)).of_eq (by rw [e]; rfl)⟩
theorem Upd.setCell {b : Nat} {cs : List Value} {off : Nat} {v : Value} {H' : List HP} (u : Upd b H cs (cs.set off v) H') {w : World} (h : St σ H w) : St σ H' (w.setCell ⟨b, off, none⟩ v) := by
  obtain ⟨T, fr, hb, hk⟩ := u.set h (by simp)
  refine hk _ rfl rfl ?_ (fun k hk => ?_)
  · simp only [World.setCell, Array.getElem?_modify, hb]
    simp
  · simp only [World.setCell, Array.getElem?_modify]
    rw [if_neg (fun e => hk e.symm)]

/-! ### Addresses -/
theorem addr_add (b o k : Nat) : (⟨b, o, none⟩ : Addr).add k = ⟨b, o + k, none⟩ := by unfold Addr.add; split <;> simp_all
def plainT (d : TypeDesc) : Bool := match d with | .struct _ | .array _ _ => false | _ => true
/-- closed facts on types -/
def fieldOff (P : Program) (s : TypeId) (i : Nat) : Option Nat :=
  match P.underlying s with
  | some (.struct fs) => match fs[i]? with
    | some f => match P.info? f.type with
      | some j => if j.size = 0 then none else some f.offset
      | none => none
    | none => none
  | _ => none
def sliceOf (P : Program) (t : TypeId) : Option (TypeId × Nat) :=
  match P.underlying t with
  | some (.slice e) => (P.info? e).map fun i => (e, i.size)
  | _ => none
def aggSize (P : Program) (t : TypeId) : Option Nat :=
  match P.underlying t with
  | some (.struct _) | some (.array _ _) => (P.info? t).map (·.size)
  | _ => none
/-- the facts as classes: found by their numbers -/
class FieldOff (P : Program) (s i : Nat) (off : outParam Nat) : Prop where h : fieldOff P s i = some off
class SliceT (P : Program) (t : Nat) (e sz : outParam Nat) : Prop where h : sliceOf P t = some (e, sz)
class AggT (P : Program) (t : Nat) (k : outParam Nat) : Prop where h : aggSize P t = some k
def plainOf (P : Program) (t : TypeId) : Bool :=
  match P.underlying t, P.info? t with
  | some d, some i => plainT d && i.size == 1
  | _, _ => false
class PlainT (P : Program) (t : Nat) : Prop where h : plainOf P t = true
def fnOk (P : Program) (f : FuncId) : Bool :=
  match P.funcs[f]? with
  | some fn => !(fn.name == "runtime.NumGoroutine") && !fn.body.isNone
  | none => false
class FnT (P : Program) (f : Nat) : Prop where h : fnOk P f = true
class MapT (P : Program) (t : Nat) (k e : outParam Nat) : Prop where h : P.underlying t = some (.map k e)
class PtrT (P : Program) (t : Nat) (e : outParam Nat) : Prop where h : P.underlying t = some (.pointer e)
class SizeT (P : Program) (t : Nat) (n b : outParam Nat) : Prop where h : (P.info? t).map (fun i => (i.size, i.bytes)) = some (n, b)
/-- a struct's fields: their places and sizes -/
def structOf (P : Program) (t : TypeId) : Option (List (Nat × Nat)) :=
  match P.underlying t with
  | some (.struct fs) => if fs.toList.all (fun f => (P.info? f.type).isSome) then some (fs.toList.map fun f => (f.offset, P.cellsOf f.type)) else none
  | _ => none
class StructT (P : Program) (t : Nat) (l : outParam (List (Nat × Nat))) : Prop where h : structOf P t = some l
class ZeroT (P : Program) (t : Nat) (z : outParam Value) : Prop where h : (P.info? t).bind (·.zero) = some z
theorem plainOf_spec {t : TypeId} (h : plainOf P t = true) : ∃ d i, P.underlying t = some d ∧ plainT d = true ∧ P.info? t = some i ∧ i.size = 1 := by
  unfold plainOf at h
  split at h
  · rename_i d i hd hi
    simp at h
    exact ⟨d, i, hd, h.1, hi, h.2⟩
  · cases h
theorem fnOk_spec {f : FuncId} (h : fnOk P f = true) : ∃ fn, P.funcs[f]? = some fn ∧ (fn.name == "runtime.NumGoroutine") = false ∧ fn.body.isNone = false := by
  unfold fnOk at h
  split at h
  · rename_i fn hf
    simp only [Bool.and_eq_true, Bool.not_eq_true'] at h
    exact ⟨fn, hf, h.1, h.2⟩
  · cases h
theorem run_fieldAt {s : TypeId} {i off b o : Nat} (h : fieldOff P s i = some off) (w : World) : (Instr.fieldAt s (.pointer (some ⟨b, o, none⟩)) i).run P w = .ok (.pointer (some ⟨b, o + off, none⟩)) w := by
  unfold fieldOff at h
  split at h <;> try cases h
  rename_i fs hu
  split at h <;> try cases h
  rename_i f hf
  split at h <;> try cases h
  rename_i j hj
  split at h <;> try cases h
  rename_i hz
  simp [Instr.fieldAt, run_underlying hu, hf, Instr.sureAddr, fieldPlace, sizeOf, typeInfo, hj, hz, addr_add]
theorem OpQ.fieldAddr {x : Operand} {s : TypeId} {i off b o : Nat} (hx : evalE env x = some (.pointer (some ⟨b, o, none⟩))) [hf : FieldOff P s i off] :
    OpQ P ⟨dst, .fieldAddr s x i, ty, pos, af, g⟩ env σ H (.pointer (some ⟨b, o + off, none⟩)) :=
  (fun ρ w hk _ => by simp [execOp, hk _ _ hx, run_fieldAt hf.h])
theorem OpQ.nilCheck {x : Operand} {a : Addr} (hx : evalE env x = some (.pointer (some a))) :
    OpQ P ⟨dst, .nilCheck x, ty, pos, af, g⟩ env σ H (.pointer (some a)) :=
  (fun ρ w hk _ => by simp [execOp, hk _ _ hx])
theorem sliceOf_spec {t e : TypeId} {k : Nat} (h : sliceOf P t = some (e, k)) : P.underlying t = some (.slice e) ∧ ∃ i, P.info? e = some i ∧ i.size = k := by
  unfold sliceOf at h
  split at h <;> try cases h
  rename_i e' hu
  cases hi : P.info? e' with
  | none => simp [hi] at h
  | some i =>
    simp [hi] at h
    obtain ⟨rfl, rfl⟩ := h
    exact ⟨hu, i, hi, rfl⟩
theorem OpQ.indexAddr {x y : Operand} {t e : TypeId} {b o len cap sz : Nat} {k : IntKind} {i : Int} (hx : evalE env x = some (.slice (some ⟨b, o, none⟩) len cap)) (hy : evalE env y = some (.int k i)) [ht : SliceT P t e sz]
    (h0 : 0 ≤ i) (h1 : i < len) :
    OpQ P ⟨dst, .indexAddr t x y, ty, pos, af, g⟩ env σ H (.pointer (some ⟨b, o + i.toNat * sz, none⟩)) :=
  (fun ρ w hk _ => by
    obtain ⟨hu, j, hj, hs⟩ := sliceOf_spec ht.h
    simp [execOp, hk _ _ hx, hk _ _ hy, Instr.indexAt, asIntOf, run_underlying hu, h0, h1, sizeOf, typeInfo, hj, hs, addr_add])
theorem OpQ.indexAddr1 {x y : Operand} {t e : TypeId} {b o len cap i : Nat} {k : IntKind} (hx : evalE env x = some (.slice (some ⟨b, o, none⟩) len cap)) (hy : evalE env y = some (.int k (i : Int))) [ht : SliceT P t e 1] (h1 : i < len) :
    OpQ P ⟨dst, .indexAddr t x y, ty, pos, af, g⟩ env σ H (.pointer (some ⟨b, o + i, none⟩)) := by
  have := OpQ.indexAddr (P := P) (dst := dst) (ty := ty) (pos := pos) (af := af) (g := g) (σ := σ) (H := H) hx hy (ht := ht) (by omega) (by omega)
  simpa using this
theorem OpQ.indexAddr0 {x y : Operand} {t e : TypeId} {b len cap i : Nat} {k : IntKind} (hx : evalE env x = some (.slice (some ⟨b, 0, none⟩) len cap)) (hy : evalE env y = some (.int k (i : Int))) [ht : SliceT P t e 1] (h1 : i < len) :
    OpQ P ⟨dst, .indexAddr t x y, ty, pos, af, g⟩ env σ H (.pointer (some ⟨b, i, none⟩)) := by
  have := OpQ.indexAddr1 (P := P) (dst := dst) (ty := ty) (pos := pos) (af := af) (g := g) (σ := σ) (H := H) hx hy (ht := ht) h1
  simpa using this
theorem OpQ.len_slice {x : Operand} {e t : TypeId} {sz : Nat} {a : Option Addr} {m c : Nat} (hx : evalE env x = some (.slice a m c)) [ht : SliceT P t e sz] :
    OpQ P ⟨dst, .call ⟨.builtin .len, #[x], #[t]⟩, ty, pos, af, g⟩ env σ H (.int .i64 m) := fun ρ w hk _ => by
  obtain ⟨hu, _⟩ := sliceOf_spec ht.h
  simp [execOp, resolve, invoke, builtin, Builtin.len_, hk _ _ hx, run_underlying hu, goInt]

/-! ### Loads and stores -/
theorem run_isAgg {t : TypeId} {d : TypeDesc} (ht : P.underlying t = some d) (w : World) : (isAgg t).run P w = .ok (!plainT d) w := by
  simp only [isAgg, Sem.run_bind, run_underlying ht, Result.andThen_ok]
  cases d <;> rfl
theorem OpQ.load {x : Operand} {t : TypeId} {b off : Nat} {cs : List Value} {v : Value} (hx : evalE env x = some (.pointer (some ⟨b, off, none⟩))) [ht : PlainT P t]
    (u : Blk b H cs) (hv : cs[off]? = some v) :
    OpQ P ⟨dst, .load t x, ty, pos, af, g⟩ env σ H v :=
  (fun ρ w hk s => by
    have hc := u.cell s hv
    obtain ⟨d, i, hd, hp, _⟩ := plainOf_spec ht.h
    simp [execOp, hk _ _ hx, Instr.loadAt, Instr.sureAddr, loadVar, run_isAgg hd, hp, hc])
theorem aggSize_spec {t : TypeId} {k : Nat} (h : aggSize P t = some k) : (∃ d, P.underlying t = some d ∧ plainT d = false) ∧ ∃ i, P.info? t = some i ∧ i.size = k := by
  unfold aggSize at h
  split at h <;> try cases h
  all_goals
    rename_i hu
    cases hi : P.info? t with
    | none => simp [hi] at h
    | some i =>
      simp [hi] at h
      exact ⟨⟨_, hu, rfl⟩, i, rfl, h⟩
theorem OpQ.load_agg {x : Operand} {t : TypeId} {b off k : Nat} {cs vs : List Value} (hx : evalE env x = some (.pointer (some ⟨b, off, none⟩))) [ht : AggT P t k]
    (u : Blk b H cs) (hl : Nat.ble (off + k) cs.length = true) (hv : (cs.drop off).take k = vs) :
    OpQ P ⟨dst, .load t x, ty, pos, af, g⟩ env σ H (.agg vs.toArray) :=
  (fun ρ w hk s => by
    obtain ⟨⟨d, hu, hp⟩, i, hi, hk'⟩ := aggSize_spec ht.h
    have hl := Nat.le_of_ble_eq_true hl
    have hlen : vs.length = k := by subst hv; simp; omega
    have hc : ∀ j v, vs[j]? = some v → w.cell? ((⟨b, off, none⟩ : Addr).add j) = some v := fun j v hj => by
      rw [addr_add]
      refine u.cell s ?_
      subst hv
      rcases Nat.lt_or_ge j k with h | h
      · simpa [List.getElem?_take, h, List.getElem?_drop] using hj
      · simp [List.getElem?_take, Nat.not_lt.2 h] at hj
    have hr := run_loadCells_list (P := P) w ⟨b, off, none⟩ vs hc
    rw [hlen] at hr
    simp [execOp, hk _ _ hx, Instr.loadAt, Instr.sureAddr, loadVar, run_isAgg hu, hp, sizeOf, typeInfo, hi, hk', hr])
/-- An operation that yields one value and turns the memory so. -/
def OpU (P : Program) (o : Oper) (env : Env) (σ : Sig) (H : List HP) (v : Value) (H' : List HP) : Prop :=
  ∀ ρ w, Known env ρ → St σ H w → ∃ w', ((execOp ρ o).run P w = .ok (.value v) w' ∨ ((execOp ρ o).run P w = .ok .skip w' ∧ v = undef)) ∧ St σ H' w'
theorem OpU.to {o : Oper} {v : Value} {H' : List HP} (h : OpU P o env σ H v H') : OpTo P o env σ H (fun _ : Unit => True) (fun _ => v) (fun _ => H') :=
  fun ρ w hk s => let ⟨w', h1, h2⟩ := h ρ w hk s; ⟨(), w', trivial, h1, h2⟩
theorem EntL.u {op : Op} {v : Value} {H' : List HP} (h : OpU P ⟨dst, op, ty, pos, af, none⟩ env σ H v H') (hd : okDst n dst = true) (k : EntL P ops Q l n (putE env dst v) σ H') : EntL P ops Q (⟨dst, op, ty, pos, af, none⟩ :: l) n env σ H :=
  EntL.op rfl (okDst.lt hd) h.to (fun _ _ => k)
/-- One that makes something: what is told of it by 'x'. -/
theorem EntL.new {op : Op} {β : Sort _} {φ : β → Prop} {val : β → Value} {H' : β → List HP} (h : OpTo P ⟨dst, op, ty, pos, af, none⟩ env σ H φ val H') (hd : okDst n dst = true)
    (k : ∀ x, φ x → EntL P ops Q l n (putE env dst (val x)) σ (H' x)) : EntL P ops Q (⟨dst, op, ty, pos, af, none⟩ :: l) n env σ H :=
  EntL.op rfl (okDst.lt hd) h k

theorem OpU.store {x y : Operand} {t : TypeId} {b off : Nat} {cs : List Value} {v : Value} {H' : List HP} (hx : evalE env x = some (.pointer (some ⟨b, off, none⟩))) (hy : evalE env y = some v)
    [ht : PlainT P t] (h1 : v.oneCell' = true) (u : Upd b H cs (cs.set off v) H') (hl : Nat.ble (off + 1) cs.length = true) : OpU P ⟨dst, .store t x y, ty, pos, af, g⟩ env σ H undef H' := fun ρ w hk s => by
  have hl := Nat.le_of_ble_eq_true hl
  have hc := u.blk.cell s (List.getElem?_eq_getElem (show off < cs.length by omega))
  have hf := u.blk.free s (show off < cs.length by omega)
  refine ⟨w.setCell ⟨b, off, none⟩ v, .inr ⟨?_, rfl⟩, u.setCell s⟩
  obtain ⟨d, i, hd, hp, hi, his⟩ := plainOf_spec ht.h
  have hcells : v.cells = #[v] := by cases v <;> first | rfl | simp [Value.oneCell'] at h1
  have hst : (Go.store ⟨b, off, none⟩ v).run P w = .ok () (w.setCell ⟨b, off, none⟩ v) := by
    rw [run_store P w _ v _ (by cases v <;> first | rfl | simp [Value.oneCell'] at h1)]
    simp [hc, hf]
  simp [execOp, hk _ _ hx, hk _ _ hy, Instr.storeAt, Instr.sureAddr, storeVar, hcells, sizeOf, typeInfo, hi, his, storeCells, addr_add, hst]

/-! ### New blocks -/
theorem OpTo.box {x : Operand} {t : TypeId} {v : Value} (hx : evalE env x = some v) : OpTo P ⟨dst, .box t x, ty, pos, af, g⟩ env σ H (fun _ : Nat => True) (fun b => .pointer (some ⟨b, 0, none⟩)) (fun b => cl b v.cells.toList :: H) := fun ρ w hk s =>
  ⟨w.heap.size, w.alloc (.cells v.cells t), trivial, .inl (by simp [execOp, hk _ _ hx, Instr.box, newVar, newRow]), (by simpa using s.alloc : St σ (pt w.heap.size (.cells v.cells.toList.toArray t (0, 0)) :: H) _).shut_cl⟩
theorem OpTo.alloc {t : TypeId} {z : Value} [hz : ZeroT P t z] : OpTo P ⟨dst, .alloc t, ty, pos, af, g⟩ env σ H (fun _ : Nat => True) (fun b => .pointer (some ⟨b, 0, none⟩)) (fun b => cl b z.cells.toList :: H) := fun ρ w hk s => by
  refine ⟨w.heap.size, w.alloc (.cells z.cells t), trivial, .inl ?_, (by simpa using s.alloc : St σ (pt w.heap.size (.cells z.cells.toList.toArray t (0, 0)) :: H) _).shut_cl⟩
  have hz := hz.h
  cases h : P.info? t with
  | none => simp [h] at hz
  | some j =>
    simp [h] at hz
    simp [execOp, Instr.alloc, zeroValue, typeInfo, h, hz, newVar, newRow]

/-! ### Calls -/
/-- a call, by its contract -/
theorem EntL.call {f : FuncId} {xs : List Operand} {vs : List Value} {tys : Array TypeId} {pre : List HP → List HP} {R : List HP} {β : Sort _} {φ : β → Prop} {val : β → Value} {post : β → List HP → List HP}
    (hc : Ctr P f vs pre φ val post) [hf : FnT P f] (hv : xs.map (evalE env) = vs.map some) (hp : Fits (pre R) H) (hd : okDst n dst = true)
    (kk : ∀ x, φ x → EntL P ops Q l n (putE env dst (val x)) σ (post x R)) : EntL P ops Q (⟨dst, .call ⟨.value (.func f), xs.toArray, tys⟩, ty, pos, af, none⟩ :: l) n env σ H := by
  intro a w fr s
  obtain ⟨fn, hf1, hf2, hf3⟩ := fnOk_spec hf.h
  refine wpOper (wanted_none rfl a) ?_
  have hr := run_call (P := P) (ρ := a.eval) (o := ⟨dst, .call ⟨.value (.func f), xs.toArray, tys⟩, ty, pos, af, none⟩) (w := w) rfl hf1 hf2 hf3 (evals fr.known hv) rfl
  simp only [Oper.wp, hr, Oper.upon]
  refine (hc σ R w (hp.st s)).mono ?_
  rintro e w' ⟨x, hx, rfl, s'⟩
  exact kk x hx _ _ (fr.put _ (okDst.lt hd)) s'

/-! ### Returning -/
section
variable {β : Sort _} {R : List HP} {φ : β → Prop} {val : β → Value} {post : β → List HP → List HP} {fn : Func}
theorem EntX.ret_of {v : Value} (hr : ∀ a w, Frm n env a → St σ H w → (results fn a.tmps).run P w = .ok v w) (x : β) (hφ : φ x) (hv : v = val x) (hm : ∀ w, St σ H w → St σ (post x R) w) :
    EntX (bodyPost P fn (RPost σ R φ val post)) .ret n env σ H := fun a w f s => ⟨f.defers, v, hr a w f s, x, hφ, by rw [hv], hm w s⟩
theorem EntX.norm_of {v : Value} (hr : ∀ a w, Frm n env a → St σ H w → (results fn a.tmps).run P w = .ok v w) (x : β) (hφ : φ x) (hv : v = val x) (hm : ∀ w, St σ H w → St σ (post x R) w) :
    EntX (bodyPost P fn (RPost σ R φ val post)) .normal n env σ H := fun a w f s => ⟨f.defers, v, hr a w f s, x, hφ, by rw [hv], hm w s⟩
theorem res0 (h : fn.results = #[]) : ∀ a w, Frm n env a → St σ H w → (results fn a.tmps).run P w = .ok (.tuple #[]) w := fun _ _ _ _ => results_none h _ _ _
theorem res1 {t : Tmp} {v : Value} (h : fn.results = #[.tmp t]) (hv : look env t = some v) : ∀ a w, Frm n env a → St σ H w → (results fn a.tmps).run P w = .ok v w := fun a w f _ => by
  rw [results_tmp h, Array.getD_eq_getD_getElem?, f.knows _ _ hv]; rfl
theorem res2 {t u : Tmp} {v v' : Value} (h : fn.results = #[.tmp t, .tmp u]) (hv : look env t = some v) (hv' : look env u = some v') : ∀ a w, Frm n env a → St σ H w → (results fn a.tmps).run P w = .ok (.tuple #[v, v']) w := fun a w f _ => by
  rw [results_tmp2 h, Array.getD_eq_getD_getElem?, Array.getD_eq_getD_getElem?, f.knows _ _ hv, f.knows _ _ hv']; rfl
end
theorem St.keep {pre R : List HP} (hp : Picks pre H R) : ∀ w, St σ H w → St σ pre w := fun _ s => s.drop hp

theorem wrap_i64 {x : Int} (h : -9223372036854775808 ≤ x) (h' : x ≤ 9223372036854775807) : IntKind.i64.wrap x = x := IntWalk.i64_in _ ⟨h, h'⟩
theorem wrap_u64 {x : Int} (h : 0 ≤ x) (h' : x ≤ 18446744073709551615) : IntKind.u64.wrap x = x := IntWalk.u64_in _ ⟨h, h'⟩
theorem wrap_u32 {x : Int} (h : 0 ≤ x) (h' : x ≤ 4294967295) : IntKind.u32.wrap x = x := IntWalk.u32_in _ ⟨h, h'⟩
theorem wrap_u8 {x : Int} (h : 0 ≤ x) (h' : x ≤ 255) : IntKind.u8.wrap x = x := IntWalk.u8_in _ ⟨h, h'⟩
end
attribute [irreducible] OpQ OpU cl ar
end Go.Sl
