/-
  Regions that draw their order: quiet operations first, the others in whatever order may come. 'bar': an operation behind which nothing is asked of the memory any more. No program in sight.
-/
import Derived.Test.YthlbimdlpadhdaaSlMisc
namespace Go.Sl
open Go
attribute [local semireducible] Ent EntL EntX OpTo Ctr pt OpQ OpU cl ar

section
variable {P : Program} {ops : Array Oper} {Q : Exit → Act → World → Prop}

/-- no way out by a panic -/
def NoP (Q : Exit → Act → World → Prop) : Prop := ∀ c a w, ¬ Q (.panic c) a w
theorem NoP.then' {K : Act → World → Prop} (h : NoP Q) : NoP (Exit.then K Q) := fun c a w => h c a w
theorem NoP.block {id : Nat} (h : NoP Q) : NoP (Exit.inBlock id Q) := fun c a w => h c a w
theorem NoP.body {fn : Func} {β : Sort _} {σ : Sig} {R : List HP} {φ : β → Prop} {val : β → Value} {post : β → List HP → List HP} : NoP (bodyPost P fn (RPost σ R φ val post)) := by
  rintro c a w ⟨_, x, _, h, _⟩
  cases h

/-- Whatever order is picked from here on; 'S' holds behind each operation, as long as it is asked for. -/
def wpAnyG (P : Program) (ops : Array Oper) (Q : Exit → Act → World → Prop) (S : Array Bool → World → Prop) : Nat → Array Bool → Act → World → Prop
  | 0, listed, a, w => Region.ready .any ops listed = [] ∧ Q .normal a w
  | fuel + 1, listed, a, w =>
    (Region.ready .any ops listed = [] → Q .normal a w) ∧
    ∀ i ∈ Region.ready .any ops listed, wpOp P ops Q i (fun a' w' => S (listed.setIfInBounds i true) w' ∧ wpAnyG P ops Q S fuel (listed.setIfInBounds i true) a' w') a w

theorem wpAny_of_G {S : Array Bool → World → Prop} : ∀ (fuel : Nat) (listed : Array Bool) (a : Act) (w : World), wpAnyG P ops Q S fuel listed a w → wpAny P .any ops Q fuel listed a w
  | 0, _, _, _, h => h
  | fuel + 1, _, _, _, h => ⟨h.1, fun i hi => wpOp_mono (fun a' w' h' => wpAny_of_G fuel _ a' w' h'.2) (h.2 i hi)⟩

/-- 'bar' waits for 'i'. -/
def Waits (ops : Array Oper) (bar i : Nat) : Bool :=
  match ops[bar]? with
  | some o => o.after.any fun e => Region.binds .any e && e.on == i
  | none => false
theorem Waits.out {bar i : Nat} (h : Waits ops bar i = true) : ∃ o, ops[bar]? = some o ∧ ∃ e ∈ o.after, Region.binds .any e = true ∧ e.on = i := by
  unfold Waits at h
  split at h
  · rename_i o ho
    obtain ⟨e, he, hb⟩ := Array.any_eq_true'.1 h
    simp only [Bool.and_eq_true, beq_iff_eq] at hb
    exact ⟨o, ho, e, he, hb.1, hb.2⟩
  · cases h

theorem wpAnyG_first {S0 : World → Prop} {bar : Nat} {i : Nat} {oi : Oper} {v : Value} (hi : ops[i]? = some oi) (hsel : ∀ (j : Nat) (o : Oper) cs b, ops[j]? = some o → o.op ≠ .select cs b) (hQ : NoP Q)
    (hbar : bar < ops.size → Waits ops bar i = true) :
    ∀ (fuel : Nat) (listed : Array Bool) (a : Act) (w : World), (bar < ops.size → listed.getD bar true = false) →
      (∀ j oj, ops[j]? = some oj → j ≠ i → listed.getD j true = false → (∀ e ∈ oj.after, Region.binds .any e = true → e.on ≠ i) → oi.apart ops oj = true) →
      i ∈ Region.ready .any ops listed → YieldsIf P ops S0 oi v a → S0 w →
      wpAnyG P ops Q (fun l w => (bar < ops.size → l.getD bar true = false) → S0 w) fuel (listed.setIfInBounds i true) (a.put oi.dst v) w →
      wpAnyG P ops Q (fun l w => (bar < ops.size → l.getD bar true = false) → S0 w) (fuel + 1) listed a w := by
  intro fuel
  induction fuel with
  | zero =>
    intro listed a w _ _ hr hy hS H
    refine ⟨fun h => (by rw [h] at hr; cases hr), fun j hj => ?_⟩
    by_cases hji : j = i
    · subst hji; exact hy.wpOp hi hS ⟨fun _ => hS, H⟩
    · have := ready_mono hj hji
      rw [H.1] at this
      cases this
  | succ fuel ih =>
    intro listed a w hun hfree hr hy hS H
    refine ⟨fun h => (by rw [h] at hr; cases hr), fun j hj => ?_⟩
    by_cases hji : j = i
    · subst hji; exact hy.wpOp hi hS ⟨fun _ => hS, H⟩
    · have h1 := H.2 j (ready_mono hj hji)
      obtain ⟨hjun, oj, hoj, hall⟩ := mem_ready.1 hj
      have hnot : ∀ e ∈ oj.after, Region.binds .any e = true → e.on ≠ i := fun e he hb heq => by
        have h1 := hall e he hb
        have h0 := (mem_ready.1 hr).1
        rw [heq] at h1
        rcases Nat.lt_or_ge i listed.size with h' | h'
        · simp [h'] at h0 h1; rw [h0] at h1; cases h1
        · simp [Array.getElem?_eq_none h'] at h1
      have hjb : bar < ops.size → j ≠ bar := fun hb e => by
        subst e
        obtain ⟨oj', hoj', e, he, hb', heq⟩ := Waits.out (hbar hb)
        rw [hoj] at hoj'
        cases hoj'
        exact hnot e he hb' heq
      have h2 := wpOp_putIf hoj (hfree j oj hoj hji hjun hnot) (fun cs b => hsel i oi cs b hi) (fun cs b => hsel j oj cs b hoj) (fun c a w h => (hQ c _ w h).elim) hy h1
      have hfree' : ∀ k ok, ops[k]? = some ok → k ≠ i → (listed.setIfInBounds j true).getD k true = false →
          (∀ e ∈ ok.after, Region.binds .any e = true → e.on ≠ i) → oi.apart ops ok = true := fun k ok hk hki hun hno => by
        refine hfree k ok hk hki ?_ hno
        by_cases hjk : j = k
        · subst hjk; exact hjun
        · rw [getD_set_ne true hjk] at hun; exact hun
      have hun' : bar < ops.size → (listed.setIfInBounds j true).getD bar true = false := fun hb => by rw [getD_set_ne true (hjb hb)]; exact hun hb
      refine wpOp_mono (fun a' w' h3 => ?_) h2
      have hS' : S0 w' := h3.2.1 (fun hb => by
        have hbi : i ≠ bar := fun e => by
          subst e
          obtain ⟨oj', hoj', e, he, hb', heq⟩ := Waits.out (hbar hb)
          obtain ⟨hiun, oi', hoi', hall'⟩ := mem_ready.1 hr
          rw [hoi'] at hoj'
          cases hoj'
          have := hall' e he hb'
          rw [heq] at this
          rw [Array.getD_eq_getD_getElem?] at this hiun
          cases hh : listed[i]? <;> simp_all
        rw [getD_set_ne true (hjb hb), getD_set_ne true hbi]
        exact hun hb)
      refine ⟨fun _ => hS', ih (listed.setIfInBounds j true) a' w' hun' hfree' (ready_mono hr (Ne.symm hji)) h3.1 hS' ?_⟩
      rw [Array.setIfInBounds_comm _ _ hji]
      exact h3.2.2

/-! ### As rules -/
variable {n : Nat} {env : Env} {σ : Sig} {H Hs : List HP} {bar fuel : Nat} {listed : List Bool}
/-- in a region that draws: 'listed' has come up; 'Hs' is what lies in memory till 'bar' comes up -/
def EntD (P : Program) (ops : Array Oper) (Q : Exit → Act → World → Prop) (bar : Nat) (Hs : List HP) (fuel : Nat) (listed : List Bool) (n : Nat) (env : Env) (σ : Sig) (H : List HP) : Prop :=
  ∀ a w, Frm n env a → St σ H w → wpAnyG P ops Q (fun l w => (bar < ops.size → l.getD bar true = false) → St σ Hs w) fuel listed.toArray a w

theorem Ent.draw {id : Nat} {l : List Oper} (bar : Nat) (Hs : List HP) (hm : P.follows .mixedOrders = true) (h : EntD P l.toArray Q bar Hs l.length (List.replicate l.length false) n env σ H) : Ent P (.region id l.toArray true) Q n env σ H := by
  intro a w f s
  refine wp_region_any hm (wpAny_of_G (S := fun l' w => (bar < l.toArray.size → l'.getD bar true = false) → St σ Hs w) _ _ _ _ ?_)
  have := h a { w with drawn := w.drawn + 1 } f s.drew
  have e : (List.replicate l.length false).toArray = Array.replicate l.toArray.size false := by simp
  rw [e] at this
  exact this

/-- a quiet operation, whose guard is none or met -/
theorem EntD.q (i : Nat) {dst : Option Tmp} {op : Op} {ty : TypeId} {pos : String} {af : Array Edge} {gd : Option (Nat × Bool)} {v : Value} (hi : ops[i]? = some ⟨dst, op, ty, pos, af, gd⟩) (hs : Region.noSelect ops = true) (hQ : NoP Q)
    (hr : (Region.ready .any ops listed.toArray).contains i = true) (hf : Region.free .any ops listed.toArray i = true) (hb : (Nat.ble ops.size bar || (Waits ops bar i && !listed.toArray.getD bar true)) = true)
    (hw : ∀ a, Frm n env a → Region.wanted ⟨dst, op, ty, pos, af, gd⟩ (yielded ops a.tmps) = true) (h : OpQ P ⟨dst, op, ty, pos, af, gd⟩ env σ Hs v) (hd : okDst n dst = true) (hm : ∀ w, St σ H w → St σ Hs w)
    (k : EntD P ops Q bar Hs fuel (listed.set i true) n (putE env dst v) σ H) : EntD P ops Q bar Hs (fuel + 1) listed n env σ H := by
  intro a w f s
  have hb' : bar < ops.size → Waits ops bar i = true ∧ listed.toArray.getD bar true = false := fun hlt => by
    have : Nat.ble ops.size bar = false := by
      cases h : Nat.ble ops.size bar with
      | false => rfl
      | true => have := Nat.le_of_ble_eq_true h; omega
    rw [this] at hb
    simpa using hb
  refine wpAnyG_first hi (Region.noSelect_spec hs) hQ (fun hlt => (hb' hlt).1) fuel listed.toArray a w (fun hlt => (hb' hlt).2) (Region.free_spec hi hf) (by simpa using hr) (.inl ⟨hw a f, fun w' s' => h a.eval w' f.known s'⟩) (hm w s) ?_
  have := k (a.put dst v) w (f.put _ (okDst.lt hd)) s
  simpa using this
/-- one whose guard is not met -/
theorem EntD.pass (i : Nat) {dst : Option Tmp} {op : Op} {ty : TypeId} {pos : String} {af : Array Edge} {gd : Option (Nat × Bool)} (hi : ops[i]? = some ⟨dst, op, ty, pos, af, gd⟩) (hs : Region.noSelect ops = true) (hQ : NoP Q)
    (hr : (Region.ready .any ops listed.toArray).contains i = true) (hf : Region.free .any ops listed.toArray i = true) (hb : (Nat.ble ops.size bar || (Waits ops bar i && !listed.toArray.getD bar true)) = true)
    (hw : ∀ a, Frm n env a → Region.wanted ⟨dst, op, ty, pos, af, gd⟩ (yielded ops a.tmps) = false) (hd : okDst n dst = true) (hm : ∀ w, St σ H w → St σ Hs w)
    (k : EntD P ops Q bar Hs fuel (listed.set i true) n (putE env dst undef) σ H) : EntD P ops Q bar Hs (fuel + 1) listed n env σ H := by
  intro a w f s
  have hb' : bar < ops.size → Waits ops bar i = true ∧ listed.toArray.getD bar true = false := fun hlt => by
    have : Nat.ble ops.size bar = false := by
      cases h : Nat.ble ops.size bar with
      | false => rfl
      | true => have := Nat.le_of_ble_eq_true h; omega
    rw [this] at hb
    simpa using hb
  refine wpAnyG_first hi (Region.noSelect_spec hs) hQ (fun hlt => (hb' hlt).1) fuel listed.toArray a w (fun hlt => (hb' hlt).2) (Region.free_spec hi hf) (by simpa using hr) (.inr ⟨hw a f, rfl⟩) (hm w s) ?_
  have := k (a.put dst undef) w (f.put _ (okDst.lt hd)) s
  simpa using this

/-- whichever may come up comes up -/
def EntO (P : Program) (ops : Array Oper) (Q : Exit → Act → World → Prop) (bar : Nat) (Hs : List HP) (fuel : Nat) (listed : List Bool) (i : Nat) (o : Oper) (n : Nat) (env : Env) (σ : Sig) (H : List HP) : Prop :=
  ∀ a w, Frm n env a → St σ H w → ops[i]? = some o → wpOp P ops Q i (fun a' w' => ((bar < ops.size → (listed.toArray.setIfInBounds i true).getD bar true = false) → St σ Hs w') ∧ wpAnyG P ops Q (fun l w => (bar < ops.size → l.getD bar true = false) → St σ Hs w) fuel (listed.toArray.setIfInBounds i true) a' w') a w
theorem EntD.one (i : Nat) {o : Oper} (hr : Region.ready .any ops listed.toArray = [i]) (ho : ops[i]? = some o) (h : EntO P ops Q bar Hs fuel listed i o n env σ H) : EntD P ops Q bar Hs (fuel + 1) listed n env σ H := by
  intro a w f s
  refine ⟨fun h0 => (by rw [hr] at h0; cases h0), fun j hj => ?_⟩
  rw [hr] at hj
  have : j = i := by simpa using hj
  subst this
  exact h a w f s ho
theorem EntD.two (i j : Nat) {o o' : Oper} (hr : Region.ready .any ops listed.toArray = [i, j]) (ho : ops[i]? = some o) (ho' : ops[j]? = some o') (h : EntO P ops Q bar Hs fuel listed i o n env σ H) (h' : EntO P ops Q bar Hs fuel listed j o' n env σ H) : EntD P ops Q bar Hs (fuel + 1) listed n env σ H := by
  intro a w f s
  refine ⟨fun h0 => (by rw [hr] at h0; cases h0), fun k hk => ?_⟩
  rw [hr] at hk
  have : k = i ∨ k = j := by simpa using hk
  rcases this with rfl | rfl
  · exact h a w f s ho
  · exact h' a w f s ho'
theorem EntD.three (i j k : Nat) {o o' o'' : Oper} (hr : Region.ready .any ops listed.toArray = [i, j, k]) (ho : ops[i]? = some o) (ho' : ops[j]? = some o') (ho'' : ops[k]? = some o'') (h : EntO P ops Q bar Hs fuel listed i o n env σ H) (h' : EntO P ops Q bar Hs fuel listed j o' n env σ H) (h'' : EntO P ops Q bar Hs fuel listed k o'' n env σ H) : EntD P ops Q bar Hs (fuel + 1) listed n env σ H := by
  intro a w f s
  refine ⟨fun h0 => (by rw [hr] at h0; cases h0), fun m hm => ?_⟩
  rw [hr] at hm
  have : m = i ∨ m = j ∨ m = k := by simpa using hm
  rcases this with rfl | rfl | rfl
  · exact h a w f s ho
  · exact h' a w f s ho'
  · exact h'' a w f s ho''
theorem EntD.mem {H' : List HP} (hs : ∀ w, St σ H w → St σ H' w) (h : EntD P ops Q bar Hs fuel listed n env σ H') : EntD P ops Q bar Hs fuel listed n env σ H := fun a w f s => h a w f (hs w s)
theorem EntO.mem {i : Nat} {o : Oper} {H' : List HP} (hs : ∀ w, St σ H w → St σ H' w) (h : EntO P ops Q bar Hs fuel listed i o n env σ H') : EntO P ops Q bar Hs fuel listed i o n env σ H := fun a w f s => h a w f (hs w s)
theorem EntD.done (hr : Region.ready .any ops listed.toArray = []) (h : EntX Q .normal n env σ H) : EntD P ops Q bar Hs fuel listed n env σ H := by
  intro a w f s
  cases fuel with
  | zero => exact ⟨hr, h a w f s⟩
  | succ fuel => exact ⟨fun _ => h a w f s, by rw [hr]; simp⟩

/-- an operation with an effect, in whatever order -/
theorem EntO.to {i : Nat} {o : Oper} {β : Sort _} {φ : β → Prop} {val : β → Value} {H' : β → List HP} (hw : ∀ a, Frm n env a → Region.wanted o (yielded ops a.tmps) = true) (hd : okDst n o.dst = true)
    (h : OpTo P o env σ H φ val H') (hm : ∀ x, φ x → ((listed.set i true).toArray.getD bar true = true ∧ Nat.blt bar ops.size = true) ∨ ∀ w, St σ (H' x) w → St σ Hs w)
    (k : ∀ x, φ x → EntD P ops Q bar Hs fuel (listed.set i true) n (putE env o.dst (val x)) σ (H' x)) : EntO P ops Q bar Hs fuel listed i o n env σ H := by
  intro a w f s ho
  obtain ⟨x, w', hφ, hr, s'⟩ := h a.eval w f.known s
  have hk := k x hφ (a.put o.dst (val x)) w' (f.put _ (okDst.lt hd)) s'
  have hb : (bar < ops.size → (listed.toArray.setIfInBounds i true).getD bar true = false) → St σ Hs w' := fun hun => by
    rcases hm x hφ with ⟨h1, h2⟩ | h
    · have := hun (by have := Nat.le_of_ble_eq_true h2; omega)
      rw [show listed.toArray.setIfInBounds i true = (listed.set i true).toArray by simp, h1] at this
      cases this
    · exact h w' s'
  unfold wpOp
  simp only [ho, hw a f, if_true]
  refine .inl ?_
  rcases hr with hr | ⟨hr, hv⟩
  · simp only [Oper.wp, hr, Oper.upon]
    refine ⟨hb, ?_⟩
    simpa using hk
  · rw [hv] at hk
    simp only [Oper.wp, hr, Oper.upon]
    refine ⟨hb, ?_⟩
    simpa using hk
theorem OpQ.to {o : Oper} {v : Value} (h : OpQ P o env σ H v) : OpTo P o env σ H (fun _ : Unit => True) (fun _ => v) (fun _ => H) := fun ρ w hk s => ⟨(), w, trivial, .inl (h ρ w hk s), s⟩
theorem EntO.call {i : Nat} {dst : Option Tmp} {ty : TypeId} {pos : String} {af : Array Edge} {gd : Option (Nat × Bool)} {f : FuncId} {xs : List Operand} {vs : List Value} {tys : Array TypeId} {pre : List HP → List HP} {R : List HP} {β : Sort _} {φ : β → Prop} {val : β → Value} {post : β → List HP → List HP}
    (hw : ∀ a, Frm n env a → Region.wanted ⟨dst, .call ⟨.value (.func f), xs.toArray, tys⟩, ty, pos, af, gd⟩ (yielded ops a.tmps) = true) (hd : okDst n dst = true)
    (hc : Ctr P f vs pre φ val post) [hf : FnT P f] (hv : Vals env xs vs) (hp : Fits (pre R) H) (hm : ∀ x, φ x → ((listed.set i true).toArray.getD bar true = true ∧ Nat.blt bar ops.size = true) ∨ ∀ w, St σ (post x R) w → St σ Hs w)
    (k : ∀ x, φ x → EntD P ops Q bar Hs fuel (listed.set i true) n (putE env dst (val x)) σ (post x R)) : EntO P ops Q bar Hs fuel listed i ⟨dst, .call ⟨.value (.func f), xs.toArray, tys⟩, ty, pos, af, gd⟩ n env σ H := by
  intro a w fr s ho
  obtain ⟨fn, hf1, hf2, hf3⟩ := fnOk_spec hf.h
  have hr := run_call (P := P) (ρ := a.eval) (o := ⟨dst, .call ⟨.value (.func f), xs.toArray, tys⟩, ty, pos, af, gd⟩) (w := w) rfl hf1 hf2 hf3 (hv.known fr.known) rfl
  unfold wpOp
  simp only [ho, hw a fr, if_true]
  refine .inl ?_
  simp only [Oper.wp, hr, Oper.upon]
  refine (hc σ R w (hp.st s)).mono ?_
  rintro e w' ⟨x, hx, rfl, s'⟩
  have hk := k x hx (a.put dst (val x)) w' (fr.put _ (okDst.lt hd)) s'
  refine ⟨fun hun => ?_, by simpa using hk⟩
  rcases hm x hx with ⟨h1, h2⟩ | h
  · have := hun (by have := Nat.le_of_ble_eq_true h2; omega)
    rw [show listed.toArray.setIfInBounds i true = (listed.set i true).toArray by simp, h1] at this
    cases this
  · exact h w' s'
theorem want_none {o : Oper} (h : o.guard = none) : ∀ a : Act, Frm n env a → Region.wanted o (yielded ops a.tmps) = true := fun a _ => wanted_none h a
theorem want_yes {o : Oper} {j : Nat} {want b : Bool} {d : Tmp} (h : o.guard = some (j, want)) (hj : (ops[j]?).bind (·.dst) = some d) (hv : look env d = some (.bool b)) (hb : b = want) : ∀ a : Act, Frm n env a → Region.wanted o (yielded ops a.tmps) = true := fun a f => by
  rw [wanted_some h hj hv a f, hb]; simp
theorem want_no {o : Oper} {j : Nat} {want b : Bool} {d : Tmp} (h : o.guard = some (j, want)) (hj : (ops[j]?).bind (·.dst) = some d) (hv : look env d = some (.bool b)) (hb : b = !want) : ∀ a : Act, Frm n env a → Region.wanted o (yielded ops a.tmps) = false := fun a f => by
  rw [wanted_some h hj hv a f, hb]; cases want <;> rfl
theorem want_undef {o : Oper} {j : Nat} {want : Bool} {d : Tmp} (h : o.guard = some (j, want)) (hj : (ops[j]?).bind (·.dst) = some d) (hv : look env d = some undef) : ∀ a : Act, Frm n env a → Region.wanted o (yielded ops a.tmps) = false := fun a f => by
  have := f.knows _ _ hv
  simp only [Region.wanted, h, yielded, hj, Option.bind_some, this, undef]
  rfl
end
attribute [irreducible] EntD EntO
end Go.Sl
