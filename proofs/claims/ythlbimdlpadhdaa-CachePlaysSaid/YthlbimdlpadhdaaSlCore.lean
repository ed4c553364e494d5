/-
  A small separation logic over the model's worlds: heaps as blocks, assertions as lists of chunks, a frame known by lists of slots; rules for code and regions. No program in sight.
-/
import Derived.WalkKit
import Derived.OrdersHeld
namespace Go.Sl
open Go

/-! ## Heaps and assertions -/
abbrev PH := Nat → Option Obj
abbrev HP := PH → Prop

def none' : PH := fun _ => none
def emp : HP := fun h => h = none'
def pt (b : Nat) (o : Obj) : HP := fun h => h = fun x => if x = b then some o else none
def disj (h1 h2 : PH) : Prop := ∀ b, h1 b = none ∨ h2 b = none
def join (h1 h2 : PH) : PH := fun b => (h1 b).or (h2 b)
def star (A B : HP) : HP := fun h => ∃ h1 h2, disj h1 h2 ∧ h = join h1 h2 ∧ A h1 ∧ B h2
def pr (p : Prop) : HP := fun h => h = none' ∧ p
def ex {α : Sort _} (A : α → HP) : HP := fun h => ∃ x, A x h
def stars : List HP → HP
  | [] => emp
  | A :: l => star A (stars l)
/-- whatever memory -/
def tru : HP := fun _ => True

theorem disj.symm {h1 h2 : PH} (h : disj h1 h2) : disj h2 h1 := fun b => (h b).symm
theorem join_comm {h1 h2 : PH} (h : disj h1 h2) : join h1 h2 = join h2 h1 := by
  funext b
  rcases h b with h | h <;> simp [join, h]
theorem join_assoc (h1 h2 h3 : PH) : join (join h1 h2) h3 = join h1 (join h2 h3) := by
  funext b; simp [join, Option.or_assoc]
theorem disj_join {h1 h2 h3 : PH} : disj h1 (join h2 h3) ↔ disj h1 h2 ∧ disj h1 h3 := by
  constructor
  · intro h
    refine ⟨fun b => ?_, fun b => ?_⟩ <;> rcases h b with h | h
    · exact .inl h
    · right; simp [join, Option.or_eq_none_iff] at h; exact h.1
    · exact .inl h
    · right; simp [join, Option.or_eq_none_iff] at h; exact h.2
  · rintro ⟨h, h'⟩ b
    rcases h b with h | h
    · exact .inl h
    · rcases h' b with h' | h'
      · exact .inl h'
      · right; simp [join, h, h']

theorem star_comm (A B : HP) : star A B = star B A := by
  have key : ∀ A B : HP, ∀ h, star A B h → star B A h := by
    rintro A B h ⟨h1, h2, hd, rfl, a, b⟩
    exact ⟨h2, h1, hd.symm, join_comm hd, b, a⟩
  funext h
  exact propext ⟨key _ _ h, key _ _ h⟩

theorem star_assoc (A B C : HP) : star (star A B) C = star A (star B C) := by
  funext h
  apply propext
  constructor
  · rintro ⟨h12, h3, hd, rfl, ⟨h1, h2, hd', rfl, a, b⟩, c⟩
    have hx := (disj_join (h1 := h3)).1 hd.symm
    refine ⟨h1, join h2 h3, disj_join.2 ⟨hd', hx.1.symm⟩, join_assoc _ _ _, a, h2, h3, hx.2.symm, rfl, b, c⟩
  · rintro ⟨h1, h23, hd, rfl, a, h2, h3, hd', rfl, b, c⟩
    have hx := disj_join.1 hd
    refine ⟨join h1 h2, h3, (disj_join.2 ⟨hx.2.symm, hd'.symm⟩).symm, (join_assoc _ _ _).symm, ⟨h1, h2, hx.1, rfl, a, b⟩, c⟩

theorem star_left (A B C : HP) : star A (star B C) = star B (star A C) := by
  rw [← star_assoc, star_comm A B, star_assoc]

theorem emp_star (A : HP) : star emp A = A := by
  funext h
  apply propext
  constructor
  · rintro ⟨h1, h2, _, rfl, rfl, a⟩
    have : join none' h2 = h2 := by funext b; simp [join, none']
    rw [this]; exact a
  · intro a
    exact ⟨none', h, fun b => .inl rfl, by funext b; simp [join, none'], rfl, a⟩
theorem star_emp (A : HP) : star A emp = A := by rw [star_comm, emp_star]

theorem stars_append (l r : List HP) : stars (l ++ r) = star (stars l) (stars r) := by
  induction l with
  | nil => simp [stars, emp_star]
  | cons A l ih => simp [stars, ih, star_assoc]
theorem stars_one (A : HP) : stars [A] = A := by simp [stars, star_emp]

theorem star_mono {A A' B B' : HP} (ha : ∀ h, A h → A' h) (hb : ∀ h, B h → B' h) : ∀ h, star A B h → star A' B' h :=
  fun _ ⟨h1, h2, d, e, a, b⟩ => ⟨h1, h2, d, e, ha _ a, hb _ b⟩

theorem star_pr {p : Prop} {A : HP} {h : PH} : star (pr p) A h ↔ p ∧ A h := by
  constructor
  · rintro ⟨h1, h2, _, rfl, ⟨rfl, hp⟩, a⟩
    have : join none' h2 = h2 := by funext b; simp [join, none']
    rw [this]; exact ⟨hp, a⟩
  · rintro ⟨hp, a⟩
    exact ⟨none', h, fun b => .inl rfl, by funext b; simp [join, none'], ⟨rfl, hp⟩, a⟩

/-! ## Choosing chunks -/
inductive Sel : HP → List HP → List HP → Prop
  | here {A : HP} {H : List HP} : Sel A (A :: H) H
  | there {A B : HP} {H H' : List HP} : Sel A H H' → Sel A (B :: H) (B :: H')
inductive Picks : List HP → List HP → List HP → Prop
  | nil {H : List HP} : Picks [] H H
  | cons {A : HP} {pre H H1 R : List HP} : Sel A H H1 → Picks pre H1 R → Picks (A :: pre) H R

theorem Sel.stars {A : HP} {H R : List HP} (h : Sel A H R) : stars H = star A (stars R) := by
  induction h with
  | here => rfl
  | there _ ih => simp only [Sl.stars, ih]; rw [star_left]
theorem Picks.stars {pre H R : List HP} (h : Picks pre H R) : stars H = star (stars pre) (stars R) := by
  induction h with
  | nil => simp [Sl.stars, emp_star]
  | cons s _ ih => rw [s.stars, ih]; simp [Sl.stars, star_assoc]

/-- The chunks of the first list are among those of the second. -/
inductive Fits : List HP → List HP → Prop
  | rfl {H : List HP} : Fits H H
  | nil {H : List HP} : Fits [] H
  | cons {A : HP} {T H H' : List HP} : Sel A H H' → Fits T H' → Fits (A :: T) H
  | drop {A : HP} {T H : List HP} : Fits T H → Fits T (A :: H)

/-! ## Worlds -/
def sub (h : PH) (w : World) : Prop := ∀ b o, h b = some o → w.heap[b]? = some o
def holds (A : HP) (w : World) : Prop := ∃ h, A h ∧ sub h w
abbrev Sig := Os × Array (Nat × ByteArray)
/-- The streams are these; the chunks lie in memory, apart from one another. -/
structure St (σ : Sig) (H : List HP) (w : World) : Prop where
  os : w.os = σ.1
  out : w.output = σ.2
  mem : holds (stars H) w

theorem holds.mono {A B : HP} {w : World} (hab : ∀ h, A h → B h) (h : holds A w) : holds B w := let ⟨x, a, s⟩ := h; ⟨x, hab _ a, s⟩
theorem St.mono {σ : Sig} {H H' : List HP} {w : World} (h : St σ H w) (hab : ∀ h, stars H h → stars H' h) : St σ H' w := ⟨h.os, h.out, h.mem.mono hab⟩
theorem St.of_eq {σ : Sig} {H H' : List HP} {w : World} (h : St σ H w) (e : stars H = stars H') : St σ H' w := ⟨h.os, h.out, e ▸ h.mem⟩

theorem St.picks {σ : Sig} {pre H R : List HP} {w : World} (hp : Picks pre H R) (h : St σ H w) : St σ (pre ++ [stars R]) w :=
  h.of_eq (by rw [hp.stars, stars_append, stars_one])
theorem St.back {σ : Sig} {post R : List HP} {w : World} (h : St σ (post ++ [stars R]) w) : St σ (post ++ R) w :=
  h.of_eq (by rw [stars_append, stars_append, stars_one])

theorem sub_left {h1 h2 : PH} {w : World} (h : sub (join h1 h2) w) : sub h1 w := fun b o e => h b o (by simp [join, e])
theorem sub_right {h1 h2 : PH} {w : World} (hd : disj h1 h2) (h : sub (join h1 h2) w) : sub h2 w := fun b o e => h b o (by
  rcases hd b with h' | h'
  · simp [join, h', e]
  · rw [h'] at e; cases e)

/-- What stands at a chunk's block. -/
theorem St.at {σ : Sig} {b : Nat} {o : Obj} {H R : List HP} {w : World} (s : Sel (pt b o) H R) (h : St σ H w) : w.heap[b]? = some o := by
  obtain ⟨x, hx, hs⟩ := h.mem
  rw [s.stars] at hx
  obtain ⟨h1, h2, _, rfl, e, _⟩ := hx
  exact hs b o (by rw [pt] at e; subst e; simp [join])

theorem size_lt {h : PH} {w : World} (hs : sub h w) {b : Nat} (hb : h b ≠ none) : b < w.heap.size := by
  cases e : h b with
  | none => exact absurd e hb
  | some o =>
    have := hs b o e
    rcases Nat.lt_or_ge b w.heap.size with h' | h'
    · exact h'
    · simp [Array.getElem?_eq_none h'] at this

/-- A block is turned: everything else stays. -/
theorem St.set {σ : Sig} {b : Nat} {o o' : Obj} {H R : List HP} {w w' : World} (s : Sel (pt b o) H R) (h : St σ H w)
    (hos : w'.os = w.os) (hout : w'.output = w.output) (hb : w'.heap[b]? = some o') (hne : ∀ k, k ≠ b → w'.heap[k]? = w.heap[k]?) : St σ (pt b o' :: R) w' := by
  refine ⟨hos.trans h.os, hout.trans h.out, ?_⟩
  obtain ⟨x, hx, hs⟩ := h.mem
  rw [s.stars] at hx
  obtain ⟨h1, h2, hd, rfl, e, a⟩ := hx
  rw [pt] at e
  subst e
  have h2b : h2 b = none := by rcases hd b with h | h <;> simp_all
  refine ⟨join (fun x => if x = b then some o' else none) h2, ⟨_, h2, fun k => ?_, rfl, rfl, a⟩, ?_⟩
  · by_cases hk : k = b
    · right; rw [hk]; exact h2b
    · left; simp [hk]
  · intro k o'' hk
    by_cases hkb : k = b
    · subst hkb
      simp [join] at hk
      rw [hb, hk]
    · simp [join, hkb] at hk
      rw [hne k hkb]
      exact hs k o'' (by simp [join, hkb, hk])

/-- A new block. -/
theorem St.new {σ : Sig} {o : Obj} {H : List HP} {w w' : World} (h : St σ H w)
    (hos : w'.os = w.os) (hout : w'.output = w.output) (hb : w'.heap[w.heap.size]? = some o) (hne : ∀ k, k < w.heap.size → w'.heap[k]? = w.heap[k]?) : St σ (pt w.heap.size o :: H) w' := by
  refine ⟨hos.trans h.os, hout.trans h.out, ?_⟩
  obtain ⟨x, hx, hs⟩ := h.mem
  have hn : x w.heap.size = none := by
    cases e : x w.heap.size with
    | none => rfl
    | some o => have := size_lt hs (b := w.heap.size) (by simp [e]); omega
  refine ⟨join (fun y => if y = w.heap.size then some o else none) x, ⟨_, x, fun k => ?_, rfl, rfl, hx⟩, ?_⟩
  · by_cases hk : k = w.heap.size
    · right; rw [hk]; exact hn
    · left; simp [hk]
  · intro k o'' hk
    by_cases hkb : k = w.heap.size
    · subst hkb
      simp [join] at hk
      rw [hb, hk]
    · simp [join, hkb] at hk
      have := hs k o'' hk
      rw [hne k (size_lt hs (by simp [hk]))]
      exact this

/-- The heap is the very same. -/
theorem St.same {σ : Sig} {H : List HP} {w w' : World} (h : St σ H w) (hos : w'.os = w.os) (hout : w'.output = w.output) (hh : w'.heap = w.heap) : St σ H w' :=
  ⟨hos.trans h.os, hout.trans h.out, let ⟨x, a, s⟩ := h.mem; ⟨x, a, fun b o e => by rw [hh]; exact s b o e⟩⟩
theorem St.drew {σ : Sig} {H : List HP} {w : World} (h : St σ H w) : St σ H w.drew := h.same rfl rfl rfl
theorem St.alloc {σ : Sig} {o : Obj} {H : List HP} {w : World} (h : St σ H w) : St σ (pt w.heap.size o :: H) (w.alloc o) :=
  h.new rfl rfl (by show (w.heap.push o)[w.heap.size]? = _; simp) (fun k hk => by show (w.heap.push o)[k]? = _; rw [Array.getElem?_push, if_neg (by omega)])

/-- Pure facts, existentials. -/
theorem St.pure {σ : Sig} {p : Prop} {H R : List HP} {w : World} (s : Sel (pr p) H R) (h : St σ H w) : p ∧ St σ R w := by
  obtain ⟨x, hx, hs⟩ := h.mem
  rw [s.stars] at hx
  have := star_pr.1 hx
  exact ⟨this.1, h.os, h.out, x, this.2, hs⟩
theorem St.lay {σ : Sig} {p : Prop} {H : List HP} {w : World} (hp : p) (h : St σ H w) : St σ (pr p :: H) w :=
  ⟨h.os, h.out, let ⟨x, a, s⟩ := h.mem; ⟨x, star_pr.2 ⟨hp, a⟩, s⟩⟩
/-- One chunk for several, or the other way round. -/
theorem St.swap {σ : Sig} {A : HP} {l H R : List HP} {w : World} (s : Sel A H R) (e : ∀ h, A h → stars l h) (h : St σ H w) : St σ (l ++ R) w := by
  refine ⟨h.os, h.out, h.mem.mono fun x hx => ?_⟩
  rw [s.stars] at hx
  rw [stars_append]
  exact star_mono e (fun _ h => h) _ hx
theorem St.fold {σ : Sig} {A : HP} {l H R : List HP} {w : World} (s : Picks l H R) (e : ∀ h, stars l h → A h) (h : St σ H w) : St σ (A :: R) w := by
  refine ⟨h.os, h.out, h.mem.mono fun x hx => ?_⟩
  rw [s.stars] at hx
  exact star_mono e (fun _ h => h) _ hx
theorem St.open {σ : Sig} {α : Sort _} {A : α → HP} {H R : List HP} {w : World} (s : Sel (ex A) H R) (h : St σ H w) : ∃ x, St σ (A x :: R) w := by
  obtain ⟨x, hx, hs⟩ := h.mem
  rw [s.stars] at hx
  obtain ⟨h1, h2, hd, rfl, ⟨y, hy⟩, a⟩ := hx
  exact ⟨y, h.os, h.out, _, ⟨h1, h2, hd, rfl, hy, a⟩, hs⟩
/-- Chunks may be dropped. -/
theorem St.drop {σ : Sig} {pre H R : List HP} {w : World} (hp : Picks pre H R) (h : St σ H w) : St σ pre w := by
  obtain ⟨x, hx, hs⟩ := h.mem
  rw [hp.stars] at hx
  obtain ⟨h1, h2, hd, rfl, a, _⟩ := hx
  exact ⟨h.os, h.out, h1, a, sub_left hs⟩
theorem Fits.imp {T H : List HP} (f : Fits T H) : ∀ {w : World} {G : HP}, holds (star G (stars H)) w → holds (star G (stars T)) w := by
  induction f with
  | rfl => exact fun h => h
  | @nil H =>
    rintro w G ⟨x, ⟨h1, h2, hd, rfl, a, _⟩, hs⟩
    rw [show stars [] = emp from Eq.refl _, star_emp]
    exact ⟨h1, a, sub_left hs⟩
  | @cons A T H H' s _ ih =>
    intro w G h
    rw [s.stars, ← star_assoc] at h
    have := ih h
    rw [star_assoc] at this
    exact this
  | @drop A T H _ ih =>
    intro w G h
    refine ih ?_
    simp only [Sl.stars] at h
    obtain ⟨x, hx, hs⟩ := h
    rw [star_left] at hx
    obtain ⟨h1, h2, hd, rfl, _, b⟩ := hx
    exact ⟨h2, b, sub_right hd hs⟩
theorem Fits.st {T H : List HP} (f : Fits T H) {σ : Sig} {w : World} (h : St σ H w) : St σ T w :=
  ⟨h.os, h.out, by have := f.imp (w := w) (G := emp) (by rw [emp_star]; exact h.mem); rwa [emp_star] at this⟩
theorem Fits.keep {T H : List HP} (f : Fits T H) {σ : Sig} : ∀ w, St σ H w → St σ T w := fun _ s => f.st s
/-- Two chunks' blocks are two. -/
theorem St.ne {σ : Sig} {b b' : Nat} {o o' : Obj} {H R R' : List HP} {w : World} (s : Sel (pt b o) H R) (s' : Sel (pt b' o') R R') (h : St σ H w) : b ≠ b' := by
  obtain ⟨x, hx, _⟩ := h.mem
  rw [s.stars, s'.stars] at hx
  obtain ⟨h1, _, hd, _, e, h2, h3, _, rfl, e', _⟩ := hx
  rw [pt] at e e'
  subst e e'
  rintro rfl
  rcases hd b with h | h <;> simp [join] at h

/-! ## Frames -/
abbrev Env := List (Nat × Value)
def look : Env → Nat → Option Value
  | [], _ => none
  | (s, v) :: e, t => bif Nat.beq s t then some v else look e t
structure Frm (n : Nat) (env : Env) (a : Act) : Prop where
  size : a.tmps.size = n
  defers : a.defers = []
  knows : ∀ t v, look env t = some v → a.tmps[t]? = some v

def evalE (env : Env) : Operand → Option Value
  | .tmp t => look env t
  | .const v => some v
  | .global g => some (.pointer (some ⟨g, 0, none⟩))
  | .func f => some (.func (.func f) #[] #[])
theorem Frm.eval {n : Nat} {env : Env} {a : Act} (h : Frm n env a) {x : Operand} {v : Value} (hx : evalE env x = some v) : a.eval x = v := by
  cases x with
  | tmp t =>
    have := h.knows t v hx
    simp [Act.eval, Array.getD_eq_getD_getElem?, this]
  | const c => simpa [evalE, Act.eval] using hx
  | global g => simpa [evalE, Act.eval] using hx
  | func f => simpa [evalE, Act.eval] using hx

def putE (env : Env) : Option Tmp → Value → Env
  | some d, v => (d, v) :: env
  | none, _ => env
theorem look_cons_self (e : Env) (t : Nat) (v : Value) : look ((t, v) :: e) t = some v := by simp [look]
theorem look_cons_ne (e : Env) {s t : Nat} (v : Value) (h : s ≠ t) : look ((s, v) :: e) t = look e t := by
  have : Nat.beq s t = false := by
    cases e : Nat.beq s t with
    | false => rfl
    | true => exact absurd (Nat.eq_of_beq_eq_true e) h
  simp [look, this]
theorem Frm.put {n : Nat} {env : Env} {a : Act} (h : Frm n env a) {dst : Option Tmp} (v : Value) (hd : ∀ d, dst = some d → d < n) : Frm n (putE env dst v) (a.put dst v) := by
  cases dst with
  | none => exact h
  | some d =>
    refine ⟨by simp [Act.put, h.size], h.defers, fun t u hu => ?_⟩
    by_cases ht : d = t
    · subst ht
      simp only [putE, look_cons_self, Option.some.injEq] at hu
      subst hu
      have := hd d rfl
      simp [Act.put, h.size, this]
    · simp only [putE, look_cons_ne _ _ ht] at hu
      have := h.knows t u hu
      simp [Act.put, ht, this]

inductive EnvSub : Env → Env → Prop
  | nil {env : Env} : EnvSub [] env
  | cons {t : Nat} {v : Value} {e env : Env} : look env t = some v → EnvSub e env → EnvSub ((t, v) :: e) env
theorem EnvSub.frm {n : Nat} {e env : Env} {a : Act} (hs : EnvSub e env) (h : Frm n env a) : Frm n e a := by
  refine ⟨h.size, h.defers, ?_⟩
  induction hs with
  | nil => intro t v h; simp [look] at h
  | @cons t v e env hl _ ih =>
    intro s u hu
    by_cases ht : t = s
    · subst ht
      simp only [look_cons_self, Option.some.injEq] at hu
      subst hu
      exact h.knows _ _ hl
    · rw [look_cons_ne _ _ ht] at hu
      exact ih h s u hu

/-! ## Code -/
section
variable {P : Program}

def Ent (P : Program) (c : Code) (Q : Exit → Act → World → Prop) (n : Nat) (env : Env) (σ : Sig) (H : List HP) : Prop :=
  ∀ a w, Frm n env a → St σ H w → c.wp P Q a w
def EntL (P : Program) (ops : Array Oper) (Q : Exit → Act → World → Prop) (l : List Oper) (n : Nat) (env : Env) (σ : Sig) (H : List HP) : Prop :=
  ∀ a w, Frm n env a → St σ H w → wpList P ops Q l a w
def EntX (Q : Exit → Act → World → Prop) (x : Exit) (n : Nat) (env : Env) (σ : Sig) (H : List HP) : Prop :=
  ∀ a w, Frm n env a → St σ H w → Q x a w

variable {Q : Exit → Act → World → Prop} {n : Nat} {env : Env} {σ : Sig} {H : List HP}

theorem Ent.seq {x y : Code} (h : Ent P x (Exit.then (y.wp P Q) Q) n env σ H) : Ent P (.seq x y) Q n env σ H := fun a w f s => wp_seq (h a w f s)
theorem Ent.region {id : Nat} {l : List Oper} (h : EntL P l.toArray Q l n env σ H) : Ent P (.region id l.toArray false) Q n env σ H := fun a w f s => wp_region_lit (h a w f s)
theorem Ent.skip (h : EntX Q .normal n env σ H) : Ent P .skip Q n env σ H := fun a w f s => wp_skip (h a w f s)
theorem Ent.label {l : Nat} (h : EntX Q .normal n env σ H) : Ent P (.label l) Q n env σ H := fun a w f s => wp_label (h a w f s)
theorem Ent.exit {id : Nat} (h : EntX Q (.exit id) n env σ H) : Ent P (.exit id) Q n env σ H := fun a w f s => wp_exit (h a w f s)
theorem Ent.ret (h : EntX Q .ret n env σ H) : Ent P .ret Q n env σ H := fun a w f s => wp_ret (h a w f s)
theorem Ent.block {id : Nat} {c : Code} (h : Ent P c (Exit.inBlock id Q) n env σ H) : Ent P (.block id c) Q n env σ H := fun a w f s => wp_block (h a w f s)
theorem Ent.cond {c : Operand} {x y : Code} {t : Bool} (hc : evalE env c = some (.bool t)) (ht : t = true → Ent P x Q n env σ H) (hf : t = false → Ent P y Q n env σ H) :
    Ent P (.cond c x y) Q n env σ H := fun a w f s => wp_cond_split (f.eval hc) (fun h => ht h a w f s) (fun h => hf h a w f s)
theorem Ent.cond_true {c : Operand} {x y : Code} {t : Bool} (hc : evalE env c = some (.bool t)) (h : t = true) (ht : Ent P x Q n env σ H) :
    Ent P (.cond c x y) Q n env σ H := Ent.cond hc (fun _ => ht) (fun h' => by rw [h] at h'; cases h')
theorem Ent.cond_false {c : Operand} {x y : Code} {t : Bool} (hc : evalE env c = some (.bool t)) (h : t = false) (ht : Ent P y Q n env σ H) :
    Ent P (.cond c x y) Q n env σ H := Ent.cond hc (fun h' => by rw [h] at h'; cases h') (fun _ => ht)

theorem Ent.ifD {c : Operand} {x y : Code} {p : Prop} [Decidable p] (hc : evalE env c = some (.bool (decide p))) (ht : p → Ent P x Q n env σ H) (hf : ¬ p → Ent P y Q n env σ H) :
    Ent P (.cond c x y) Q n env σ H := Ent.cond hc (fun h => ht (of_decide_eq_true h)) (fun h => hf (of_decide_eq_false h))
theorem Ent.ifN {c : Operand} {x y : Code} {p : Prop} [Decidable p] (hc : evalE env c = some (.bool (!decide p))) (ht : ¬ p → Ent P x Q n env σ H) (hf : p → Ent P y Q n env σ H) :
    Ent P (.cond c x y) Q n env σ H := Ent.cond hc (fun h => ht (by simpa using h)) (fun h => hf (by simpa using h))

theorem EntX.then_normal {y : Code} (h : Ent P y Q n env σ H) : EntX (Exit.then (y.wp P Q) Q) .normal n env σ H := h
theorem EntX.then_ret {K : Act → World → Prop} (h : EntX Q .ret n env σ H) : EntX (Exit.then K Q) .ret n env σ H := h
theorem EntX.then_exit {K : Act → World → Prop} {id : Nat} (h : EntX Q (.exit id) n env σ H) : EntX (Exit.then K Q) (.exit id) n env σ H := h
theorem EntX.block_normal {id : Nat} (h : EntX Q .normal n env σ H) : EntX (Exit.inBlock id Q) .normal n env σ H := h
theorem EntX.block_ret {id : Nat} (h : EntX Q .ret n env σ H) : EntX (Exit.inBlock id Q) .ret n env σ H := h
theorem EntX.block_exit {id id' : Nat} (e : Nat.beq id' id = true) (h : EntX Q .normal n env σ H) : EntX (Exit.inBlock id Q) (.exit id') n env σ H := by
  intro a w f s
  have e : id' = id := Nat.eq_of_beq_eq_true e
  subst e
  simpa [Exit.inBlock] using h a w f s
theorem EntX.block_exit_other {id id' : Nat} (e : Nat.beq id' id = false) (h : EntX Q (.exit id') n env σ H) : EntX (Exit.inBlock id Q) (.exit id') n env σ H := by
  intro a w f s
  have e : ¬ id' = id := Nat.ne_of_beq_eq_false e
  simpa [Exit.inBlock, e] using h a w f s

/-! Weakening. -/
theorem Ent.sub {c : Code} {e : Env} (hs : EnvSub e env) (h : Ent P c Q n e σ H) : Ent P c Q n env σ H := fun a w f s => h a w (hs.frm f) s
theorem Ent.mem {c : Code} {H' : List HP} (hs : ∀ w, St σ H w → St σ H' w) (h : Ent P c Q n env σ H') : Ent P c Q n env σ H := fun a w f s => h a w f (hs w s)
theorem Ent.memEx {c : Code} {α : Sort _} {H' : α → List HP} {φ : α → Prop} (hs : ∀ w, St σ H w → ∃ x, φ x ∧ St σ (H' x) w) (h : ∀ x, φ x → Ent P c Q n env σ (H' x)) : Ent P c Q n env σ H :=
  fun a w f s => let ⟨x, p, s'⟩ := hs w s; h x p a w f s'
theorem EntX.mem {x : Exit} {H' : List HP} (hs : ∀ w, St σ H w → St σ H' w) (h : EntX Q x n env σ H') : EntX Q x n env σ H := fun a w f s => h a w f (hs w s)
theorem EntL.mem {ops : Array Oper} {l : List Oper} {H' : List HP} (hs : ∀ w, St σ H w → St σ H' w) (h : EntL P ops Q l n env σ H') : EntL P ops Q l n env σ H := fun a w f s => h a w f (hs w s)
theorem EntL.memEx {ops : Array Oper} {l : List Oper} {α : Sort _} {H' : α → List HP} {φ : α → Prop} (hs : ∀ w, St σ H w → ∃ x, φ x ∧ St σ (H' x) w) (h : ∀ x, φ x → EntL P ops Q l n env σ (H' x)) : EntL P ops Q l n env σ H :=
  fun a w f s => let ⟨x, p, s'⟩ := hs w s; h x p a w f s'
theorem EntX.memEx {x : Exit} {α : Sort _} {H' : α → List HP} {φ : α → Prop} (hs : ∀ w, St σ H w → ∃ x, φ x ∧ St σ (H' x) w) (h : ∀ y, φ y → EntX Q x n env σ (H' y)) : EntX Q x n env σ H :=
  fun a w f s => let ⟨y, p, s'⟩ := hs w s; h y p a w f s'

/-- Where ways meet again: 'M' is what holds between. -/
theorem Ent.cut {x y : Code} {α : Sort _} (e : α → Env) (H' : α → List HP) (h : Ent P x (Exit.then (fun a w => ∃ z, Frm n (e z) a ∧ St σ (H' z) w) Q) n env σ H)
    (k : ∀ z, Ent P y Q n (e z) σ (H' z)) : Ent P (.seq x y) Q n env σ H := by
  intro a w f s
  refine wp_seq (Code.wp_mono (fun x a w q => ?_) (h a w f s))
  cases x <;> first | exact q | (obtain ⟨z, f, s⟩ := q; exact k z a w f s)
theorem EntX.cut_end {α : Sort _} {e : α → Env} {H' : α → List HP} (z : α) (hs : EnvSub (e z) env) (hm : ∀ w, St σ H w → St σ (H' z) w) :
    EntX (Exit.then (fun a w => ∃ z, Frm n (e z) a ∧ St σ (H' z) w) Q) .normal n env σ H := fun _ w f s => ⟨z, hs.frm f, hm w s⟩

/-- A loop. 'x' is what the head of a round is told by; 'm' goes down. -/
theorem Ent.loop {c : Code} {α : Type} (e : α → Env) (H' : α → List HP) (φ : α → Prop) (m : α → Nat) (x₀ : α) (h0 : φ x₀) (hs : EnvSub (e x₀) env) (hm : ∀ w, St σ H w → St σ (H' x₀) w)
    (round : ∀ x, φ x → Ent P c (Exit.then (fun a w => ∃ y, φ y ∧ m y < m x ∧ Frm n (e y) a ∧ St σ (H' y) w) Q) n (e x) σ (H' x)) : Ent P (.loop c) Q n env σ H := by
  intro a w f s
  let I : Act → World → α → Prop := fun a w x => φ x ∧ Frm n (e x) a ∧ St σ (H' x) w
  let M : Act → World → Nat → Prop := fun a w k => ∃ x, I a w x ∧ m x = k
  have least : ∀ a w, (∃ x, I a w x) → ∃ x, I a w x ∧ ∀ y, I a w y → m x ≤ m y := by
    intro a w ⟨x, hx⟩
    have key : ∀ k, ∀ x, I a w x → m x = k → ∃ x, I a w x ∧ ∀ y, I a w y → m x ≤ m y := by
      intro k
      induction k using Nat.strongRecOn with
      | _ k ih =>
        intro x hx hk
        by_cases hh : ∃ y, I a w y ∧ m y < m x
        · obtain ⟨y, hy, hl⟩ := hh
          exact ih (m y) (by omega) y hy rfl
        · exact ⟨x, hx, fun y hy => by
            rcases Nat.lt_or_ge (m y) (m x) with h | h
            · exact absurd ⟨y, hy, h⟩ hh
            · exact h⟩
    exact key _ x hx rfl
  let μ : Act → World → Nat := fun a w => by
    classical
    exact if h : ∃ x, I a w x then m (Classical.choose (least a w h)) else 0
  refine wp_loop (fun a w => ∃ x, I a w x) μ ⟨x₀, h0, hs.frm f, hm w s⟩ ?_
  intro a w hI
  have hc := Classical.choose_spec (least a w hI)
  have hμ : μ a w = m (Classical.choose (least a w hI)) := by simp only [μ]; rw [dif_pos hI]
  generalize hx : Classical.choose (least a w hI) = x at *
  obtain ⟨⟨hφ, hf, hst⟩, hl⟩ := hc
  refine Code.wp_mono (fun x' a' w' q => ?_) (round x hφ a w hf hst)
  cases x' <;> first | exact q | skip
  obtain ⟨y, hy, hlt, hf', hs'⟩ := q
  refine ⟨⟨y, hy, hf', hs'⟩, ?_⟩
  have hI' : ∃ x, I a' w' x := ⟨y, hy, hf', hs'⟩
  have hc' := Classical.choose_spec (least a' w' hI')
  have hμ' : μ a' w' = m (Classical.choose (least a' w' hI')) := by simp only [μ]; rw [dif_pos hI']
  have := hc'.2 y ⟨hy, hf', hs'⟩
  omega
theorem EntX.round_end {α : Type} {e : α → Env} {H' : α → List HP} {φ : α → Prop} {m : α → Nat} {k : Nat} (y : α) (hφ : φ y) (hm : m y < k) (hs : EnvSub (e y) env) (hh : ∀ w, St σ H w → St σ (H' y) w) :
    EntX (Exit.then (fun a w => ∃ y, φ y ∧ m y < k ∧ Frm n (e y) a ∧ St σ (H' y) w) Q) .normal n env σ H := fun _ w f s => ⟨y, hφ, hm, hs.frm f, hh w s⟩

/-! ## Operations -/
theorem EntL.nil {ops : Array Oper} (h : EntX Q .normal n env σ H) : EntL P ops Q [] n env σ H := fun a w f s => wpList_nil (h a w f s)

/-- what an operation's operands are known to be -/
def Known (env : Env) (ρ : Operand → Value) : Prop := ∀ x v, evalE env x = some v → ρ x = v
theorem Frm.known {a : Act} (h : Frm n env a) : Known env a.eval := fun _ _ hx => h.eval hx

/-- The guard is met (1), is not met (2). -/
def Wanted (ops : Array Oper) (env : Env) (o : Oper) (b : Bool) : Prop := ∀ a, Frm n env a → Region.wanted o (yielded ops a.tmps) = b

theorem wanted_none {ops : Array Oper} {o : Oper} (h : o.guard = none) : ∀ a : Act, Region.wanted o (yielded ops a.tmps) = true := fun a => by simp [Region.wanted, h]
theorem wanted_some {ops : Array Oper} {o : Oper} {j : Nat} {want b : Bool} {d : Tmp} (h : o.guard = some (j, want)) (hj : (ops[j]?).bind (·.dst) = some d) (hv : look env d = some (.bool b)) :
    ∀ a : Act, Frm n env a → Region.wanted o (yielded ops a.tmps) = (b == want) := fun a f => by
  have := f.knows _ _ hv
  simp only [Region.wanted, h, yielded, hj, Option.bind_some, this]
  cases b <;> cases want <;> rfl

theorem wpOper {ops : Array Oper} {l : List Oper} {o : Oper} {a : Act} {w : World} (hw : Region.wanted o (yielded ops a.tmps) = true)
    (h : o.wp P a w (wpList P ops Q l) Q) : wpList P ops Q (o :: l) a w := by
  unfold wpList
  rw [if_pos hw]
  exact .inl h

/-- An operation yields a value told by 'x', and leaves this memory. -/
def OpTo (P : Program) (o : Oper) (env : Env) (σ : Sig) (H : List HP) {β : Sort _} (φ : β → Prop) (val : β → Value) (H' : β → List HP) : Prop :=
  ∀ ρ w, Known env ρ → St σ H w → ∃ x w', φ x ∧ ((execOp ρ o).run P w = .ok (.value (val x)) w' ∨ ((execOp ρ o).run P w = .ok .skip w' ∧ val x = undef)) ∧ St σ (H' x) w'

theorem EntL.op {ops : Array Oper} {l : List Oper} {o : Oper} {β : Sort _} {φ : β → Prop} {val : β → Value} {H' : β → List HP} (hg : o.guard = none) (hd : ∀ d, o.dst = some d → d < n)
    (h : OpTo P o env σ H φ val H') (k : ∀ x, φ x → EntL P ops Q l n (putE env o.dst (val x)) σ (H' x)) : EntL P ops Q (o :: l) n env σ H := by
  intro a w f s
  refine wpOper (wanted_none hg a) ?_
  obtain ⟨x, w', hφ, hr, s'⟩ := h a.eval w f.known s
  have := k x hφ (a.put o.dst (val x)) w' (f.put _ hd) s'
  rcases hr with hr | ⟨hr, hv⟩
  · simpa [Oper.wp, hr, Oper.upon] using this
  · rw [hv] at this
    simpa [Oper.wp, hr, Oper.upon] using this

theorem EntL.op_guarded {ops : Array Oper} {l : List Oper} {o : Oper} {β : Sort _} {φ : β → Prop} {val : β → Value} {H' : β → List HP} {j : Nat} {want b : Bool} {d : Tmp}
    (h0 : o.guard = some (j, want)) (hj : (ops[j]?).bind (·.dst) = some d) (hv : look env d = some (.bool b)) (hb : b = want) (hd : ∀ d, o.dst = some d → d < n)
    (h : OpTo P o env σ H φ val H') (k : ∀ x, φ x → EntL P ops Q l n (putE env o.dst (val x)) σ (H' x)) : EntL P ops Q (o :: l) n env σ H := by
  intro a w f s
  refine wpOper (by rw [wanted_some h0 hj hv a f, hb]; simp) ?_
  obtain ⟨x, w', hφ, hr, s'⟩ := h a.eval w f.known s
  have := k x hφ (a.put o.dst (val x)) w' (f.put _ hd) s'
  rcases hr with hr | ⟨hr, hv⟩
  · simpa [Oper.wp, hr, Oper.upon] using this
  · rw [hv] at this
    simpa [Oper.wp, hr, Oper.upon] using this

/-- An operation whose guard is not met. -/
theorem EntL.pass {ops : Array Oper} {l : List Oper} {o : Oper} {j : Nat} {want b : Bool} {d : Tmp}
    (h0 : o.guard = some (j, want)) (hj : (ops[j]?).bind (·.dst) = some d) (hv : look env d = some (.bool b)) (hb : b = !want) (hd : ∀ d, o.dst = some d → d < n)
    (k : EntL P ops Q l n (putE env o.dst undef) σ H) : EntL P ops Q (o :: l) n env σ H := by
  intro a w f s
  have hw := wanted_some (n := n) h0 hj hv a f
  have : Region.wanted o (yielded ops a.tmps) = false := by rw [hw, hb]; cases want <;> rfl
  unfold wpList
  rw [if_neg (by simp [this])]
  exact k _ w (f.put _ hd) s

/-- One whose guard hangs on an operation that was passed over itself. -/
theorem EntL.pass_undef {ops : Array Oper} {l : List Oper} {o : Oper} {j : Nat} {want : Bool} {d : Tmp}
    (h0 : o.guard = some (j, want)) (hj : (ops[j]?).bind (·.dst) = some d) (hv : look env d = some undef) (hd : ∀ d, o.dst = some d → d < n)
    (k : EntL P ops Q l n (putE env o.dst undef) σ H) : EntL P ops Q (o :: l) n env σ H := by
  intro a w f s
  have := f.knows _ _ hv
  have : Region.wanted o (yielded ops a.tmps) = false := by
    simp only [Region.wanted, h0, yielded, hj, Option.bind_some, this, undef]
    rfl
  unfold wpList
  rw [if_neg (by simp [this])]
  exact k _ w (f.put _ hd) s

/-! ## Contracts -/
/-- Called with these values where 'pre' lies in memory, beside whatever else ('R'): it returns a value told by some 'x', and 'post x' lies there then, all else as it was. -/
def Ctr (P : Program) (f : FuncId) (args : List Value) (pre : List HP → List HP) {β : Sort _} (φ : β → Prop) (val : β → Value) (post : β → List HP → List HP) : Prop :=
  ∀ σ (R : List HP) w, St σ (pre R) w → Calls P f args.toArray w (fun e w' => ∃ x, φ x ∧ e = .returned (val x) ∧ St σ (post x R) w')

def RPost {β : Sort _} (σ : Sig) (R : List HP) (φ : β → Prop) (val : β → Value) (post : β → List HP → List HP) (e : Ending) (w' : World) : Prop :=
  ∃ x, φ x ∧ e = .returned (val x) ∧ St σ (post x R) w'

def argsEnv : Nat → List Value → Env
  | _, [] => []
  | k, v :: l => (k, v) :: argsEnv (k + 1) l
theorem look_argsEnv (l : List Value) : ∀ k t v, look (argsEnv k l) t = some v → k ≤ t ∧ l[t - k]? = some v := by
  induction l with
  | nil => intro k t v h; simp [argsEnv, look] at h
  | cons x l ih =>
    intro k t v h
    by_cases hk : k = t
    · subst hk
      simp only [argsEnv, look_cons_self] at h
      simpa using h
    · rw [argsEnv, look_cons_ne _ _ hk] at h
      have := ih _ _ _ h
      refine ⟨by omega, ?_⟩
      rw [show t - k = (t - (k + 1)) + 1 by omega]
      simpa using this.2

theorem Ctr.of_ent {f : FuncId} {fn : Func} {c : Code} {args : List Value} {pre : List HP → List HP} {β : Sort _} {φ : β → Prop} {val : β → Value} {post : β → List HP → List HP} {nt : Nat}
    (hf : P.funcs[f]? = some fn) (hb : fn.body = some c) (hn : fn.ntmps = nt) (hl : Nat.ble args.length nt = true)
    (h : ∀ σ (R : List HP), Ent P c (bodyPost P fn (RPost σ R φ val post)) nt (argsEnv 0 args) σ (pre R)) : Ctr P f args pre φ val post := by
  intro σ R w s
  have hl' : args.length ≤ nt := Nat.le_of_ble_eq_true hl
  refine calls_of_wp hf hb (h σ R _ w ⟨?_, rfl, fun t v hv => ?_⟩ s)
  · simp [hn]; omega
  · have := look_argsEnv _ _ _ _ hv
    have h2 : args[t]? = some v := by simpa using this.2
    rcases Nat.lt_or_ge t args.length with h' | h'
    · simp only [Array.getElem?_append, List.size_toArray, h', if_true]
      simpa using h2
    · simp [List.getElem?_eq_none h'] at h2

theorem evals {xs : List Operand} {vs : List Value} {ρ : Operand → Value} (hk : Known env ρ) (h : xs.map (evalE env) = vs.map some) : xs.map ρ = vs := by
  induction xs generalizing vs with
  | nil => cases vs <;> simp_all
  | cons x xs ih =>
    cases vs with
    | nil => simp at h
    | cons v vs =>
      simp only [List.map_cons, List.cons.injEq] at h ⊢
      exact ⟨hk _ _ h.1, ih h.2⟩

theorem run_call {ρ : Operand → Value} {o : Oper} {f : FuncId} {fn : Func} {xs : List Operand} {vs : List Value} {tys : Array TypeId} {w : World} (ho : o.op = .call ⟨.value (.func f), xs.toArray, tys⟩)
    (hf : P.funcs[f]? = some fn) (hname : (fn.name == "runtime.NumGoroutine") = false) (hb : fn.body.isNone = false) (hv : xs.map ρ = vs) (hρ : ρ (.func f) = .func (.func f) #[] #[]) :
    (execOp ρ o).run P w = .ok (.enter f vs.toArray) w := by
  obtain ⟨c, hc⟩ : ∃ c, fn.body = some c := by
    cases h : fn.body with
    | none => simp [h] at hb
    | some c => exact ⟨c, rfl⟩
  subst hv
  have hname : ¬ fn.name = "runtime.NumGoroutine" := by simpa using hname
  simp [execOp, ho, hρ, go_sem, callFunc, hf, hname, hc]

end
attribute [irreducible] Ent EntL EntX OpTo Ctr pt
end Go.Sl
