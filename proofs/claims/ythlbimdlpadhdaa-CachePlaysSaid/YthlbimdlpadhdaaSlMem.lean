/-
  Slices: what a slice owns, append, copy, make. No program in sight.
-/
import Derived.Test.YthlbimdlpadhdaaSlOps
namespace Go.Sl
open Go
attribute [local semireducible] Ent EntL EntX OpTo Ctr pt OpQ OpU cl ar

section
variable {P : Program} {Q : Exit → Act → World → Prop} {n : Nat} {env : Env} {σ : Sig} {H : List HP} {ops : Array Oper} {l : List Oper}
variable {dst : Option Tmp} {ty : TypeId} {pos : String} {af : Array Edge} {g : Option (Nat × Bool)}

/-! ### Rows of cells written at once -/
def splice (cs : List Value) (o : Nat) (vs : List Value) : List Value := cs.take o ++ vs ++ cs.drop (o + vs.length)
theorem splice_length {cs : List Value} {o : Nat} {vs : List Value} (h : o + vs.length ≤ cs.length) : (splice cs o vs).length = cs.length := by simp [splice]; omega
theorem splice_nil (cs : List Value) (o : Nat) : splice cs o [] = cs := by simp [splice]
theorem take_set_succ {cs : List Value} {o : Nat} {v : Value} (h : o < cs.length) : (cs.set o v).take (o + 1) = cs.take o ++ [v] := by
  apply List.ext_getElem?
  intro i
  have hm : min o cs.length = o := by omega
  rcases Nat.lt_trichotomy i o with hi | hi | hi
  · rw [List.getElem?_append_left (by simp; omega), List.getElem?_take, List.getElem?_take, List.getElem?_set, if_pos (by omega), if_neg (by omega), if_pos hi]
  · subst hi
    rw [List.getElem?_append_right (by simp; omega), List.getElem?_take, List.getElem?_set, if_pos (by omega), if_pos rfl, if_pos (by omega)]
    simp [hm]
  · rw [List.getElem?_eq_none (by simp; omega), List.getElem?_eq_none (by simp; omega)]
theorem splice_cons (cs : List Value) (o : Nat) (v : Value) (vs : List Value) (h : o + (vs.length + 1) ≤ cs.length) : splice (cs.set o v) (o + 1) vs = splice cs o (v :: vs) := by
  have h1 : (cs.set o v).take (o + 1) = cs.take o ++ [v] := take_set_succ (by omega)
  have h2 : (cs.set o v).drop (o + 1 + vs.length) = cs.drop (o + (vs.length + 1)) := by
    rw [List.drop_set_of_lt (by omega), show o + 1 + vs.length = o + (vs.length + 1) by omega]
  simp [splice, h1, h2]

theorem heap_setCells (b : Nat) : ∀ (vs : List Value) (o : Nat) (w : World) (cs : List Value) (T : TypeId) (fr : Nat × Nat), w.heap[b]? = some (.cells cs.toArray T fr) → o + vs.length ≤ cs.length →
    (w.setCells b o vs).heap[b]? = some (.cells (splice cs o vs).toArray T fr) ∧ (∀ k, k ≠ b → (w.setCells b o vs).heap[k]? = w.heap[k]?) ∧ (w.setCells b o vs).os = w.os ∧ (w.setCells b o vs).output = w.output
  | [], o, w, cs, T, fr, h, _ => by rw [splice_nil]; exact ⟨h, fun _ _ => rfl, rfl, rfl⟩
  | v :: vs, o, w, cs, T, fr, h, hl => by
    have hl' : o + (vs.length + 1) ≤ cs.length := by simpa using hl
    have h1 : (w.setCell ⟨b, o, none⟩ v).heap[b]? = some (.cells (cs.set o v).toArray T fr) := by
      simp only [World.setCell, Array.getElem?_modify, h]
      simp
    obtain ⟨a1, a2, a3, a4⟩ := heap_setCells b vs (o + 1) (w.setCell ⟨b, o, none⟩ v) (cs.set o v) T fr h1 (by simp; omega)
    rw [splice_cons cs o v vs hl'] at a1
    refine ⟨a1, fun k hk => (a2 k hk).trans ?_, a3, a4⟩
    simp only [World.setCell, Array.getElem?_modify]
    rw [if_neg (fun e => hk e.symm)]

theorem Upd.setCells {b : Nat} {cs vs : List Value} {o : Nat} {H' : List HP} (u : Upd b H cs (splice cs o vs) H') {w : World} (h : St σ H w) (hl : o + vs.length ≤ cs.length) : St σ H' (w.setCells b o vs) := by
  obtain ⟨T, fr, hb, hk⟩ := u.set h (splice_length hl)
  obtain ⟨a1, a2, a3, a4⟩ := heap_setCells b vs o w cs T fr hb hl
  exact hk _ a3 a4 a1 a2

theorem Blk.row {b : Nat} {cs : List Value} (u : Blk b H cs) {w : World} (h : St σ H w) {o k : Nat} {vs : List Value} (hv : (cs.drop o).take k = vs) : ∀ j v, vs[j]? = some v → w.cell? ((⟨b, o, none⟩ : Addr).add j) = some v := fun j v hj => by
  rw [addr_add]
  refine u.cell h ?_
  subst hv
  rcases Nat.lt_or_ge j k with h | h
  · simpa [List.getElem?_take, h, List.getElem?_drop] using hj
  · simp [List.getElem?_take, Nat.not_lt.2 h] at hj
theorem Blk.there_is {b : Nat} {cs : List Value} (u : Blk b H cs) {w : World} (h : St σ H w) {o k : Nat} (hl : o + k ≤ cs.length) : ∀ j, j < k → (w.cell? ⟨b, o + j, none⟩).isSome = true := fun j hj => by
  rw [u.cell h (List.getElem?_eq_getElem (show o + j < cs.length by omega))]; rfl

/-! ### What a slice owns -/
/-- A slice that starts at the head of a block of its own: 'n' elements of 'sz' cells each, which are 'cs', and room behind; or the nil slice. -/
def own (sz : Nat) (v : Value) (n : Nat) (cs : List Value) : HP := fun h =>
  (v = .slice none 0 0 ∧ n = 0 ∧ cs = [] ∧ h = none') ∨
  ∃ b cap rest, v = .slice (some ⟨b, 0, none⟩) n cap ∧ n ≤ cap ∧ cs.length = n * sz ∧ (cs ++ rest).length = cap * sz ∧ ar b (cs ++ rest) h
theorem own_nil {sz : Nat} {v : Value} (hv : v = .slice none 0 0) : ∀ h, emp h → own sz v 0 [] h := fun _ h => .inl ⟨hv, rfl, rfl, h⟩

theorem St.cases_own {sz n : Nat} {v : Value} {cs : List Value} {H R : List HP} {w : World} (s : Sel (own sz v n cs) H R) (h : St σ H w) :
    (v = .slice none 0 0 ∧ n = 0 ∧ cs = [] ∧ St σ R w) ∨
    ∃ b cap rest, v = .slice (some ⟨b, 0, none⟩) n cap ∧ n ≤ cap ∧ cs.length = n * sz ∧ (cs ++ rest).length = cap * sz ∧ St σ (ar b (cs ++ rest) :: R) w := by
  obtain ⟨x, hx, hs⟩ := h.mem
  rw [s.stars] at hx
  obtain ⟨h1, h2, hd, rfl, hown, a⟩ := hx
  rcases hown with ⟨e1, e2, e3, e4⟩ | ⟨b, cap, rest, e1, e2, e3, e4, e5⟩
  · exact .inl ⟨e1, e2, e3, h.os, h.out, h2, a, sub_right hd hs⟩
  · exact .inr ⟨b, cap, rest, e1, e2, e3, e4, h.os, h.out, _, ⟨h1, h2, hd, rfl, e5, a⟩, hs⟩
theorem St.shut_own {sz n b cap : Nat} {cs rest : List Value} {H : List HP} {w : World} (h1 : n ≤ cap) (h2 : cs.length = n * sz) (h3 : (cs ++ rest).length = cap * sz) (h : St σ (ar b (cs ++ rest) :: H) w) :
    St σ (own sz (.slice (some ⟨b, 0, none⟩) n cap) n cs :: H) w := by
  obtain ⟨x, ⟨a1, a2, hd, rfl, hp, a⟩, s⟩ := h.mem
  exact ⟨h.os, h.out, _, ⟨a1, a2, hd, rfl, .inr ⟨b, cap, rest, rfl, h1, h2, h3, hp⟩, a⟩, s⟩
theorem St.nil_own {sz : Nat} {H : List HP} {w : World} (h : St σ H w) : St σ (own sz (.slice none 0 0) 0 [] :: H) w :=
  ⟨h.os, h.out, h.mem.mono fun x hx => ⟨none', x, fun _ => .inl rfl, by funext b; simp [join, none'], .inl ⟨rfl, rfl, rfl, rfl⟩, hx⟩⟩

theorem St.newRow {w : World} (h : St σ H w) (T : TypeId) (cs : List Value) : St σ (cl w.heap.size cs :: H) (w.alloc (.cells cs.toArray T)) := (h.alloc (o := .cells cs.toArray T (0, 0))).shut_cl
theorem St.to_ar {b : Nat} {cs : List Value} {H : List HP} {w : World} (h : St σ (cl b cs :: H) w) : St σ (ar b cs :: H) w := by
  obtain ⟨x, ⟨a1, a2, hd, rfl, hp, a⟩, s⟩ := h.mem
  exact ⟨h.os, h.out, _, ⟨a1, a2, hd, rfl, ar_of_cl _ hp, a⟩, s⟩

/-! ### append -/
def room (n bytes : Nat) : Prop := n * bytes ≤ 140737488355328
theorem run_append_nothing' {P : Program} (t ty e : TypeId) (i : TypeInfo) (ht : P.underlying t = some (.slice e)) (hi : P.info? e = some i) (a : Option Addr) (k cap : Nat) (hk : k ≤ cap) (b : Option Addr) (c : Nat) (w : World) :
    (Builtin.append_ #[t, t] ty #[.slice a k cap, .slice b 0 c]).run P w = .ok (.slice a k cap) w := by
  have hf : (Builtin.firstCells i.size 0 (.slice b 0 c)).run P w = .ok #[] w := by
    cases b with
    | none => simp [Builtin.firstCells]
    | some b => simpa using run_firstCells_some (P := P) w i.size 0 b 0 c [] (by simp) (by simp)
  cases a with
  | none => simp [Builtin.append_, run_underlying ht, sizeOf, typeInfo, hi, Builtin.lenOf, hk, hf]
  | some a => simp [Builtin.append_, run_underlying ht, sizeOf, typeInfo, hi, Builtin.lenOf, hk, hf, storeCells]

/-- a slice of so many elements -/
def IsSl (n : Nat) (v : Value) : Prop := ∃ a cap, v = .slice a n cap
/-- the cells of a slice that is read -/
def Reads (w : World) (sz : Nat) (ao : Option Addr) (m : Nat) (news : List Value) : Prop := news.length = m * sz ∧ (ao = none → m = 0) ∧ ∀ a, ao = some a → ∀ j u, news[j]? = some u → w.cell? (a.add j) = some u
theorem own_sel {sz k : Nat} {v : Value} {cs : List Value} {R : List HP} (s : Sel (own sz v k cs) H R) : ∀ w, St σ H w → St σ (own sz v k cs :: R) w := fun _ h => h.of_eq (by rw [s.stars]; rfl)
theorem own_cl {sz k b : Nat} {cs : List Value} {R : List HP} (s : Sel (cl b cs) H R) (h : cs.length = k * sz) : ∀ w, St σ H w → St σ (own sz (.slice (some ⟨b, 0, none⟩) k k) k cs :: R) w := fun w st => by
  have st : St σ (cl b cs :: R) w := st.of_eq (by rw [s.stars]; rfl)
  have := st.to_ar
  exact St.shut_own (rest := []) (Nat.le_refl _) h (by simpa using h) (by simpa using this)
theorem own_none {sz : Nat} : ∀ w, St σ H w → St σ (own sz (.slice none 0 0) 0 [] :: H) w := fun _ h => h.nil_own
theorem reads_blk {sz b o m : Nat} {cs news : List Value} (u : Blk b H cs) (h : (cs.drop o).take (m * sz) = news) (hl : o + m * sz ≤ cs.length) : ∀ w, St σ H w → Reads w sz (some ⟨b, o, none⟩) m news := fun w st =>
  ⟨by subst h; simp; omega, (fun h => nomatch h), fun a ha => by cases ha; exact u.row st h⟩
theorem reads_none {sz : Nat} : ∀ w, St σ H w → Reads w sz none 0 [] := fun _ _ => ⟨by simp, fun _ => rfl, fun _ h => nomatch h⟩
theorem reads_own {sz m c : Nat} {ao : Option Addr} {news : List Value} {R : List HP} (s : Sel (own sz (.slice ao m c) m news) H R) : ∀ w, St σ H w → Reads w sz ao m news := fun w st => by
  rcases st.cases_own s with ⟨h1, h2, h3, _⟩ | ⟨b, cap, rest, h1, _, h3, _, st'⟩
  · cases h1; subst h3; exact ⟨by simp, fun _ => rfl, fun _ h => nomatch h⟩
  · cases h1
    refine ⟨h3, (fun h => nomatch h), fun a ha => ?_⟩
    cases ha
    have u : Blk b (ar b (news ++ rest) :: R) (news ++ rest) := inferInstance
    exact u.row (o := 0) (k := news.length) st' (by simp)

theorem OpTo.append {x y : Operand} {t e sz bytes k m c : Nat} {z v : Value} {cs news : List Value} {ao : Option Addr} {R : List HP} (hx : evalE env x = some v) (hy : evalE env y = some (.slice ao m c))
    [ht : SliceT P t e sz] [hs : SizeT P e sz bytes] [hz : ZeroT P e z] (s : ∀ w, St σ H w → St σ (own sz v k cs :: R) w) (hn : ∀ w, St σ H w → Reads w sz ao m news) (hzs : z.cells.size = sz) (hsz : Nat.blt 0 sz = true) (h1 : ∀ u ∈ news, u.oneCell' = true)
    (hr : room (k + m) bytes) (h63 : k + m ≤ 9223372036854775807) :
    OpTo P ⟨dst, .call ⟨.builtin .append, #[x, y], #[t, t]⟩, ty, pos, af, g⟩ env σ H (fun v' : Value => IsSl (k + m) v') (fun v' => v') (fun v' => own sz v' (k + m) (cs ++ news) :: R) := fun ρ w hk st => by
  obtain ⟨hu, i, hi, his⟩ := sliceOf_spec ht.h
  have hib : i.bytes = bytes := by have := hs.h; simp [hi] at this; exact this.2
  have hzi : i.zero = some z := by have := hz.h; simpa [hi] using this
  have hsz : 0 < sz := by have := Nat.le_of_ble_eq_true hsz; omega
  obtain ⟨hl, hao, hcells⟩ := hn w st
  have ho : ∀ v', ∀ w', (Builtin.append_ #[t, t] ty #[v, .slice ao m c]).run P w = .ok v' w' →
      (execOp ρ ⟨dst, .call ⟨.builtin .append, #[x, y], #[t, t]⟩, ty, pos, af, g⟩).run P w = .ok (.value v') w' := fun v' w' hr => by
    simp [execOp, resolve, invoke, builtin, hk _ _ hx, hk _ _ hy, hr]
  rcases (s w st).cases_own .here with ⟨rfl, rfl, rfl, st'⟩ | ⟨b, cap, rest, rfl, hkc, hcl, hrl, st'⟩
  · rcases Nat.eq_zero_or_pos m with rfl | hm
    · have hnil : news = [] := List.eq_nil_of_length_eq_zero (by simpa using hl)
      subst hnil
      refine ⟨_, w, ⟨_, _, (by first | rfl | (rw [Nat.zero_add]))⟩, .inl (ho _ _ (run_append_nothing' t ty e i hu hi none 0 0 (Nat.le_refl _) _ _ _)), ?_⟩
      exact st'.nil_own
    · obtain ⟨a, rfl⟩ : ∃ a, ao = some a := by
        cases ao with
        | none => exact absurd (hao rfl) (by omega)
        | some a => exact ⟨a, rfl⟩
      have hcell := hcells a rfl
      have hr' := run_append_nil (P := P) w t ty e i z hu hi hzi a m c news (by rw [hl, his]) hcell hm (by omega) (by rw [hib]; unfold room at hr; simp at hr; omega)
      refine ⟨_, _, ⟨_, _, (by first | rfl | (rw [Nat.zero_add]))⟩, .inl (ho _ _ hr'), ?_⟩
      have hge := grownCap_ge w m 0 e
      have h2 : (Builtin.zeroCells z.cells (grownCap w m 0 e - m)).size = (grownCap w m 0 e - m) * sz := by rw [size_zeroCells, hzs]
      have st2 := (st'.drew.newRow e (news ++ (Builtin.zeroCells z.cells (grownCap w m 0 e - m)).toList)).to_ar
      have st3 := st2.shut_own (sz := sz) (n := 0 + m) (cap := grownCap w m 0 e) (by simpa using hge) (by simpa using hl) (by simp [hl, h2, ← Nat.add_mul]; congr 1; omega)
      have e2 : (news ++ (Builtin.zeroCells z.cells (grownCap w m 0 e - m)).toList).toArray = news.toArray ++ Builtin.zeroCells z.cells (grownCap w m 0 e - m) := by apply Array.ext'; simp
      rw [e2] at st3
      simpa using st3
  · rcases Nat.eq_zero_or_pos m with rfl | hm
    · have hnil : news = [] := List.eq_nil_of_length_eq_zero (by simpa using hl)
      subst hnil
      refine ⟨_, w, ⟨_, _, (by first | rfl | (rw [Nat.zero_add]))⟩, .inl (ho _ _ (run_append_nothing' t ty e i hu hi _ k cap hkc _ _ _)), ?_⟩
      rw [List.append_nil]
      exact st'.shut_own hkc hcl hrl
    obtain ⟨a, rfl⟩ : ∃ a, ao = some a := by
      cases ao with
      | none => exact absurd (hao rfl) (by omega)
      | some a => exact ⟨a, rfl⟩
    have hcell := hcells a rfl
    by_cases hroom : k + m ≤ cap
    · have u : Upd b (ar b (cs ++ rest) :: R) (cs ++ rest) (splice (cs ++ rest) (k * sz) news) (ar b (splice (cs ++ rest) (k * sz) news) :: R) := inferInstance
      have hfit : k * sz + news.length ≤ (cs ++ rest).length := by rw [hrl, hl, ← Nat.add_mul]; exact Nat.mul_le_mul_right _ hroom
      have hr' := run_append_room_cells (P := P) w t ty e i hu hi b 0 k cap a m c news (by rw [hl, his]) hcell h1 hroom
        (by rw [his]; simp only [Nat.zero_add]; exact u.blk.there_is st' hfit) (fun j hj => by rw [his]; simp only [Nat.zero_add]; exact u.blk.free st' (by omega))
      refine ⟨_, _, ⟨_, _, (by first | rfl | (rw [Nat.zero_add]))⟩, .inl (ho _ _ hr'), ?_⟩
      have st2 := u.setCells st' hfit
      rw [his, Nat.zero_add]
      have e1 : splice (cs ++ rest) (k * sz) news = (cs ++ news) ++ rest.drop news.length := by
        simp [splice, ← hcl, List.drop_append]
      rw [e1] at st2
      exact st2.shut_own hroom (by rw [List.length_append, hcl, hl, Nat.add_mul]) (by rw [← hrl, ← e1, splice_length hfit])
    · have hcellb : ∀ j u, cs[j]? = some u → w.cell? ((⟨b, 0, none⟩ : Addr).add j) = some u := fun j u hu => by
        rw [addr_add, Nat.zero_add]
        have hlt : j < cs.length := by
          rcases Nat.lt_or_ge j cs.length with h | h
          · exact h
          · simp [List.getElem?_eq_none h] at hu
        exact (inferInstance : Blk b (ar b (cs ++ rest) :: R) (cs ++ rest)).cell st' (by rw [List.getElem?_append_left hlt]; exact hu)
      have hr' := run_append_grow (P := P) w t ty e i z hu hi hzi ⟨b, 0, none⟩ k cap cs (by rw [hcl, his]) hcellb a m c news (by rw [hl, his]) hcell (by omega) (by omega)
        (by rw [hib]; exact growslice_fits (by omega) hr)
      refine ⟨_, _, ⟨_, _, (by first | rfl | (rw [Nat.zero_add]))⟩, .inl (ho _ _ hr'), ?_⟩
      have hge := grownCap_ge w (k + m) cap e
      have h2 : (Builtin.zeroCells z.cells (grownCap w (k + m) cap e - (k + m))).size = (grownCap w (k + m) cap e - (k + m)) * sz := by rw [size_zeroCells, hzs]
      have st0 : St σ R w := st'.drop (by
        have : ∀ l : List HP, Picks l (ar b (cs ++ rest) :: l) [ar b (cs ++ rest)] := by
          intro l
          induction l with
          | nil => exact .nil
          | cons B l ih => exact .cons (.there .here) ih
        exact this R)
      have st2 := (st0.drew.newRow e ((cs ++ news) ++ (Builtin.zeroCells z.cells (grownCap w (k + m) cap e - (k + m))).toList)).to_ar
      have st3 := st2.shut_own (sz := sz) (n := k + m) (cap := grownCap w (k + m) cap e) hge (by rw [List.length_append, hcl, hl, Nat.add_mul])
        (by simp only [List.length_append, hcl, hl, Array.length_toList, h2, ← Nat.add_mul]; congr 1; omega)
      have e2 : (cs ++ news ++ (Builtin.zeroCells z.cells (grownCap w (k + m) cap e - (k + m))).toList).toArray = cs.toArray ++ news.toArray ++ Builtin.zeroCells z.cells (grownCap w (k + m) cap e - (k + m)) := by apply Array.ext'; simp
      rw [e2] at st3
      exact st3
end
attribute [irreducible] own
end Go.Sl
