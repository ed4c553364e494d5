/- What CacheKeeps watches, on a plain list of what is held. No program in sight. -/
import Derived.Test.YthlbimdlpadhdaaC9
namespace Go.Proofs.Ythlbimdlpadhdaa
open Go Go.Sl

/-! ### What is found under a number -/
theorem atN_some {A : List Ab} (hn : (numsOf A).Nodup) {a : Ab} (ha : a ∈ A) : atN a.n A = some a := by
  obtain ⟨A1, A2, rfl⟩ := List.append_of_mem ha
  exact atN_hit rfl (fun x hx => hit_rest rfl hn x (List.mem_append_left _ hx))
theorem atN_mem {b : Int} {A : List Ab} {a : Ab} (h : atN b A = some a) : a ∈ A ∧ a.n = b := ⟨List.mem_of_find?_eq_some h, atN_n h⟩
theorem atN_none {b : Int} {A : List Ab} (h : atN b A = none) : ∀ a ∈ A, a.n ≠ b := by simpa [atN] using h
theorem atN_of_mem {A B : List Ab} (hB : (numsOf B).Nodup) (h : ∀ a, a ∈ A ↔ a ∈ B) (b : Int) : atN b A = atN b B := by
  cases hb : atN b A with
  | some a =>
    obtain ⟨h1, rfl⟩ := atN_mem hb
    exact (atN_some hB ((h a).1 h1)).symm
  | none =>
    symm
    exact atN_miss (fun a ha => atN_none hb a ((h a).2 ha))
theorem atN_push {A : List Ab} {a : Ab} (b : Int) (h : ∀ x ∈ A, x.n ≠ a.n) : atN b (A ++ [a]) = if a.n = b then some a else atN b A := by
  unfold atN
  rw [List.find?_append]
  by_cases hb : a.n = b
  · rw [if_pos hb]
    have : A.find? (fun a => decide (a.n = b)) = none := by simpa [← hb] using h
    simp [this, hb]
  · rw [if_neg hb]
    cases hf : A.find? (fun a => decide (a.n = b)) <;> simp [hb]
theorem atN_drop {A1 A2 : List Ab} {a : Ab} (hn : (numsOf (A1 ++ a :: A2)).Nodup) (b : Int) : atN b (A1 ++ A2) = if a.n = b then none else atN b (A1 ++ a :: A2) := by
  have hr := hit_rest rfl hn
  by_cases hb : a.n = b
  · rw [if_pos hb]; exact atN_miss (fun x hx => hb ▸ hr x hx)
  · rw [if_neg hb]
    unfold atN
    rw [List.find?_append, List.find?_append, List.find?_cons_of_neg (by simpa using hb)]
theorem atN_turn {A : List Ab} (c : Int) (f : Ab → Ab) (hf : ∀ a, (f a).n = a.n) (b : Int) : atN b (turnN c f A) = if b = c then (atN b A).map f else atN b A := by
  induction A with
  | nil => simp [atN, turnN]
  | cons x A ih =>
    by_cases hx : x.n = b
    · subst hx
      by_cases hc : x.n = c
      · simp [atN, turnN, hc, hf]
      · simp [atN, turnN, hc]
    · have h1 : atN b (x :: A) = atN b A := by simp [atN, hx]
      have h2 : atN b (turnN c f (x :: A)) = atN b (turnN c f A) := by
        simp only [turnN, List.map_cons, atN]
        rw [List.find?_cons_of_neg]
        split <;> simpa [hf] using hx
      rw [h1, h2, ih]
theorem numsOf_turn (A : List Ab) (c : Int) (f : Ab → Ab) (hf : ∀ a, (f a).n = a.n) : numsOf (turnN c f A) = numsOf A := by
  simp only [numsOf, turnN, List.map_map]
  refine List.map_congr_left (fun a _ => ?_)
  simp only [Function.comp_def]
  split
  · exact hf a
  · rfl

/-! ### What is watched -/
def dirtyN (A : List Ab) (b : Int) : Bool := (atN b A).elim false (·.dirty)
def pinsN (A : List Ab) (b : Int) : Int := (atN b A).elim 0 (·.pins)
/-- what holds throughout: 'T' is what each block was last given, 'k' how many calls there were -/
structure Inv (most : Int) (A : List Ab) (T : Int → List UInt8) (k : Nat) : Prop where
  nodup : (numsOf A).Nodup
  size : (A.length : Int) ≤ most
  rng : ∀ a ∈ A, 0 ≤ a.n ∧ a.n < 16
  pins : ∀ a ∈ A, 0 ≤ a.pins ∧ a.pins ≤ k
  data : ∀ a ∈ A, a.d = T a.n
  len : ∀ a ∈ A, a.d.length = 512
theorem Inv.start (most : Int) (h : 0 ≤ most) (T : Int → List UInt8) : Inv most [] T 0 := ⟨by simp, by simpa using h, by simp, by simp, by simp, by simp⟩
theorem Inv.more {most : Int} {A : List Ab} {T : Int → List UInt8} {k : Nat} (h : Inv most A T k) : Inv most A T (k + 1) := ⟨h.nodup, h.size, h.rng, fun a ha => ⟨(h.pins a ha).1, by have := (h.pins a ha).2; omega⟩, h.data, h.len⟩

/-- what room leaves -/
theorem room_cases {most : Int} {A A' : List Ab} (h : roomA most A = some A') : (A' = A ∧ (A.length : Int) < most) ∨ ∃ A1 a A2, A = A1 ++ a :: A2 ∧ A' = A1 ++ A2 ∧ a.free = true := by
  unfold roomA at h
  split at h
  · rename_i hl
    cases h; exact .inl ⟨rfl, hl⟩
  · split at h
    · rename_i hi
      cases h
      refine .inr ⟨A.take (firstIx Ab.free A), A[firstIx Ab.free A], A.drop (firstIx Ab.free A + 1), ?_, List.eraseIdx_eq_take_drop_succ .., first_is _ _ hi⟩
      have := List.take_append_drop (firstIx Ab.free A) A
      rw [List.drop_eq_getElem_cons hi] at this
      exact this.symm
    · cases h
/-- a block that's free is not watched -/
theorem free_watch {A1 A2 : List Ab} {a : Ab} (hn : (numsOf (A1 ++ a :: A2)).Nodup) (hf : a.free = true) (b : Int) : dirtyN (A1 ++ A2) b = dirtyN (A1 ++ a :: A2) b ∧ pinsN (A1 ++ A2) b = pinsN (A1 ++ a :: A2) b := by
  simp only [Ab.free, Bool.and_eq_true, Bool.not_eq_true', decide_eq_true_eq] at hf
  unfold dirtyN pinsN
  rw [atN_drop hn b]
  by_cases hb : a.n = b
  · subst hb
    rw [if_pos rfl, atN_some hn (by simp)]
    simp [hf.1, hf.2]
  · rw [if_neg hb]; exact ⟨rfl, rfl⟩
theorem numsOf_drop {A1 A2 : List Ab} {a : Ab} (hn : (numsOf (A1 ++ a :: A2)).Nodup) : (numsOf (A1 ++ A2)).Nodup :=
  hn.sublist ((List.Sublist.append (List.Sublist.refl A1) (List.sublist_cons_self a A2)).map _)
theorem Inv.drop {most : Int} {A1 A2 : List Ab} {a : Ab} {T : Int → List UInt8} {k : Nat} (h : Inv most (A1 ++ a :: A2) T k) : Inv most (A1 ++ A2) T k := by
  have hs : ∀ x ∈ A1 ++ A2, x ∈ A1 ++ a :: A2 := fun x hx => by simp at hx ⊢; rcases hx with h | h <;> simp [h]
  refine ⟨numsOf_drop h.nodup, ?_, fun x hx => h.rng x (hs x hx), fun x hx => h.pins x (hs x hx), fun x hx => h.data x (hs x hx), fun x hx => h.len x (hs x hx)⟩
  have := h.size
  simp at this ⊢
  omega
theorem Inv.push {most : Int} {A : List Ab} {T : Int → List UInt8} {k : Nat} (h : Inv most A T k) {a : Ab} (hn : ∀ x ∈ A, x.n ≠ a.n) (hs : (A.length : Int) < most) (hr : 0 ≤ a.n ∧ a.n < 16) (hp : 0 ≤ a.pins ∧ a.pins ≤ k) (hl : a.d.length = 512) :
    Inv most (A ++ [a]) (fun j => if j = a.n then a.d else T j) k := by
  refine ⟨?_, by simp; omega, ?_, ?_, ?_, ?_⟩
  · rw [numsOf, List.map_append, List.nodup_append]
    refine ⟨h.nodup, by simp, fun x hx y hy => ?_⟩
    obtain ⟨z, hz, rfl⟩ := List.mem_map.1 hx
    simp at hy
    rw [hy]
    exact hn z hz
  · intro x hx; rcases List.mem_append.1 hx with hx | hx
    · exact h.rng x hx
    · simp at hx; subst hx; exact hr
  · intro x hx; rcases List.mem_append.1 hx with hx | hx
    · exact h.pins x hx
    · simp at hx; subst hx; exact hp
  · intro x hx; rcases List.mem_append.1 hx with hx | hx
    · rw [if_neg (hn x hx)]; exact h.data x hx
    · simp at hx; subst hx; simp
  · intro x hx; rcases List.mem_append.1 hx with hx | hx
    · exact h.len x hx
    · simp at hx; subst hx; exact hl
end Go.Proofs.Ythlbimdlpadhdaa
