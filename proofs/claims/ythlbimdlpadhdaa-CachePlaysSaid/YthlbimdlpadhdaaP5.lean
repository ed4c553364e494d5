/- What each call does to what CacheKeeps watches. No program in sight. -/
import Derived.Test.YthlbimdlpadhdaaP4
namespace Go.Proofs.Ythlbimdlpadhdaa
open Go Go.Sl

def Same (A A' : List Ab) : Prop := ∀ j, dirtyN A' j = dirtyN A j ∧ pinsN A' j = pinsN A j
theorem Same.refl (A : List Ab) : Same A A := fun _ => ⟨rfl, rfl⟩
theorem Same.of_mem {A A' : List Ab} (hB : (numsOf A').Nodup) (h : ∀ a, a ∈ A ↔ a ∈ A') : Same A A' := fun j => by simp only [dirtyN, pinsN, atN_of_mem hB h j, and_self]
def upd (T : Int → List UInt8) (b : Int) (d : List UInt8) : Int → List UInt8 := fun j => if j = b then d else T j
theorem Inv.of_mem {most : Int} {A A' : List Ab} {T : Int → List UInt8} {k : Nat} (h : Inv most A T k) (hp : A.Perm A') : Inv most A' T k :=
  ⟨(hp.map _).nodup_iff.1 h.nodup, by rw [← hp.length_eq]; exact h.size, fun a ha => h.rng a (hp.mem_iff.2 ha), fun a ha => h.pins a (hp.mem_iff.2 ha), fun a ha => h.data a (hp.mem_iff.2 ha), fun a ha => h.len a (hp.mem_iff.2 ha)⟩
theorem get_keeps {most b : Int} {A : List Ab} {T : Int → List UInt8} {k : Nat} (h : Inv most A T k) : Inv most (getA b A) T k ∧ Same A (getA b A) := by
  rcases hit_or b A with hm | ⟨A1, a, A2, rfl, rfl, hA1⟩
  · simp only [getA, atN_miss hm]; exact ⟨h, .refl _⟩
  · simp only [getA, atN_hit rfl hA1, rest_hit rfl hA1]
    have hp : (A1 ++ a :: A2).Perm (A1 ++ A2 ++ [a]) := List.perm_middle.trans (List.perm_append_comm (l₁ := [a]))
    have h' := h.of_mem hp
    exact ⟨h', Same.of_mem h'.nodup (fun x => hp.mem_iff)⟩
theorem lay_keeps {most b : Int} {d : List UInt8} {A : List Ab} {T : Int → List UInt8} {k : Nat} (hmost : 1 ≤ most) (hb : 0 ≤ b ∧ b < 16) (hd : d.length = 512) (h : Inv most A T k) (h0 : (layA most b d A).1 = 0) :
    Inv most (layA most b d A).2 (upd T b d) k ∧ Same A (layA most b d A).2 := by
  rcases hit_or b A with hm | ⟨A1, a, A2, rfl, rfl, hA1⟩
  · cases hr : roomA most A with
    | none => simp [layA, atN_miss hm, hr] at h0
    | some A' =>
      simp only [layA, atN_miss hm, hr]
      have hsub : ∀ x ∈ A', x.n ≠ b := fun x hx => hm x (roomA_mem hr x hx)
      have key : Inv most A' T k ∧ (A'.length : Int) < most ∧ Same A A' := by
        rcases room_cases hr with ⟨rfl, hl⟩ | ⟨B1, x, B2, rfl, rfl, hf⟩
        · exact ⟨h, hl, .refl _⟩
        · refine ⟨h.drop, ?_, fun j => free_watch h.nodup hf j⟩
          have := h.size
          simp at this ⊢
          omega
      obtain ⟨h1, h2, h3⟩ := key
      refine ⟨h1.push (a := ⟨b, d, false, 0⟩) hsub h2 hb ⟨by simp, by simp⟩ hd, fun j => ?_⟩
      rw [← (h3 j).1, ← (h3 j).2]
      unfold dirtyN pinsN
      rw [atN_push (a := ⟨b, d, false, 0⟩) j hsub]
      by_cases hj : b = j
      · subst hj
        rw [if_pos rfl, atN_miss hsub]
        exact ⟨rfl, rfl⟩
      · rw [if_neg hj]; exact ⟨rfl, rfl⟩
  · simp only [layA, atN_hit rfl hA1, rest_hit rfl hA1]
    have hr := hit_rest rfl h.nodup
    have hs := h.size
    have ha := h.rng a (by simp)
    refine ⟨(h.drop).push (a := { a with d := d }) hr (by simp at hs ⊢; omega) ha (h.pins a (by simp)) hd, fun j => ?_⟩
    unfold dirtyN pinsN
    rw [atN_push (a := { a with d := d }) j hr, atN_drop h.nodup j]
    by_cases hj : a.n = j
    · subst hj
      rw [if_pos rfl, atN_some h.nodup (by simp)]
      exact ⟨rfl, rfl⟩
    · rw [if_neg hj, if_neg hj]; exact ⟨rfl, rfl⟩
theorem wrongA_len {b : Int} {d : List UInt8} (h : wrongA b d = 0) : d.length = 512 := by
  unfold wrongA at h
  split at h
  · cases h
  · split at h
    · assumption
    · cases h
theorem fill_keeps {most b : Int} {d : List UInt8} {A : List Ab} {T : Int → List UInt8} {k : Nat} (hmost : 1 ≤ most) (hb : 0 ≤ b ∧ b < 16) (h : Inv most A T k) :
    if (fillA most b d A).1 = 0 then Inv most (fillA most b d A).2 (upd T b d) k ∧ Same A (fillA most b d A).2 else (fillA most b d A).2 = A := by
  unfold fillA
  by_cases hw : wrongA b d = 0
  · rw [if_pos hw]
    cases ha : (atN b A).isSome
    · simp only [Bool.false_eq_true, if_false]
      split
      · rename_i h0; exact lay_keeps hmost hb (wrongA_len hw) h h0
      · rename_i h0
        cases h1 : atN b A with
        | some a => simp [h1] at ha
        | none =>
          cases h2 : roomA most A with
          | some A' => simp [layA, h1, h2] at h0
          | none => simp [layA, h1, h2]
    · simp
  · rw [if_neg hw]; simp [hw]
theorem put_keeps {most b : Int} {d : List UInt8} {A : List Ab} {T : Int → List UInt8} {k : Nat} (hmost : 1 ≤ most) (hb : 0 ≤ b ∧ b < 16) (h : Inv most A T k) :
    if (putA most b d A).1 = 0 then Inv most (putA most b d A).2 (upd T b d) k ∧ (∀ j, dirtyN (putA most b d A).2 j = (if j = b then true else dirtyN A j) ∧ pinsN (putA most b d A).2 j = pinsN A j) else (putA most b d A).2 = A := by
  unfold putA
  by_cases hw : wrongA b d = 0
  · rw [if_pos hw]
    by_cases h0 : (layA most b d A).1 = 0
    · rw [if_pos h0, if_pos rfl]
      obtain ⟨h1, h2⟩ := lay_keeps hmost hb (wrongA_len hw) h h0
      obtain ⟨X, a, hX, rfl⟩ := lay_zero h0
      have hmem : a ∈ (layA most a.n d A).2 := by rw [hX]; simp
      have ht := atN_turn (A := (layA most a.n d A).2) a.n (fun a => { a with dirty := true }) (fun _ => rfl)
      refine ⟨⟨by rw [numsOf_turn]; exact h1.nodup; exact fun _ => rfl, by simp only [turnN, List.length_map]; exact h1.size, ?_, ?_, ?_, ?_⟩, fun j => ?_⟩
      · intro x hx
        obtain ⟨y, hy, rfl⟩ := List.mem_map.1 hx
        split <;> exact h1.rng y hy
      · intro x hx
        obtain ⟨y, hy, rfl⟩ := List.mem_map.1 hx
        split <;> exact h1.pins y hy
      · intro x hx
        obtain ⟨y, hy, rfl⟩ := List.mem_map.1 hx
        split <;> exact h1.data y hy
      · intro x hx
        obtain ⟨y, hy, rfl⟩ := List.mem_map.1 hx
        split <;> exact h1.len y hy
      · rw [← (h2 j).1, ← (h2 j).2]
        unfold dirtyN pinsN
        rw [ht j]
        by_cases hj : j = a.n
        · subst hj; rw [if_pos rfl, if_pos rfl, atN_some h1.nodup hmem]; exact ⟨rfl, rfl⟩
        · rw [if_neg hj, if_neg hj]; exact ⟨rfl, rfl⟩
    · rw [if_neg h0, if_neg h0]
      cases h1 : atN b A with
      | some a => simp [layA, h1] at h0
      | none =>
        cases h2 : roomA most A with
        | some A' => simp [layA, h1, h2] at h0
        | none => simp [layA, h1, h2]
  · rw [if_neg hw]; simp [hw]
/-- an entry turned in place, its number and data kept -/
theorem Inv.turn {most b : Int} {A : List Ab} {T : Int → List UInt8} {k k' : Nat} (h : Inv most A T k) (f : Ab → Ab) (hn : ∀ a, (f a).n = a.n) (hd : ∀ a, (f a).d = a.d) (hk : k ≤ k') (hp : ∀ a ∈ A, a.n = b → 0 ≤ (f a).pins ∧ (f a).pins ≤ k') : Inv most (turnN b f A) T k' := by
  refine ⟨by rw [numsOf_turn _ _ _ hn]; exact h.nodup, by simp only [turnN, List.length_map]; exact h.size, ?_, ?_, ?_, ?_⟩
  · intro x hx
    obtain ⟨y, hy, rfl⟩ := List.mem_map.1 hx
    split
    · rw [hn]; exact h.rng y hy
    · exact h.rng y hy
  · intro x hx
    obtain ⟨y, hy, rfl⟩ := List.mem_map.1 hx
    split
    · rename_i hyb; exact hp y hy hyb
    · have := h.pins y hy; omega
  · intro x hx
    obtain ⟨y, hy, rfl⟩ := List.mem_map.1 hx
    split
    · rw [hn, hd]; exact h.data y hy
    · exact h.data y hy
  · intro x hx
    obtain ⟨y, hy, rfl⟩ := List.mem_map.1 hx
    split
    · rw [hd]; exact h.len y hy
    · exact h.len y hy
theorem pin_keeps {most b : Int} {A : List Ab} {T : Int → List UInt8} {k : Nat} (h : Inv most A T k) :
    if (pinA b A).1 = 0 then Inv most (pinA b A).2 T (k + 1) ∧ (∀ j, dirtyN (pinA b A).2 j = dirtyN A j ∧ pinsN (pinA b A).2 j = (if j = b then pinsN A j + 1 else pinsN A j)) else (pinA b A).2 = A := by
  rcases hit_or b A with hm | ⟨A1, a, A2, hA, rfl, hA1⟩
  · simp [pinA, atN_miss hm]
  · have ha : atN a.n A = some a := by rw [hA]; exact atN_hit rfl hA1
    simp only [pinA, ha, Option.isSome_some, if_true]
    refine ⟨h.turn _ (fun _ => rfl) (fun _ => rfl) (by omega) (fun x hx _ => by have := h.pins x hx; simp only; omega), fun j => ?_⟩
    unfold dirtyN pinsN
    rw [atN_turn (f := fun a => { a with pins := a.pins + 1 }) a.n (hf := fun _ => rfl) (b := j)]
    by_cases hj : j = a.n
    · subst hj; rw [if_pos rfl, if_pos rfl, ha]; exact ⟨rfl, rfl⟩
    · rw [if_neg hj, if_neg hj]; exact ⟨rfl, rfl⟩
theorem unpin_keeps {most b : Int} {A : List Ab} {T : Int → List UInt8} {k : Nat} (h : Inv most A T k) :
    if (unpinA b A).1 = 0 then Inv most (unpinA b A).2 T k ∧ (∀ j, dirtyN (unpinA b A).2 j = dirtyN A j ∧ pinsN (unpinA b A).2 j = (if j = b then pinsN A j - 1 else pinsN A j)) else (unpinA b A).2 = A := by
  rcases hit_or b A with hm | ⟨A1, a, A2, hA, rfl, hA1⟩
  · simp [unpinA, atN_miss hm]
  · have ha : atN a.n A = some a := by rw [hA]; exact atN_hit rfl hA1
    simp only [unpinA, ha]
    by_cases h0 : a.pins = 0
    · simp [h0]
    · rw [if_neg h0, if_pos rfl]
      have hu : ∀ x ∈ A, x.n = a.n → x = a := fun x hx hxn => by
        have := atN_some h.nodup hx
        rw [hxn, ha] at this
        cases this; rfl
      refine ⟨h.turn _ (fun _ => rfl) (fun _ => rfl) (Nat.le_refl _) (fun x hx hxn => by have := h.pins x hx; rw [hu x hx hxn] at this ⊢; simp only; omega), fun j => ?_⟩
      unfold dirtyN pinsN
      rw [atN_turn (f := fun a => { a with pins := a.pins - 1 }) a.n (hf := fun _ => rfl) (b := j)]
      by_cases hj : j = a.n
      · subst hj; rw [if_pos rfl, if_pos rfl, ha]; exact ⟨rfl, rfl⟩
      · rw [if_neg hj, if_neg hj]; exact ⟨rfl, rfl⟩
theorem clean_keeps {most b : Int} {A : List Ab} {T : Int → List UInt8} {k : Nat} (h : Inv most A T k) :
    if (cleanA b A).1 = 0 then Inv most (cleanA b A).2 T k ∧ (∀ j, dirtyN (cleanA b A).2 j = (if j = b then false else dirtyN A j) ∧ pinsN (cleanA b A).2 j = pinsN A j) else (cleanA b A).2 = A := by
  rcases hit_or b A with hm | ⟨A1, a, A2, hA, rfl, hA1⟩
  · simp [cleanA, atN_miss hm]
  · have ha : atN a.n A = some a := by rw [hA]; exact atN_hit rfl hA1
    simp only [cleanA, ha, Option.isSome_some, if_true]
    refine ⟨h.turn _ (fun _ => rfl) (fun _ => rfl) (Nat.le_refl _) (fun x hx _ => h.pins x hx), fun j => ?_⟩
    unfold dirtyN pinsN
    rw [atN_turn (f := fun a => { a with dirty := false }) a.n (hf := fun _ => rfl) (b := j)]
    by_cases hj : j = a.n
    · subst hj; rw [if_pos rfl, if_pos rfl, ha]; exact ⟨rfl, rfl⟩
    · rw [if_neg hj, if_neg hj]; exact ⟨rfl, rfl⟩
theorem drop_keeps {most b : Int} {A : List Ab} {T : Int → List UInt8} {k : Nat} (h : Inv most A T k) :
    if (dropA b A).1 = 0 then Inv most (dropA b A).2 T k ∧ Same A (dropA b A).2 ∧ dirtyN A b = false ∧ pinsN A b = 0 else (dropA b A).2 = A := by
  rcases hit_or b A with hm | ⟨A1, a, A2, rfl, rfl, hA1⟩
  · simp [dropA, atN_miss hm]
  · simp only [dropA, atN_hit rfl hA1]
    cases hf : a.free
    · simp
    · simp only [if_true, rest_hit rfl hA1]
      refine ⟨h.drop, fun j => free_watch h.nodup hf j, ?_⟩
      simp only [Ab.free, Bool.and_eq_true, Bool.not_eq_true', decide_eq_true_eq] at hf
      simp [dirtyN, pinsN, atN_hit rfl hA1, hf.1, hf.2]

theorem held_iff {A : List Ab} (b : Int) : b ∈ numsOf A ↔ (atN b A).isSome = true := by
  cases h : atN b A with
  | some a =>
    obtain ⟨h1, rfl⟩ := atN_mem h
    simp only [Option.isSome_some, iff_true]
    exact List.mem_map_of_mem h1
  | none =>
    simp only [Option.isSome_none, Bool.false_eq_true, iff_false]
    intro hb
    obtain ⟨a, ha, rfl⟩ := List.mem_map.1 hb
    exact atN_none h a ha rfl
theorem dirty_iff {A : List Ab} (hn : (numsOf A).Nodup) (b : Int) : b ∈ dirtyOf A ↔ dirtyN A b = true := by
  unfold dirtyOf dirtyRow dirtyN
  rw [List.mem_mergeSort]
  constructor
  · intro hb
    obtain ⟨a, ha, rfl⟩ := List.mem_map.1 hb
    obtain ⟨h1, h2⟩ := List.mem_filter.1 ha
    rw [atN_some hn h1]
    exact h2
  · intro hb
    cases h : atN b A with
    | none => simp [h] at hb
    | some a =>
      obtain ⟨h1, rfl⟩ := atN_mem h
      simp [h] at hb
      exact List.mem_map_of_mem (List.mem_filter.2 ⟨h1, hb⟩)
theorem dirty_held {A : List Ab} {b : Int} (h : dirtyN A b = true ∨ 0 < pinsN A b) : b ∈ numsOf A := by
  rw [held_iff]
  cases ha : atN b A with
  | some a => rfl
  | none => simp [dirtyN, pinsN, ha] at h
theorem pinsN_ge {most : Int} {A : List Ab} {T : Int → List UInt8} {k : Nat} (h : Inv most A T k) (b : Int) : 0 ≤ pinsN A b ∧ pinsN A b ≤ k := by
  unfold pinsN
  cases ha : atN b A with
  | some a => exact h.pins a (atN_mem ha).1
  | none => simp
end Go.Proofs.Ythlbimdlpadhdaa
