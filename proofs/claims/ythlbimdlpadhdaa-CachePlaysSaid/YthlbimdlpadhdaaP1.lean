/- Plain lemmas: rows of entries, the pairs of a map beside them. No program in sight. -/
import Derived.Test.YthlbimdlpadhdaaC3
namespace Go.Proofs.Ythlbimdlpadhdaa
open Go Go.Sl

theorem firstIx_map {α β : Type} (f : α → β) (pred : β → Bool) (l : List α) : firstIx pred (l.map f) = firstIx (fun x => pred (f x)) l := by
  induction l with
  | nil => rfl
  | cons x l ih => simp [firstIx, ih]
theorem firstIx_congr {α : Type} {p q : α → Bool} {l : List α} (h : ∀ x ∈ l, p x = q x) : firstIx p l = firstIx q l := by
  induction l with
  | nil => rfl
  | cons x l ih => simp only [firstIx, h x (by simp)]; rw [ih (fun y hy => h y (by simp [hy]))]
theorem firstIx_none {α : Type} {pred : α → Bool} {l : List α} (h : ¬ firstIx pred l < l.length) : ∀ x ∈ l, pred x = false := by
  induction l with
  | nil => simp
  | cons x l ih =>
    intro y hy
    cases hp : pred x with
    | true => simp [firstIx, hp] at h
    | false =>
      rcases List.mem_cons.1 hy with rfl | hy
      · exact hp
      · exact ih (by simp [firstIx, hp] at h; omega) y hy
theorem firstIx_some {α : Type} {pred : α → Bool} {l : List α} {x : α} (hx : x ∈ l) (hp : pred x = true) : firstIx pred l < l.length := by
  rcases Nat.lt_or_ge (firstIx pred l) l.length with h | h
  · exact h
  · have := firstIx_none (Nat.not_lt.2 h) x hx
    rw [hp] at this; cases this

/-- the pairs of the map are the row's entries by their numbers -/
structure Good (kv : KV) (L : Row) : Prop where
  yes : ∀ e ∈ L, kvGet kv e.2.n = some (ptrV e.1)
  no : ∀ k, (∀ e ∈ L, e.2.n ≠ k) → kvGet kv k = none
  keys : (kv.map Prod.fst).Nodup
  ptrs : (L.map Prod.fst).Nodup
  nums : (L.map (·.2.n)).Nodup
theorem Good.perm {kv : KV} {L L' : Row} (h : Good kv L) (hp : L.Perm L') : Good kv L' :=
  ⟨fun e he => h.yes e (hp.mem_iff.2 he), fun k hk => h.no k (fun e he => hk e (hp.mem_iff.1 he)), h.keys, (hp.map _).nodup_iff.1 h.ptrs, (hp.map _).nodup_iff.1 h.nums⟩
theorem Good.nil : Good [] [] := ⟨by simp, by simp [kvGet], by simp, by simp, by simp⟩

theorem eraseIdx_keep {L : Row} (h : (L.map Prod.fst).Nodup) {j : Nat} (hj : j < L.length) : keepIx (fun q => decide (q = L[j].1)) (L.map Prod.fst) = (L.eraseIdx j).map Prod.fst := by
  induction L generalizing j with
  | nil => simp at hj
  | cons e L ih =>
    simp only [List.map_cons, List.nodup_cons] at h
    cases j with
    | zero =>
      simp only [keepIx, List.getElem_cons_zero, List.map_cons, List.eraseIdx_cons_zero]
      rw [List.filter_cons_of_neg (by simp)]
      refine List.filter_eq_self.2 (fun q hq => ?_)
      simp only [Bool.not_eq_true', decide_eq_false_iff_not]
      exact fun he => h.1 (he ▸ hq)
    | succ j =>
      have hj' : j < L.length := by simpa using hj
      have := ih h.2 hj'
      simp only [keepIx] at this
      simp only [keepIx, List.getElem_cons_succ, List.map_cons, List.eraseIdx_cons_succ]
      have hne : e.1 ≠ L[j].1 := fun he => h.1 (he ▸ List.mem_map_of_mem (List.getElem_mem hj'))
      rw [List.filter_cons_of_pos (by simpa using hne), this]
theorem row_at {L : Row} {j : Nat} (hj : j < L.length) : L = L.take j ++ (L[j].1, L[j].2) :: L.drop (j + 1) := by
  have := List.take_append_drop j L
  rw [List.drop_eq_getElem_cons hj] at this
  exact this.symm
theorem erase_at {L : Row} {j : Nat} : L.eraseIdx j = L.take j ++ L.drop (j + 1) := by rw [List.eraseIdx_eq_take_drop_succ]
theorem row_move {L : Row} {j : Nat} (hj : j < L.length) : L.Perm (L.eraseIdx j ++ [L[j]]) := by
  have h := row_at hj
  rw [erase_at]
  refine (List.Perm.of_eq h).trans ?_
  refine List.perm_middle.trans ?_
  exact (List.perm_append_comm (l₁ := [L[j]])).trans (List.Perm.refl _)
theorem Good.erase {kv : KV} {L : Row} (h : Good kv L) {j : Nat} (hj : j < L.length) : Good (kvDel kv L[j].2.n) (L.eraseIdx j) := by
  have hsub := List.eraseIdx_sublist L j
  have hnd : ∀ e ∈ L.eraseIdx j, e.2.n ≠ L[j].2.n := by
    intro e he hn
    have h1 := ((row_move hj).map (·.2.n)).nodup_iff.1 h.nums
    rw [List.map_append, List.nodup_append] at h1
    exact h1.2.2 _ (List.mem_map_of_mem he) _ (by simp) hn
  refine ⟨fun e he => ?_, fun k hk => ?_, nodup_del h.keys, h.ptrs.sublist (hsub.map _), h.nums.sublist (hsub.map _)⟩
  · rw [kvGet_del_ne (Ne.symm (hnd e he))]
    exact h.yes e (hsub.subset he)
  · by_cases hkj : L[j].2.n = k
    · subst hkj; exact kvGet_del_self h.keys
    · rw [kvGet_del_ne hkj]
      refine h.no k (fun e he hn => ?_)
      rcases List.mem_append.1 ((row_move hj).mem_iff.1 he) with he | he
      · exact hk e he hn
      · simp at he; subst he; exact hkj hn
theorem Good.push {kv : KV} {L : Row} (h : Good kv L) {p : Nat} {a : Ab} (hp : p ∉ L.map Prod.fst) (hn : ∀ e ∈ L, e.2.n ≠ a.n) : Good (kvSet kv a.n (ptrV p)) (L ++ [(p, a)]) := by
  refine ⟨fun e he => ?_, fun k hk => ?_, nodup_set h.keys, ?_, ?_⟩
  · rcases List.mem_append.1 he with he | he
    · rw [kvGet_set_ne (Ne.symm (hn e he))]; exact h.yes e he
    · simp at he; subst he; exact kvGet_set_self _ _ _
  · have hka : a.n ≠ k := hk (p, a) (by simp)
    rw [kvGet_set_ne hka]
    exact h.no k (fun e he => hk e (by simp [he]))
  · rw [List.map_append, List.nodup_append]
    exact ⟨h.ptrs, by simp, fun x hx y hy => by simp at hy; subst hy; exact fun e => hp (e ▸ hx)⟩
  · rw [List.map_append, List.nodup_append]
    refine ⟨h.nums, by simp, fun x hx y hy => ?_⟩
    simp at hy; subst hy
    obtain ⟨e, he, rfl⟩ := List.mem_map.1 hx
    exact hn e he
theorem map_set' {α β : Type} (f : α → β) (l : List α) (j : Nat) (x : α) : (l.set j x).map f = (l.map f).set j (f x) := by simp
theorem Good.turn {kv : KV} {L : Row} (h : Good kv L) {j : Nat} (hj : j < L.length) {a : Ab} (ha : a.n = L[j].2.n) : Good kv (L.set j (L[j].1, a)) := by
  have e1 : (L.set j (L[j].1, a)).map Prod.fst = L.map Prod.fst := by
    rw [map_set']
    apply List.ext_getElem?
    intro i
    rw [List.getElem?_set]
    split
    · rename_i hij; subst hij; simp [hj]
    · rfl
  have e2 : (L.set j (L[j].1, a)).map (·.2.n) = L.map (·.2.n) := by
    rw [map_set']
    apply List.ext_getElem?
    intro i
    rw [List.getElem?_set]
    split
    · rename_i hij; subst hij; simp [hj, ha]
    · rfl
  refine ⟨fun e he => ?_, fun k hk => h.no k (fun e he hn => ?_), h.keys, by rw [e1]; exact h.ptrs, by rw [e2]; exact h.nums⟩
  · obtain ⟨i, hi, rfl⟩ := List.mem_iff_getElem.1 he
    rw [List.getElem_set]
    split
    · rename_i hij; simp only [ha]; exact h.yes _ (List.getElem_mem hj)
    · exact h.yes _ (List.getElem_mem _)
  · have : e.2.n ∈ (L.set j (L[j].1, a)).map (·.2.n) := by rw [e2]; exact List.mem_map_of_mem he
    obtain ⟨e', he', hn'⟩ := List.mem_map.1 this
    exact hk e' he' (hn'.trans hn)
end Go.Proofs.Ythlbimdlpadhdaa
