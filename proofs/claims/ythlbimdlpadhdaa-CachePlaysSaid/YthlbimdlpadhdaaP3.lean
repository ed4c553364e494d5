/- What the cache's calls do, on a plain list of what is held. No program in sight. -/
import Derived.Test.YthlbimdlpadhdaaP2
namespace Go.Proofs.Ythlbimdlpadhdaa
open Go Go.Sl

def Ab.free (a : Ab) : Bool := !a.dirty && decide (a.pins = 0)
def roomA (most : Int) (A : List Ab) : Option (List Ab) :=
  if (A.length : Int) < most then some A else if firstIx Ab.free A < A.length then some (A.eraseIdx (firstIx Ab.free A)) else none
def atN (b : Int) (A : List Ab) : Option Ab := A.find? (fun a => decide (a.n = b))
def rest (b : Int) (A : List Ab) : List Ab := A.eraseP (fun a => decide (a.n = b))
def turnN (b : Int) (f : Ab → Ab) (A : List Ab) : List Ab := A.map (fun a => if a.n = b then f a else a)
def layA (most b : Int) (d : List UInt8) (A : List Ab) : Int × List Ab :=
  match atN b A with
  | some a => (0, rest b A ++ [{ a with d := d }])
  | none => match roomA most A with
    | some A' => (0, A' ++ [⟨b, d, false, 0⟩])
    | none => (7, A)
def wrongA (b : Int) (d : List UInt8) : Int := if b < 0 then 1 else if d.length = 512 then 0 else 14
def fillA (most b : Int) (d : List UInt8) (A : List Ab) : Int × List Ab :=
  if wrongA b d = 0 then (if (atN b A).isSome then (8, A) else layA most b d A) else (wrongA b d, A)
def putA (most b : Int) (d : List UInt8) (A : List Ab) : Int × List Ab :=
  if wrongA b d = 0 then (if (layA most b d A).1 = 0 then (0, turnN b (fun a => { a with dirty := true }) (layA most b d A).2) else layA most b d A) else (wrongA b d, A)
def pinA (b : Int) (A : List Ab) : Int × List Ab := if (atN b A).isSome then (0, turnN b (fun a => { a with pins := a.pins + 1 }) A) else (17, A)
def unpinA (b : Int) (A : List Ab) : Int × List Ab :=
  match atN b A with
  | none => (17, A)
  | some a => if a.pins = 0 then (1, A) else (0, turnN b (fun a => { a with pins := a.pins - 1 }) A)
def cleanA (b : Int) (A : List Ab) : Int × List Ab := if (atN b A).isSome then (0, turnN b (fun a => { a with dirty := false }) A) else (17, A)
def dropA (b : Int) (A : List Ab) : Int × List Ab :=
  match atN b A with
  | none => (17, A)
  | some a => if a.free then (0, rest b A) else (8, A)
def getA (b : Int) (A : List Ab) : List Ab :=
  match atN b A with
  | none => A
  | some a => rest b A ++ [a]
abbrev numsOf (A : List Ab) : List Int := A.map (·.n)

theorem hit_or (b : Int) (A : List Ab) : (∀ a ∈ A, a.n ≠ b) ∨ ∃ A1 a A2, A = A1 ++ a :: A2 ∧ a.n = b ∧ ∀ x ∈ A1, x.n ≠ b := by
  induction A with
  | nil => exact .inl (by simp)
  | cons x A ih =>
    by_cases hx : x.n = b
    · exact .inr ⟨[], x, A, rfl, hx, by simp⟩
    · rcases ih with h | ⟨A1, a, A2, rfl, h1, h2⟩
      · exact .inl (by simpa [hx] using h)
      · exact .inr ⟨x :: A1, a, A2, rfl, h1, by simpa [hx] using h2⟩
theorem atN_miss {b : Int} {A : List Ab} (h : ∀ a ∈ A, a.n ≠ b) : atN b A = none := by simpa [atN] using h
theorem atN_hit {b : Int} {A1 A2 : List Ab} {a : Ab} (h1 : a.n = b) (h2 : ∀ x ∈ A1, x.n ≠ b) : atN b (A1 ++ a :: A2) = some a := by
  unfold atN
  rw [List.find?_append]
  have : A1.find? (fun a => decide (a.n = b)) = none := by simpa using h2
  simp [this, h1]
theorem rest_hit {b : Int} {A1 A2 : List Ab} {a : Ab} (h1 : a.n = b) (h2 : ∀ x ∈ A1, x.n ≠ b) : rest b (A1 ++ a :: A2) = A1 ++ A2 := by
  unfold rest
  rw [List.eraseP_append_right _ (by simpa using h2)]
  simp [h1]
theorem turnN_miss {b : Int} {f : Ab → Ab} {A : List Ab} (h : ∀ a ∈ A, a.n ≠ b) : turnN b f A = A := by
  unfold turnN
  conv => rhs; rw [← List.map_id A]
  exact List.map_congr_left (fun a ha => by simp [h a ha])
theorem turnN_hit {b : Int} {f : Ab → Ab} {A1 A2 : List Ab} {a : Ab} (h1 : a.n = b) (hn : (numsOf (A1 ++ a :: A2)).Nodup) : turnN b f (A1 ++ a :: A2) = A1 ++ f a :: A2 := by
  have hn' : (numsOf (a :: (A1 ++ A2))).Nodup := (List.perm_middle.map _).nodup_iff.1 hn
  simp only [numsOf, List.map_cons, List.nodup_cons, List.mem_map] at hn'
  have hA : ∀ x ∈ A1 ++ A2, x.n ≠ b := fun x hx he => hn'.1 ⟨x, hx, he.trans h1.symm⟩
  have e1 := turnN_miss (f := f) (A := A1) (fun x hx => hA x (List.mem_append_left _ hx))
  have e2 := turnN_miss (f := f) (A := A2) (fun x hx => hA x (List.mem_append_right _ hx))
  simp only [turnN, List.map_append, List.map_cons, h1, if_true] at e1 e2 ⊢
  rw [e1, e2]
theorem Good.numsA {kv : KV} {L : Row} {A : List Ab} (h : Good kv L) (hA : L.map Prod.snd = A) : (numsOf A).Nodup := by
  have := h.nums
  rw [← hA]
  simpa [numsOf, Function.comp_def] using this
theorem hit_rest {b : Int} {A1 A2 : List Ab} {a : Ab} (h1 : a.n = b) (hn : (numsOf (A1 ++ a :: A2)).Nodup) : ∀ x ∈ A1 ++ A2, x.n ≠ b := by
  have hn' : (numsOf (a :: (A1 ++ A2))).Nodup := (List.perm_middle.map _).nodup_iff.1 hn
  simp only [numsOf, List.map_cons, List.nodup_cons, List.mem_map] at hn'
  exact fun x hx he => hn'.1 ⟨x, hx, he.trans h1.symm⟩
/-- which entry is free, asked by its place -/
def freeAt (L : Row) (p : Nat) : Bool := L.any fun e => decide (e.1 = p) && e.2.free
theorem freeAt_mid {L1 L2 : Row} {p : Nat} {a : Ab} (h : ((L1 ++ (p, a) :: L2).map Prod.fst).Nodup) : freeAt (L1 ++ (p, a) :: L2) p = a.free := by
  have hn' : (((p, a) :: (L1 ++ L2)).map Prod.fst).Nodup := ((mid_perm L1 L2 (p, a)).map _).nodup_iff.1 h
  simp only [List.map_cons, List.nodup_cons, List.mem_map] at hn'
  have hA : ∀ x ∈ L1 ++ L2, x.1 ≠ p := fun x hx he => hn'.1 ⟨x, hx, he⟩
  have e1 : (L1.any fun e => decide (e.1 = p) && e.2.free) = false := by
    rw [List.any_eq_false]; intro x hx; simp [hA x (List.mem_append_left _ hx)]
  have e2 : (L2.any fun e => decide (e.1 = p) && e.2.free) = false := by
    rw [List.any_eq_false]; intro x hx; simp [hA x (List.mem_append_right _ hx)]
  simp [freeAt, List.any_append, e1, e2]
theorem firstIx_free {L : Row} (h : (L.map Prod.fst).Nodup) : firstIx (freeAt L) (L.map Prod.fst) = firstIx Ab.free (L.map Prod.snd) := by
  rw [firstIx_map, firstIx_map]
  refine firstIx_congr (fun x hx => ?_)
  obtain ⟨L1, L2, rfl⟩ := List.append_of_mem hx
  exact freeAt_mid h
end Go.Proofs.Ythlbimdlpadhdaa
