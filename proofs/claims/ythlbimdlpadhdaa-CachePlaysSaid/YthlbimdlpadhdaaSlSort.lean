/-
  slices.Sort on a slice of integers that the call owns: the shelf's contract in our words. No program in sight.
-/
import Derived.Test.YthlbimdlpadhdaaSlUse
import Derived.Shelf.Lay
import Derived.Shelf.Sort.Plain
import Derived.Shelf.Slices.In.SortNone
namespace Go.Sl
open Go Go.Proofs Go.Shelf
attribute [local semireducible] Ent EntL EntX OpTo Ctr pt OpQ OpU cl ar

abbrev intsV (l : List Int) : List Value := l.map (Value.int .i64)
theorem St.grow {σ : Sig} {H : List HP} {w : World} (h : St σ H w) (os : Array Obj) : St σ H (Go.Sort.grow w os) := by
  obtain ⟨ho, hu, x, hx, hs⟩ := h
  refine ⟨ho, hu, x, hx, fun b o hb => ?_⟩
  have h1 := hs b o hb
  have h2 : b < w.heap.size := (Array.getElem?_eq_some_iff.1 h1).1
  simp only [Go.Sort.grow]
  rw [Array.getElem?_append_left h2]
  exact h1
theorem putCells_zero {cs : List Value} {ts : List Int} (h : ts.length ≤ cs.length) : Go.Sort.putCells (Value.int .i64) 0 ts.toArray cs.toArray = (intsV ts ++ cs.drop ts.length).toArray := by
  apply Array.ext'
  apply List.ext_getElem?
  intro j
  by_cases hj : j < ts.length
  · have : j < cs.length := by omega
    rw [List.getElem?_append_left (by simpa using hj)]
    simp [Go.Sort.putCells, hj, this]
  · rw [List.getElem?_append_right (by simp; omega)]
    simp only [Go.Sort.putCells, List.length_map]
    by_cases hj2 : j < cs.length
    · simp [hj, hj2]
      rw [show ts.length + (j - ts.length) = j by omega]
      simp [hj2]
    · simp [hj2]
      omega
theorem sort_ctr {P : Program} {ρ : Ren} (L : Lays.n189 P ρ) (v : Value) (zs : List Int) (hz : zs.length ≤ 1000000) :
    Ctr P (ρ.f 189) [v] (fun R => own 1 v zs.length (intsV zs) :: R) (fun _ : Unit => True) (fun _ => .tuple #[]) (fun _ R => own 1 v zs.length (intsV (zs.mergeSort fun x y => decide (x ≤ y))) :: R) := by
  intro σ R w st
  have hlen : (zs.mergeSort fun x y : Int => decide (x ≤ y)).length = zs.length := List.length_mergeSort _
  rcases st.cases_own .here with ⟨rfl, h2, h3, _⟩ | ⟨b, cap, rest, rfl, h2, h3, h4, st'⟩
  · have : zs = [] := by simpa using h3
    subst this
    refine (Any.slices_Sort_int_none L none 0 w).mono ?_
    rintro e w' ⟨rfl, rfl⟩
    exact ⟨(), trivial, rfl, by simpa using st⟩
  · have u : Upd b (ar b (intsV zs ++ rest) :: R) (intsV zs ++ rest) (intsV (zs.mergeSort fun x y => decide (x ≤ y)) ++ rest) (ar b (intsV (zs.mergeSort fun x y => decide (x ≤ y)) ++ rest) :: R) := inferInstance
    have hB := u.blk
    have hH : Go.Sort.Holds (Value.int .i64) w b 0 zs.toArray := by
      intro j hj
      have hj' : j < zs.length := by simpa using hj
      refine ⟨hB.cell st' ?_, hB.free st' (by simp; omega)⟩
      rw [Nat.zero_add, List.getElem?_append_left (by simpa using hj')]
      simp [hj']
    obtain ⟨T, fr, hb, hk⟩ := u.set st' (by simp)
    have hbl : b < w.heap.size := (Array.getElem?_eq_some_iff.1 hb).1
    refine (Any.slices_Sort_int L b 0 cap zs w hH hbl (by omega)).mono ?_
    rintro e w' ⟨rfl, n, os, rfl⟩
    have hst : St σ (ar b (intsV (zs.mergeSort fun x y => decide (x ≤ y)) ++ rest) :: R) (Go.Sort.putRow (Value.int .i64) (Go.Sort.ahead w n) b 0 (zs.mergeSort fun x y => decide (x ≤ y)).toArray) := by
      refine hk _ rfl rfl ?_ (fun k hk => ?_)
      · simp only [Go.Sort.putRow, Go.Sort.mapBlock, Go.Sort.ahead, Array.getElem?_modify, if_pos, hb, Option.map_some, Go.Sort.onCells]
        rw [putCells_zero (by simp), hlen]
        simp
      · simp [Go.Sort.putRow, Go.Sort.mapBlock, Go.Sort.ahead, Array.getElem?_modify, Ne.symm hk]
    exact ⟨(), trivial, rfl, St.grow (St.shut_own (sz := 1) (rest := rest) h2 (by simp [hlen]) (by simpa [hlen] using h4) hst) os⟩
end Go.Sl
