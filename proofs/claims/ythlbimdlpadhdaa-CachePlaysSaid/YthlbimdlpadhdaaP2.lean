/- What a cache holds, as one chunk; plain lemmas on a row with one entry in its midst. -/
import Derived.Test.YthlbimdlpadhdaaP1
namespace Go.Proofs.Ythlbimdlpadhdaa
open Go Go.Sl

theorem mid_perm (L1 L2 : Row) (e : Nat × Ab) : (L1 ++ e :: L2).Perm (e :: (L1 ++ L2)) := List.perm_middle
theorem Good.mid_keep {kv : KV} {L1 L2 : Row} {p : Nat} {a : Ab} (h : Good kv (L1 ++ (p, a) :: L2)) : keepIx (fun q => decide (q = p)) ((L1 ++ (p, a) :: L2).map Prod.fst) = (L1 ++ L2).map Prod.fst := by
  have hj : L1.length < (L1 ++ (p, a) :: L2).length := by simp
  have := eraseIdx_keep h.ptrs hj
  simpa [List.eraseIdx_append] using this
theorem Good.mid_del {kv : KV} {L1 L2 : Row} {p : Nat} {a : Ab} (h : Good kv (L1 ++ (p, a) :: L2)) : Good (kvDel kv a.n) (L1 ++ L2) := by
  have := (h.perm (mid_perm L1 L2 (p, a))).erase (j := 0) (by simp)
  simpa using this
theorem Good.mid_move {kv : KV} {L1 L2 : Row} {p : Nat} {a : Ab} (h : Good kv (L1 ++ (p, a) :: L2)) : Good kv (L1 ++ L2 ++ [(p, a)]) :=
  h.perm ((mid_perm L1 L2 (p, a)).trans (List.perm_append_comm (l₁ := [(p, a)])))
theorem Good.mid_turn {kv : KV} {L1 L2 : Row} {p : Nat} {a a' : Ab} (h : Good kv (L1 ++ (p, a) :: L2)) (ha : a'.n = a.n) : Good kv (L1 ++ (p, a') :: L2) := by
  have := (h.perm (mid_perm L1 L2 (p, a))).turn (j := 0) (a := a') (by simp) (by simpa using ha)
  exact Good.perm (L := (p, a') :: (L1 ++ L2)) (by simpa using this) (mid_perm L1 L2 (p, a')).symm
theorem map_snd_mid {L : Row} {A1 A2 : List Ab} {a : Ab} (h : L.map Prod.snd = A1 ++ a :: A2) : ∃ L1 p L2, L = L1 ++ (p, a) :: L2 ∧ L1.map Prod.snd = A1 ∧ L2.map Prod.snd = A2 := by
  obtain ⟨L1, L', rfl, h1, h2⟩ := List.map_eq_append_iff.1 h
  obtain ⟨e, L2, rfl, h3, h4⟩ := List.map_eq_cons_iff.1 h2
  exact ⟨L1, e.1, L2, by rw [← h3], h1, h4⟩

/-- a cache of at most so many blocks, which holds these, the one first that was used longest ago -/
def CA (c : Nat) (most : Int) (A : List Ab) : HP := ex fun (x : Row × Value × Nat × KV) => star (pr (x.1.map Prod.snd = A ∧ Good x.2.2.2 x.1))
  (star (cl c [.int .i64 most, x.2.1, .map (some x.2.2.1)]) (star (own 1 x.2.1 (x.1.map Prod.fst).length ((x.1.map Prod.fst).map ptrV)) (star (mpi x.2.2.1 x.2.2.2) (ents x.1))))

theorem ents_intro {σ : Sig} {H : List HP} : ∀ w, St σ H w → St σ (ents [] :: H) w := fun _ st => st.of_eq (by simp only [ents_nil, stars, emp_star])
section
variable {P : Program} {Q : Exit → Act → World → Prop} {n : Nat} {env : Env} {σ : Sig} {H R : List HP} {code : Code} {x : Exit} {c : Nat} {most : Int} {A : List Ab}
theorem St.openCA (s : Sel (CA c most A) H R) : ∀ w, St σ H w → ∃ x : Row × Value × Nat × KV, (x.1.map Prod.snd = A ∧ Good x.2.2.2 x.1) ∧
    St σ (cl c [.int .i64 most, x.2.1, .map (some x.2.2.1)] :: own 1 x.2.1 (x.1.map Prod.fst).length ((x.1.map Prod.fst).map ptrV) :: mpi x.2.2.1 x.2.2.2 :: ents x.1 :: R) w := fun w st => by
  obtain ⟨x, st⟩ := St.open (A := fun (x : Row × Value × Nat × KV) => star (pr (x.1.map Prod.snd = A ∧ Good x.2.2.2 x.1))
    (star (cl c [.int .i64 most, x.2.1, .map (some x.2.2.1)]) (star (own 1 x.2.1 (x.1.map Prod.fst).length ((x.1.map Prod.fst).map ptrV)) (star (mpi x.2.2.1 x.2.2.2) (ents x.1))))) s st
  have st := st.of_eq (H' := pr (x.1.map Prod.snd = A ∧ Good x.2.2.2 x.1) :: cl c [.int .i64 most, x.2.1, .map (some x.2.2.1)] :: own 1 x.2.1 (x.1.map Prod.fst).length ((x.1.map Prod.fst).map ptrV) :: mpi x.2.2.1 x.2.2.2 :: ents x.1 :: R) (by simp only [stars, star_assoc])
  obtain ⟨h, st⟩ := st.pure Sel.here
  exact ⟨x, h, st⟩
theorem Ent.openCA (s : Sel (CA c most A) H R) (h : ∀ L rv mb kv, L.map Prod.snd = A → Good kv L → Ent P code Q n env σ (cl c [.int .i64 most, rv, .map (some mb)] :: own 1 rv (L.map Prod.fst).length ((L.map Prod.fst).map ptrV) :: mpi mb kv :: ents L :: R)) : Ent P code Q n env σ H :=
  Ent.memEx (St.openCA s) (fun x hx => h x.1 x.2.1 x.2.2.1 x.2.2.2 hx.1 hx.2)
theorem EntL.openCA {ops : Array Oper} {l : List Oper} (s : Sel (CA c most A) H R) (h : ∀ L rv mb kv, L.map Prod.snd = A → Good kv L → EntL P ops Q l n env σ (cl c [.int .i64 most, rv, .map (some mb)] :: own 1 rv (L.map Prod.fst).length ((L.map Prod.fst).map ptrV) :: mpi mb kv :: ents L :: R)) : EntL P ops Q l n env σ H :=
  EntL.memEx (St.openCA s) (fun x hx => h x.1 x.2.1 x.2.2.1 x.2.2.2 hx.1 hx.2)
theorem shutCA {L : Row} {rv : Value} {mb : Nat} {kv : KV} (hA : L.map Prod.snd = A) (hg : Good kv L) (f : Fits (cl c [.int .i64 most, rv, .map (some mb)] :: own 1 rv (L.map Prod.fst).length ((L.map Prod.fst).map ptrV) :: mpi mb kv :: ents L :: R) H) : ∀ w, St σ H w → St σ (CA c most A :: R) w := fun w st => by
  have st := (f.st st).lay (p := L.map Prod.snd = A ∧ Good kv L) ⟨hA, hg⟩
  have st := st.of_eq (H' := star (pr (L.map Prod.snd = A ∧ Good kv L)) (star (cl c [.int .i64 most, rv, .map (some mb)]) (star (own 1 rv (L.map Prod.fst).length ((L.map Prod.fst).map ptrV)) (star (mpi mb kv) (ents L)))) :: R) (by simp only [stars, star_assoc])
  exact St.exI (A := fun (x : Row × Value × Nat × KV) => star (pr (x.1.map Prod.snd = A ∧ Good x.2.2.2 x.1))
    (star (cl c [.int .i64 most, x.2.1, .map (some x.2.2.1)]) (star (own 1 x.2.1 (x.1.map Prod.fst).length ((x.1.map Prod.fst).map ptrV)) (star (mpi x.2.2.1 x.2.2.2) (ents x.1))))) (L, rv, mb, kv) st
theorem shutCA' {L : Row} {rv : Value} {mb m : Nat} {kv : KV} {cs : List Value} (f : Fits (cl c [.int .i64 most, rv, .map (some mb)] :: own 1 rv m cs :: mpi mb kv :: ents L :: R) H) (hn : m = (L.map Prod.fst).length) (hc : cs = (L.map Prod.fst).map ptrV) (hA : L.map Prod.snd = A) (hg : Good kv L) : ∀ w, St σ H w → St σ (CA c most A :: R) w := by
  subst hn; subst hc; exact shutCA hA hg f
/-- with one entry open -/
theorem shutCAe {L E : Row} {rv dv : Value} {mb m p : Nat} {a : Ab} {kv : KV} {cs : List Value} (hp : L.Perm ((p, a) :: E))
    (f : Fits (cl p [dv, .bool a.dirty, .int .i64 a.pins, .int .i64 a.n] :: own 1 dv a.d.length (bv a.d) :: ents E :: cl c [.int .i64 most, rv, .map (some mb)] :: own 1 rv m cs :: mpi mb kv :: R) H) (hn : m = (L.map Prod.fst).length) (hc : cs = (L.map Prod.fst).map ptrV) (hA : L.map Prod.snd = A) (hg : Good kv L) : ∀ w, St σ H w → St σ (CA c most A :: R) w := by
  refine mem_trans (shutEnt (E1 := []) (E2 := E) (p := p) (a := a) (dv := dv) (R := cl c [.int .i64 most, rv, .map (some mb)] :: own 1 rv m cs :: mpi mb kv :: R) (by simpa using f)) ?_
  have he : ents ([] ++ (p, a) :: E) = ents L := (ents_perm hp).symm
  rw [he]
  exact shutCA' (by (repeat (first | exact Fits.rfl | exact Fits.nil | exact Sel.here | apply Sel.there | apply Fits.cons | apply Fits.drop))) hn hc hA hg
end
end Go.Proofs.Ythlbimdlpadhdaa
