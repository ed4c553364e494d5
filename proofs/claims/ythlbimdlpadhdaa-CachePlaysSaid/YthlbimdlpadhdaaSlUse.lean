/-
  Opening and shutting what a slice owns, in the midst of a walk. No program in sight.
-/
import Derived.Test.YthlbimdlpadhdaaSlByte
namespace Go.Sl
open Go
attribute [local semireducible] Ent EntL EntX OpTo Ctr pt OpQ OpU cl ar

section
variable {P : Program} {Q : Exit → Act → World → Prop} {n : Nat} {env : Env} {σ : Sig} {H R : List HP} {ops : Array Oper} {l : List Oper} {c : Code} {x : Exit}
variable {sz k : Nat} {v : Value} {cs : List Value}

theorem Ent.openOwn (s : Sel (own sz v k cs) H R) (hk : 0 < k)
    (h : ∀ b cap rest, v = .slice (some ⟨b, 0, none⟩) k cap → k ≤ cap → cs.length = k * sz → (cs ++ rest).length = cap * sz → Ent P c Q n env σ (ar b (cs ++ rest) :: R)) : Ent P c Q n env σ H := by
  intro a w f st
  rcases st.cases_own s with ⟨_, h2, _, _⟩ | ⟨b, cap, rest, h1, h2, h3, h4, st'⟩
  · omega
  · exact h b cap rest h1 h2 h3 h4 a w f st'
theorem EntL.openOwn (s : Sel (own sz v k cs) H R) (hk : 0 < k)
    (h : ∀ b cap rest, v = .slice (some ⟨b, 0, none⟩) k cap → k ≤ cap → cs.length = k * sz → (cs ++ rest).length = cap * sz → EntL P ops Q l n env σ (ar b (cs ++ rest) :: R)) : EntL P ops Q l n env σ H := by
  intro a w f st
  rcases st.cases_own s with ⟨_, h2, _, _⟩ | ⟨b, cap, rest, h1, h2, h3, h4, st'⟩
  · omega
  · exact h b cap rest h1 h2 h3 h4 a w f st'
/-- what is known of a slice that owns its cells -/
theorem Ent.own_len (s : Sel (own sz v k cs) H R) (h : (∃ a cap, v = .slice a k cap) → cs.length = k * sz → Ent P c Q n env σ H) : Ent P c Q n env σ H := by
  intro a w f st
  rcases st.cases_own s with ⟨h1, h2, h3, _⟩ | ⟨b, cap, rest, h1, h2, h3, h4, _⟩
  · exact h ⟨none, 0, by rw [h1, h2]⟩ (by simp [h2, h3]) a w f st
  · exact h ⟨_, cap, h1⟩ h3 a w f st
theorem EntL.own_len (s : Sel (own sz v k cs) H R) (h : (∃ a cap, v = .slice a k cap) → cs.length = k * sz → EntL P ops Q l n env σ H) : EntL P ops Q l n env σ H := by
  intro a w f st
  rcases st.cases_own s with ⟨h1, h2, h3, _⟩ | ⟨b, cap, rest, h1, h2, h3, h4, _⟩
  · exact h ⟨none, 0, by rw [h1, h2]⟩ (by simp [h2, h3]) a w f st
  · exact h ⟨_, cap, h1⟩ h3 a w f st
theorem Ent.nil_own {cap : Nat} (s : Sel (own sz (.slice none k cap) k cs) H R) (h : k = 0 → Ent P c Q n env σ H) : Ent P c Q n env σ H := by
  intro a w f st
  rcases st.cases_own s with ⟨h1, h2, h3, _⟩ | ⟨b, cap, rest, h1, h2, h3, h4, _⟩
  · exact h h2 a w f st
  · cases h1
theorem shut_own {b cap : Nat} {rest : List Value} {T : List HP} (f : Fits (ar b (cs ++ rest) :: T) H) (h1 : k ≤ cap) (h2 : cs.length = k * sz) (h3 : (cs ++ rest).length = cap * sz) : ∀ w, St σ H w → St σ (own sz (.slice (some ⟨b, 0, none⟩) k cap) k cs :: T) w :=
  fun _ s => (f.st s).shut_own h1 h2 h3
theorem mem_trans {H1 H2 H3 : List HP} (h : ∀ w, St σ H1 w → St σ H2 w) (h' : ∀ w, St σ H2 w → St σ H3 w) : ∀ w, St σ H1 w → St σ H3 w := fun w s => h' w (h w s)

theorem Ent.fact {p : Prop} (f : ∀ w, St σ H w → p) (h : p → Ent P c Q n env σ H) : Ent P c Q n env σ H := fun a w fr st => h (f w st) a w fr st
theorem EntL.fact {p : Prop} (f : ∀ w, St σ H w → p) (h : p → EntL P ops Q l n env σ H) : EntL P ops Q l n env σ H := fun a w fr st => h (f w st) a w fr st
/-- one chunk for some, some for one -/
theorem Ent.unfold {A : HP} {pre : List HP → List HP} (s : Sel A H R) (e : ∀ w, St σ (A :: R) w → St σ (pre R) w) (h : Ent P c Q n env σ (pre R)) : Ent P c Q n env σ H :=
  Ent.mem (fun w st => e w (st.of_eq (by rw [s.stars]; rfl))) h
theorem St.front {A : HP} (s : Sel A H R) {w : World} (h : St σ H w) : St σ (A :: R) w := h.of_eq (by rw [s.stars]; rfl)
theorem St.split {l : List HP} {w : World} (h : St σ (stars l :: R) w) : St σ (l ++ R) w := h.of_eq (by simp [stars, stars_append])
theorem St.unite {l : List HP} {w : World} (h : St σ (l ++ R) w) : St σ (stars l :: R) w := h.of_eq (by simp [stars, stars_append])
theorem star_sel {A B : HP} (s : Sel (star A B) H R) : ∀ w, St σ H w → St σ (A :: B :: R) w := fun _ st => (st.front s).of_eq (by simp only [stars, star_assoc])
theorem star_shut {A B : HP} (f : Fits (A :: B :: R) H) : ∀ w, St σ H w → St σ (star A B :: R) w := fun _ st => (f.st st).of_eq (by simp only [stars, star_assoc])
theorem St.exI {α : Sort _} {A : α → HP} (x : α) {w : World} (h : St σ (A x :: R) w) : St σ (ex A :: R) w :=
  h.mono (fun y hy => star_mono (A := A x) (A' := ex A) (fun _ a => ⟨x, a⟩) (fun _ a => a) y hy)
end
end Go.Sl
