/- CacheKeeps, whatever comes in: the contract out of the arguments' reading. -/
import Derived.Test.YthlbimdlpadhdaaC11
import Derived.Test.YthlbimdlpadhdaaCS
import Derived.Test.YthlbimdlpadhdaaSlArg
import Derived.KernelRfl
namespace Go.Proofs.Ythlbimdlpadhdaa
open Go Go.Sl Go.WideShapes

instance : StructF Try.prog 33 [(0, 1, 3), (1, 1, 3), (2, 1, 3), (3, 1, 5)] 4 := ⟨⟨by kernel_rfl, by kernel_rfl⟩⟩
theorem call_of_rd {W : World} {cs : List Value} (h : Rd Try.prog W 33 cs) : ∃ k b s y : Int, cs = [.int .i64 k, .int .i64 b, .int .i64 s, .int .u8 y] ∧ 0 ≤ y := by
  obtain ⟨hl, hf⟩ := h.parts
  obtain ⟨a0, g0, _⟩ := (hf (0, 1, 3) (by simp)).intAt Try.underlying3
  obtain ⟨a1, g1, _⟩ := (hf (1, 1, 3) (by simp)).intAt Try.underlying3
  obtain ⟨a2, g2, _⟩ := (hf (2, 1, 3) (by simp)).intAt Try.underlying3
  obtain ⟨a3, g3, w3⟩ := (hf (3, 1, 5) (by simp)).intAt Try.underlying5
  match cs, hl, g0, g1, g2, g3 with
  | [x0, x1, x2, x3], _, g0, g1, g2, g3 =>
    cases g0; cases g1; cases g2; cases g3
    exact ⟨_, _, _, _, rfl, w3.1⟩
theorem keeps_calls : LawCalls Try.prog 4 [3, 22] := by
  intro W base vs h
  obtain ⟨v, vs, rfl, h1, o1, v', vs', rfl, h2, o2, rfl⟩ := h
  obtain ⟨n, rfl⟩ := okWide_int Try.underlying3 o1
  obtain ⟨a, len, cap, rfl⟩ := okWide_slice Try.underlying22 o2
  obtain ⟨a', len', cap', he, hlc, hcm, X, hX, hR⟩ := h2.slice Try.underlying22
  cases he
  exact (keeps_spec sorts W n a len cap X hX (fun i hi => call_of_rd (hR i hi))).law
end Go.Proofs.Ythlbimdlpadhdaa
