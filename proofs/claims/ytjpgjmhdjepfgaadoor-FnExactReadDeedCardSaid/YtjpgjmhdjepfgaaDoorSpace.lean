/- What is proved: impl.isSpace, spec.FarOk, spec.SpaceOk return whether rows are distances, a space, for every slice of rows. No condition. -/
import Derived.Test.YtjpgjmhdjepfgaaDoorFar
namespace Go.Proofs.YtjpgjmhdjepfgaaDoor
open Go.RowKit

def tri (D : List (List Int)) (i k j : Nat) : Bool := decide (at2 D i k ≤ at2 D i j + at2 D j k)
def triB (D : List (List Int)) : Bool := allR (fun i => allR (fun k => allR (fun j => tri D i k j) D.length 0) D.length 0) D.length 0
/-- rows are a space -/
def spB (D : List (List Int)) : Bool := farB D && triB D
theorem farB_parts {D : List (List Int)} (h : farB D = true) : (1 ≤ D.length ∧ D.length ≤ 6) ∧ Sq D ∧ ∀ i, i < D.length → ∀ k, k < D.length → 0 ≤ at2 D i k ∧ at2 D i k ≤ 60 ∧ at2 D i k = at2 D k i ∧ (at2 D i k = 0 ↔ i = k) := by
  simp only [farB, Bool.and_eq_true] at h
  obtain ⟨h1, h2, h3⟩ := h
  refine ⟨of_decide_eq_true h1, sqB_sq h2, fun i hi k hk => ?_⟩
  exact of_decide_eq_true ((allR_all _ _).1 ((allR_all _ _).1 h3 i hi) k hk)

end Go.Proofs.YtjpgjmhdjepfgaaDoor
