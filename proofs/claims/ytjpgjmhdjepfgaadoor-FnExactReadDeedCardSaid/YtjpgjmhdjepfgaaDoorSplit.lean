/- What is proved: impl.SplitOk and spec.SplitOk return whether a number tells one lot of a split. No condition. -/
import Derived.Test.YtjpgjmhdjepfgaaDoorOwn
namespace Go.Proofs.YtjpgjmhdjepfgaaDoor
open Go.RowKit

theorem wrap_pow {k : Nat} (h : k ≤ 40) : wrap64 (2 ^ k) = 2 ^ k := by
  have h1 : (2 : Int) ^ k ≤ 2 ^ 40 := by exact_mod_cast Nat.pow_le_pow_right (by decide) h
  have h2 : (0 : Int) < 2 ^ k := Int.pow_pos (by decide)
  have h3 : (2 : Int) ^ 40 = 1099511627776 := by decide
  exact IntWalk.wrap64_in _ ⟨by omega, by omega⟩
theorem wrap_pow1 {k : Nat} (h : k ≤ 40) : wrap64 (wrap64 (2 ^ k) - 1) = 2 ^ k - 1 := by
  rw [wrap_pow h]
  have h1 : (2 : Int) ^ k ≤ 2 ^ 40 := by exact_mod_cast Nat.pow_le_pow_right (by decide) h
  have h2 : (0 : Int) < 2 ^ k := Int.pow_pos (by decide)
  have h3 : (2 : Int) ^ 40 = 1099511627776 := by decide
  exact IntWalk.wrap64_in _ ⟨by omega, by omega⟩
theorem spB_far {D : List (List Int)} (h : spB D = true) : farB D = true := by
  unfold spB at h
  simp only [Bool.and_eq_true] at h
  exact h.1
theorem spB_len {D : List (List Int)} (h : spB D = true) : 1 ≤ D.length ∧ D.length ≤ 6 := (farB_parts (spB_far h)).1

/-- a number tells one lot of a split of a space -/
def splitB (D : List (List Int)) (l : Int) : Bool := spB D && decide (2 ≤ D.length ∧ 1 ≤ l ∧ l < 2 ^ (D.length - 1))

end Go.Proofs.YtjpgjmhdjepfgaaDoor
