/- What is proved: spec.SplitsOf and impl.SplitsOf return the same rows, as new memory. No condition but the rows' size. -/
import Derived.Test.YtcejdgnfmcgopaaGreatDoorSplits
namespace Go.Proofs.YtcejdgnfmcgopaaGreatDoor
open Go.RowKit

theorem pow_nat {D : List (List Int)} : ((2 : Int) ^ (D.length - 1)) = ((2 ^ (D.length - 1) : Nat) : Int) := by simp
theorem splitB_mk {D : List (List Int)} {k : Nat} (hs : spB D = true) (h2 : 2 ≤ D.length) (k1 : 1 ≤ k) (k2 : k < 2 ^ (D.length - 1)) : splitB D k = true := by
  unfold splitB
  rw [hs, pow_nat]
  simp only [Bool.true_and, decide_eq_true_eq]
  exact ⟨h2, by omega, by exact_mod_cast k2⟩
/-- no lot at all -/
theorem splV_nil {D : List (List Int)} (h : splitB D 1 = false) : splV D = [] := by
  unfold splV
  by_cases hs : spB D = true
  · rw [if_pos hs]
    have n1 := (spB_len hs).1
    by_cases h2 : 2 ≤ D.length
    · have := splitB_mk hs h2 (Nat.le_refl 1) (Nat.one_lt_two_pow (by omega))
      rw [show ((1 : Nat) : Int) = 1 from rfl] at this
      rw [this] at h; cases h
    · have e : D.length = 1 := by omega
      unfold splD splL splG
      rw [e]
      rfl
  · rw [if_neg hs]
end Go.Proofs.YtcejdgnfmcgopaaGreatDoor
