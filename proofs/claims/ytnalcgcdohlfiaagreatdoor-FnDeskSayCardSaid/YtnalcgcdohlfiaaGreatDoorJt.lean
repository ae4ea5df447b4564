/- What is proved: texts of journals: spec.JournalText, impl.JournalText. Conditions: those of each contract. -/
import Derived.Test.YtnalcgcdohlfiaaGreatDoorDt
import Derived.Test.YtnalcgcdohlfiaaGreatDoorPl
namespace Go.Proofs.YtnalcgcdohlfiaaGreatDoor
open Go.RowKit
def dti (ds : List (Int × List Int)) (i : Nat) : List UInt8 := dtx (dk ds i) (dx ds i)
def jU (ds : List (Int × List Int)) : Nat → List UInt8
  | 0 => []
  | i + 1 => jU ds i ++ dti ds i ++ [10]
/-- the text of a journal -/
def jtx (ds : List (Int × List Int)) : List UInt8 := if ∀ i, i < ds.length → dti ds i ≠ [] then jU ds ds.length else []
theorem dtx_len (k : Int) (xs : List Int) : (dtx k xs).length ≤ 24 := by
  unfold dtx
  by_cases h : dtB k xs = true
  · rw [if_pos h]
    have hn : (nameT k).length ≤ 5 := by
      unfold nameT
      split
      · decide
      · split
        · decide
        · split
          · decide
          · split <;> decide
    split
    · omega
    · unfold dtB at h
      rw [Bool.and_eq_true] at h
      have hl : xs.length ≤ 6 := by
        have h2 := h.2
        simp only [Bool.or_eq_true, Bool.and_eq_true, decide_eq_true_eq] at h2
        omega
      have := rowU_len (allN_cons.1 h.1) xs.length (Nat.le_refl _)
      rw [rowU_all] at this
      rw [List.length_append, List.length_append, List.length_singleton]
      omega
  · rw [if_neg h]; simp
theorem jU_len (ds : List (Int × List Int)) : ∀ n, (jU ds n).length ≤ 25 * n := by
  intro n
  induction n with
  | zero => simp [jU]
  | succ n ih =>
    have := dtx_len (dk ds n) (dx ds n)
    show (jU ds n ++ dti ds n ++ [10]).length ≤ _
    rw [List.length_append, List.length_append, List.length_singleton]
    unfold dti
    omega
end Go.Proofs.YtnalcgcdohlfiaaGreatDoor
