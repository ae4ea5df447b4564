/- What is proved: which spaces have the first point alone as a lot. No condition. -/
import Derived.Test.YtjaigidlpfdfiaaSplit
namespace Go.Proofs.Ytjaigidlpfdfiaa
open Go.RowKit
theorem splitB_one {D : List (List Int)} : splitB D 1 = (spB D && decide (1 < D.length)) := by
  unfold splitB
  cases h : spB D with
  | false => rfl
  | true =>
    rw [Bool.true_and, Bool.true_and]
    by_cases h2 : 1 < D.length
    · rw [decide_eq_true h2, decide_eq_true_iff]
      refine ⟨by omega, by omega, ?_⟩
      obtain ⟨m, hm⟩ : ∃ m, D.length - 1 = m + 1 := ⟨D.length - 2, by omega⟩
      rw [hm, Int.pow_succ]
      have : (0 : Int) < 2 ^ m := Int.pow_pos (by decide)
      omega
    · rw [decide_eq_false h2, decide_eq_false_iff_not]
      omega
theorem splitB_zero (D : List (List Int)) : splitB D 0 = false := by
  unfold splitB
  rw [decide_eq_false (by omega)]
  cases spB D <;> rfl
end Go.Proofs.Ytjaigidlpfdfiaa
