/- What is proved: the number whose bits are given. No condition. -/
import Derived.Test.YtpkiodpocggfbaaIsoP
namespace Go.Proofs.Ytpkiodpocggfbaa
open Go.RowKit

/-- the lot of the points below m at which f holds -/
def lotOf (f : Nat → Bool) : Nat → Int
  | 0 => 0
  | m + 1 => lotOf f m + if f m = true then 2 ^ m else 0
theorem lotOf_bd (f : Nat → Bool) : ∀ m, 0 ≤ lotOf f m ∧ lotOf f m < 2 ^ m
  | 0 => ⟨Int.le_refl _, by show (0 : Int) < 1; decide⟩
  | m + 1 => by
    have h := lotOf_bd f m
    have hp : (0 : Int) < 2 ^ m := Int.pow_pos (by decide)
    rw [lotOf, Int.pow_succ]
    split <;> omega
theorem bit_add {x : Int} {k m : Nat} (h : k < m) : bitI (x + 2 ^ m) k = bitI x k := by
  obtain ⟨j, rfl⟩ : ∃ j, m = k + (j + 1) := ⟨m - k - 1, by omega⟩
  have hp : (0 : Int) < 2 ^ k := Int.pow_pos (by decide)
  unfold bitI
  rw [Int.pow_add, Int.add_mul_ediv_left _ _ (by omega), Int.pow_succ]
  omega
theorem bit_top {x : Int} {m : Nat} (h0 : 0 ≤ x) (h : x < 2 ^ m) : bitI (x + 2 ^ m) m = 1 := by
  have hp : (0 : Int) < 2 ^ m := Int.pow_pos (by decide)
  unfold bitI
  rw [show x + 2 ^ m = x + 2 ^ m * 1 by omega, Int.add_mul_ediv_left _ _ (by omega), Int.ediv_eq_zero_of_lt h0 h]
  decide
theorem lotOf_bit (f : Nat → Bool) : ∀ m k, k < m → bitI (lotOf f m) k = if f k = true then 1 else 0
  | 0, k, h => absurd h (by omega)
  | m + 1, k, h => by
    have hb := lotOf_bd f m
    rw [lotOf]
    by_cases e : k = m
    · subst e
      by_cases q : f k = true
      · rw [if_pos q, if_pos q, bit_top hb.1 hb.2]
      · rw [if_neg q, if_neg q, Int.add_zero, bit_last hb.1 hb.2]
    · have ih := lotOf_bit f m k (by omega)
      by_cases q : f m = true
      · rw [if_pos q, bit_add (by omega), ih]
      · rw [if_neg q, Int.add_zero, ih]
end Go.Proofs.Ytpkiodpocggfbaa
