/- What is proved: impl.arePoints returns whether there are a space and points of it; with its closure and slices.ContainsFunc, slices.IndexFunc at it. No condition but sizes. -/
import Derived.Test.YtcejdgnfmcgopaaGreatDoorPa
namespace Go.Proofs.YtcejdgnfmcgopaaGreatDoor
open Go.RowKit

def idxF (q : Int → Bool) (xs : List Int) : Nat → Nat → Int
  | 0, _ => -1
  | g + 1, i => if q (ix xs i) = true then (i : Int) else idxF q xs g (i + 1)
theorem idxF_all (q : Int → Bool) (xs : List Int) : ∀ g i, i + g = xs.length → (idxF q xs g i < 0 ↔ ∀ x ∈ xs.drop i, q x = false)
  | 0, i, h => by
    have : xs.drop i = [] := List.drop_eq_nil_of_le (by omega)
    simp [idxF, this]
  | g + 1, i, h => by
    have hi : i < xs.length := by omega
    rw [idxF, List.drop_eq_getElem_cons hi, ← ix_of hi]
    by_cases e : q (ix xs i) = true
    · rw [if_pos e]; simp [e]
    · rw [if_neg e, idxF_all q xs g (i + 1) (by omega)]
      simp [Bool.not_eq_true] at e
      simp [e]

def badB (D : List (List Int)) (x : Int) : Bool := !pointB D x
def ptsB (D : List (List Int)) (xs : List Int) : Bool := xs.all (pointB D)
theorem ptsB_idx (D : List (List Int)) (xs : List Int) : ptsB D xs = !decide (0 ≤ idxF (badB D) xs xs.length 0) := by
  have h := idxF_all (badB D) xs xs.length 0 (by omega)
  rw [List.drop_zero] at h
  unfold ptsB
  rw [Bool.eq_iff_iff]
  simp only [List.all_eq_true, Bool.not_eq_true', decide_eq_false_iff_not]
  rw [show (¬ 0 ≤ idxF (badB D) xs xs.length 0) ↔ idxF (badB D) xs xs.length 0 < 0 by omega, h]
  simp [badB]

end Go.Proofs.YtcejdgnfmcgopaaGreatDoor
