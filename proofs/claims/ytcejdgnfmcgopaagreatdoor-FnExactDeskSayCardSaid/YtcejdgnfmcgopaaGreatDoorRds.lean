/- What is proved: the greatest of some numbers: no number is greater; its bounds. No condition. -/
import Derived.Test.YtcejdgnfmcgopaaGreatDoorPa
import Derived.Test.YtcejdgnfmcgopaaGreatDoorMeds
namespace Go.Proofs.YtcejdgnfmcgopaaGreatDoor
open Go.RowKit
theorem maxI_ge {xs : List Int} {j : Nat} (hj : j < xs.length) : ix xs j ≤ maxI xs := by
  have := itR_inv (f := fun k s => max s (ix xs k)) (fun k (s : Int) => ∀ j, j < k → ix xs j ≤ s) (xs.length - 1) 1 (ix xs 0) (fun j hj => by
    have : j = 0 := by omega
    subst this; omega) (fun k s _ hk h j hj => by
    show ix xs j ≤ max s (ix xs k)
    by_cases e : j = k
    · subst e; omega
    · have := h j (by omega); omega)
  exact this j (by omega)
theorem maxI_bd {xs : List Int} {a b : Int} (h0 : 0 < xs.length) (h : ∀ j, j < xs.length → a ≤ ix xs j ∧ ix xs j ≤ b) : a ≤ maxI xs ∧ maxI xs ≤ b :=
  itR_inv (f := fun k s => max s (ix xs k)) (fun _ (s : Int) => a ≤ s ∧ s ≤ b) (xs.length - 1) 1 (ix xs 0) (h 0 h0) (fun k s h1 hk hs => by
    have := h k (by omega)
    show a ≤ max s (ix xs k) ∧ max s (ix xs k) ≤ b
    omega)
end Go.Proofs.YtcejdgnfmcgopaaGreatDoor
