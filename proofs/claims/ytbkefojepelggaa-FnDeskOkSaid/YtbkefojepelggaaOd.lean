/- What is proved: words for a space with its points in another order. No condition. -/
import Derived.Test.YtbkefojepelggaaSpace
namespace Go.Proofs.Ytbkefojepelggaa
open Go.RowKit
/-- the orders of at most three points -/
def ordN : Nat → List (List Int)
  | 1 => [[0]]
  | 2 => [[0, 1], [1, 0]]
  | 3 => [[0, 1, 2], [0, 2, 1], [1, 0, 2], [1, 2, 0], [2, 0, 1], [2, 1, 0]]
  | _ => []
def ordD (D : List (List Int)) (o : List Int) : List (List Int) := o.map fun i => o.map fun k => at2 D i.toNat k.toNat
theorem ordD_len (D : List (List Int)) (o : List Int) : (ordD D o).length = o.length := by simp [ordD]
theorem ordD_row {D : List (List Int)} {o : List Int} {i : Nat} (hi : i < o.length) : row (ordD D o) i = o.map fun k => at2 D (ix o i).toNat k.toNat := by
  rw [row_of (by rw [ordD_len]; exact hi), ix_of hi]
  simp [ordD]
theorem ordD_at {D : List (List Int)} {o : List Int} {i k : Nat} (hi : i < o.length) (hk : k < o.length) : at2 (ordD D o) i k = at2 D (ix o i).toNat (ix o k).toNat := by
  show ix (row (ordD D o) i) k = _
  rw [ordD_row hi, ix_of (by simpa using hk), ix_of hk]
  simp
theorem mat_ext {A B : List (List Int)} (hl : A.length = B.length) (hr : ∀ i, i < A.length → (row A i).length = (row B i).length) (h : ∀ i, i < A.length → ∀ k, k < (row A i).length → at2 A i k = at2 B i k) : A = B :=
  List.ext_getElem hl fun i h1 h2 => by
    rw [← row_of h1, ← row_of h2]
    refine List.ext_getElem (hr i h1) fun k k1 k2 => ?_
    have := h i h1 k k1
    have e1 : at2 A i k = (row A i)[k] := ix_of k1
    have e2 : at2 B i k = (row B i)[k] := ix_of k2
    rw [← e1, ← e2]; exact this
end Go.Proofs.Ytbkefojepelggaa
