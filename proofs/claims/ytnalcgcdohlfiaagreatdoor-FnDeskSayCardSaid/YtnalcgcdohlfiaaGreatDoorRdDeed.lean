/- What is proved: how a deed, and a list of deeds, that come in are opened. No condition. -/
import Derived.Test.YtnalcgcdohlfiaaGreatDoorPa
import Derived.Test.YtnalcgcdohlfiaaGreatDoorPl
namespace Go.Proofs.YtnalcgcdohlfiaaGreatDoor
open Go.RowKit Go.ChangeShapes Go.WideShapes Go.ChangeAt Go.Deep
section
variable {H : Type} {enc : TypeId × Value → H} {W : World} {base : Nat}
set_option maxRecDepth 100000 in
theorem ints_of_trod {fuel : Nat} {cs : List Value} {x : DataW H × List MemPlace} (hf : DataW.trod enc Tryz.prog W base (fun _ => true) true fuel 47 cs = some x) : ∃ A c xs, cs = [.slice A (List.length xs) c] ∧ Ints W A c xs := by
  rcases open_ints Tryz.underlying47 Tryz.underlying3 cellsI hf with ⟨hcs, _⟩ | ⟨a, len', cap', zs, hcs, hb, hl, hm, hz, hy, hcell, hwz⟩
  · exact ⟨none, 0, [], hcs, Ints.nil _ _ _ (Nat.zero_le _)⟩
  · simp only [if_true] at hz
    obtain ⟨e, hI⟩ := ints_of_cells (w := W) (A := some a) (L := len') (C := cap') (zs := zs) hl hm hz (fun h => by cases h) (fun a' ha c hc => by cases ha; exact hcell c (by rw [hz]; exact hc))
    exact ⟨some a, cap', zs.take len', by rw [hcs, e], hI⟩
end
end Go.Proofs.YtnalcgcdohlfiaaGreatDoor
