/- What is proved: the contract of l20Deed, as the draws of desks want it. No condition. -/
import Derived.Test.YtnalcgcdohlfiaaGreatDoorDrDeed
import Derived.Test.YtnalcgcdohlfiaaGreatDoorDsk
namespace Go.Proofs.YtnalcgcdohlfiaaGreatDoor
theorem deedAny : DeedAny := fun _ _ _ _ hR hB hu A c D p2 h h6 hb hp => l20Deed_any hR hB hu A c D p2 h h6 hb hp
end Go.Proofs.YtnalcgcdohlfiaaGreatDoor
