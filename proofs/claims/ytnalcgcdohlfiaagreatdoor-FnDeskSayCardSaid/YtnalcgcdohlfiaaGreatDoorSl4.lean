/- What is proved: nothing of its own: it brings the contracts on deeds and on desks together. -/
import Derived.Test.YtnalcgcdohlfiaaGreatDoorPj
import Derived.Test.YtnalcgcdohlfiaaGreatDoorDe
namespace Go.Proofs.YtnalcgcdohlfiaaGreatDoor
end Go.Proofs.YtnalcgcdohlfiaaGreatDoor
