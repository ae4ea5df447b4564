/- What is proved: nothing of its own: it brings the contracts on deeds and on desks together. -/
import Derived.Test.YtcejdgnfmcgopaaGreatDoorPj
import Derived.Test.YtcejdgnfmcgopaaGreatDoorDe
namespace Go.Proofs.YtcejdgnfmcgopaaGreatDoor
end Go.Proofs.YtcejdgnfmcgopaaGreatDoor
