/- What is proved: impl.WeightsOk and spec.WeightsOk return whether weights fit a space. No condition. -/
import Derived.Test.YtjpgjmhdjepfgaaDoorSplit
namespace Go.Proofs.YtjpgjmhdjepfgaaDoor
open Go.RowKit

def wtB (ws : List Int) : Bool := allR (fun i => inB (ix ws i) 0 9) ws.length 0
/-- there is a weight for each point of a space -/
def weightsB (D : List (List Int)) (ws : List Int) : Bool := wtB ws && (spB D && decide (ws.length = D.length))

end Go.Proofs.YtjpgjmhdjepfgaaDoor
