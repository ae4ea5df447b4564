/- What is proved: impl.areFar returns whether rows are distances, for every slice of rows. No condition. -/
import Derived.Test.YtjpgjmhdjepfgaaDoorMem
namespace Go.Proofs.YtjpgjmhdjepfgaaDoor
open Go.RowKit

def cellOk (D : List (List Int)) (i k : Nat) : Bool := decide (0 ≤ at2 D i k ∧ at2 D i k ≤ 60 ∧ at2 D i k = at2 D k i ∧ (at2 D i k = 0 ↔ i = k))
def sqB (D : List (List Int)) : Bool := allR (fun i => decide ((row D i).length = D.length)) D.length 0
def cellsB (D : List (List Int)) : Bool := allR (fun i => allR (fun k => cellOk D i k) D.length 0) D.length 0
def sizeB (D : List (List Int)) : Bool := decide (1 ≤ D.length ∧ D.length ≤ 6)
/-- rows are distances -/
def farB (D : List (List Int)) : Bool := sizeB D && (sqB D && cellsB D)
theorem sqB_sq {D : List (List Int)} (h : sqB D = true) : Sq D := fun i hi => of_decide_eq_true ((allR_all _ _).1 h i hi)
theorem sq_sqB {D : List (List Int)} (h : Sq D) : sqB D = true := (allR_all _ _).2 fun i hi => decide_eq_true (h i hi)

end Go.Proofs.YtjpgjmhdjepfgaaDoor
