/-
  No cell of these rows narrows 'for every input' (looked for: loops, veiled, ifaces, maps, wideKeys, modest, calm, conditions, laid).
  DERIVED. THE GIVEN ROWS OF THIS SEAT. 5 by the template 'for every input the law returns true; each argument reads behind the call as it read before'; 0 by the template 'total and deterministic' (their statements: YtpcjcgaplmlnlabTotals.lean).
  GIVEN WITH THE SEED: the statements are not yours to turn. If you find one false, say at which input.
  Laid BY PROGRAM, IN A SANDBOX (cutbox-rows.mjs): the forced cells as the released guide's own fill.sh prints them over the translation 23bded2f0a814b0a… (all of the seat's roots in one cut). By AI agents, Wed Nov 11 2026. No macro, syntax, notation, axiom, sorry.
-/
import Derived.Test.YtpcjcgaplmlnlabChecked
import GoSem.Claim
import GoSem.ClaimJoined
import GoSem.ClaimMapViews
import Derived.JoinedTies
import Derived.KernelRfl
namespace Go.Proofs.Ytpcjcgaplmlnlab
/- THE CELL 'sum', in the pinned program and in every row, IS THE sha256 OF THE DUMP (.gsa) THAT YtpcjcgaplmlnlabProg.lean LOADS. Nothing in Lean hashes anything: it is a label: what it is worth is what the hold of that sum in a sandbox is worth. -/
noncomputable def Try.pinned : Pinned := { name := "ytpcjcgaplmlnlab", sum := "23bded2f0a814b0a18c4c6d1522be6efa425ce9583b42aae18b53da8fc9ef725", checked := Try.checked }
namespace Rows
def none {H : Type} : Left H := { results := [], args := [] }

/-- 'laws.FnExactSumFrom': WHATEVER THE INPUT: true; the input reads as it did. -/
def fnExactSumFromSpec : ChangeSpec := { name := "fnExactSumFrom", fn := fun _ => fun
  | [d1, d2, d3] => { results := [.lit (.bool true)], args := [d1, d2, d3] }
  | _ => none }
def fnExactSumFromRow : OpenClaim := { program := "ytpcjcgaplmlnlab", sum := "23bded2f0a814b0a18c4c6d1522be6efa425ce9583b42aae18b53da8fc9ef725", func := "loop.example/fewpoints/laws.FnExactSumFrom", spec := "fnExactSumFrom", apart := false }
def FnExactSumFromSaid : Prop := fnExactSumFromRow.holds Try.pinned (OpenSpec.ofChange fnExactSumFromSpec)

/-- ITS FALSE NEIGHBOUR: 'it returns false'. Refute it at one input. -/
def fnExactSumFromWrong : ChangeSpec := { name := "fnExactSumFrom", fn := fun _ => fun
  | [d1, d2, d3] => { results := [.lit (.bool false)], args := [d1, d2, d3] }
  | _ => none }
def FnExactSumFromWrongFalsely : Prop := fnExactSumFromRow.holds Try.pinned (OpenSpec.ofChange fnExactSumFromWrong)

/-- 'laws.FnExactIsolatedBy': WHATEVER THE INPUT: true; the input reads as it did. -/
def fnExactIsolatedBySpec : ChangeSpec := { name := "fnExactIsolatedBy", fn := fun _ => fun
  | [d1, d2] => { results := [.lit (.bool true)], args := [d1, d2] }
  | _ => none }
def fnExactIsolatedByRow : OpenClaim := { program := "ytpcjcgaplmlnlab", sum := "23bded2f0a814b0a18c4c6d1522be6efa425ce9583b42aae18b53da8fc9ef725", func := "loop.example/fewpoints/laws.FnExactIsolatedBy", spec := "fnExactIsolatedBy", apart := false }
def FnExactIsolatedBySaid : Prop := fnExactIsolatedByRow.holds Try.pinned (OpenSpec.ofChange fnExactIsolatedBySpec)

/-- ITS FALSE NEIGHBOUR: 'it returns false'. Refute it at one input. -/
def fnExactIsolatedByWrong : ChangeSpec := { name := "fnExactIsolatedBy", fn := fun _ => fun
  | [d1, d2] => { results := [.lit (.bool false)], args := [d1, d2] }
  | _ => none }
def FnExactIsolatedByWrongFalsely : Prop := fnExactIsolatedByRow.holds Try.pinned (OpenSpec.ofChange fnExactIsolatedByWrong)

/-- 'laws.FnExactMedianSpace': WHATEVER THE INPUT: true; the input reads as it did. -/
def fnExactMedianSpaceSpec : ChangeSpec := { name := "fnExactMedianSpace", fn := fun _ => fun
  | [d] => { results := [.lit (.bool true)], args := [d] }
  | _ => none }
def fnExactMedianSpaceRow : OpenClaim := { program := "ytpcjcgaplmlnlab", sum := "23bded2f0a814b0a18c4c6d1522be6efa425ce9583b42aae18b53da8fc9ef725", func := "loop.example/fewpoints/laws.FnExactMedianSpace", spec := "fnExactMedianSpace", apart := false }
def FnExactMedianSpaceSaid : Prop := fnExactMedianSpaceRow.holds Try.pinned (OpenSpec.ofChange fnExactMedianSpaceSpec)

/-- ITS FALSE NEIGHBOUR: 'it returns false'. Refute it at one input. -/
def fnExactMedianSpaceWrong : ChangeSpec := { name := "fnExactMedianSpace", fn := fun _ => fun
  | [d] => { results := [.lit (.bool false)], args := [d] }
  | _ => none }
def FnExactMedianSpaceWrongFalsely : Prop := fnExactMedianSpaceRow.holds Try.pinned (OpenSpec.ofChange fnExactMedianSpaceWrong)

/-- 'laws.FnSplitOk': WHATEVER THE INPUT: true; the input reads as it did. -/
def fnSplitOkSpec : ChangeSpec := { name := "fnSplitOk", fn := fun _ => fun
  | [d] => { results := [.lit (.bool true)], args := [d] }
  | _ => none }
def fnSplitOkRow : OpenClaim := { program := "ytpcjcgaplmlnlab", sum := "23bded2f0a814b0a18c4c6d1522be6efa425ce9583b42aae18b53da8fc9ef725", func := "loop.example/fewpoints/laws.FnSplitOk", spec := "fnSplitOk", apart := false }
def FnSplitOkSaid : Prop := fnSplitOkRow.holds Try.pinned (OpenSpec.ofChange fnSplitOkSpec)

/-- ITS FALSE NEIGHBOUR: 'it returns false'. Refute it at one input. -/
def fnSplitOkWrong : ChangeSpec := { name := "fnSplitOk", fn := fun _ => fun
  | [d] => { results := [.lit (.bool false)], args := [d] }
  | _ => none }
def FnSplitOkWrongFalsely : Prop := fnSplitOkRow.holds Try.pinned (OpenSpec.ofChange fnSplitOkWrong)

/-- 'laws.FnExactDeskOk': WHATEVER THE INPUT: true; the input reads as it did. -/
def fnExactDeskOkSpec : ChangeSpec := { name := "fnExactDeskOk", fn := fun _ => fun
  | [d] => { results := [.lit (.bool true)], args := [d] }
  | _ => none }
def fnExactDeskOkRow : OpenClaim := { program := "ytpcjcgaplmlnlab", sum := "23bded2f0a814b0a18c4c6d1522be6efa425ce9583b42aae18b53da8fc9ef725", func := "loop.example/fewpoints/laws.FnExactDeskOk", spec := "fnExactDeskOk", unfollowed := true, recurses := true, apart := false }
def FnExactDeskOkSaid : Prop := fnExactDeskOkRow.holds Try.pinned (OpenSpec.ofChange fnExactDeskOkSpec)

/-- ITS FALSE NEIGHBOUR: 'it returns false'. Refute it at one input. -/
def fnExactDeskOkWrong : ChangeSpec := { name := "fnExactDeskOk", fn := fun _ => fun
  | [d] => { results := [.lit (.bool false)], args := [d] }
  | _ => none }
def FnExactDeskOkWrongFalsely : Prop := fnExactDeskOkRow.holds Try.pinned (OpenSpec.ofChange fnExactDeskOkWrong)

/- THE SECOND FORM. 'bulk': how many values and letters a reading holds, each counted each time it is reached (what is shared counts as often as it is met; a slice's spare places count too). A statement '..UptoSaid' is the law's where the arguments, and the package variables that the reading takes, are together of bulk at most 1048576: NARROWER than '..Said'. Prove '..Said' where nothing that the law and all that it calls make is longer than what came in: it says more and counts as full. Else prove '..UptoSaid'. A law counts once. -/
mutual
def uptoBulk {H : Type} : DataW H → Nat
  | .lit (.string bytes) => bytes.length + 1
  | .lit _ => 1
  | .nil => 1
  | .ptr d => uptoBulk d + 1
  | .slice elems spare => uptoBulkAll elems + uptoBulkAll spare + 1
  | .agg parts => uptoBulkAll parts + 1
  | .iface _ d => uptoBulk d + 1
  | .map entries => uptoBulkEntries entries + 1
  | .held _ => 1
def uptoBulkAll {H : Type} : List (DataW H) → Nat
  | [] => 0
  | d :: r => uptoBulk d + uptoBulkAll r
def uptoBulkEntries {H : Type} : List (Lit × DataW H) → Nat
  | [] => 0
  | x :: r => uptoBulkEntry x + uptoBulkEntries r
def uptoBulkEntry {H : Type} : Lit × DataW H → Nat
  | (.string bytes, d) => bytes.length + uptoBulk d + 1
  | (_, d) => uptoBulk d + 1
 end
def uptoSmall : (H : Type) → List (DataW H) → Bool := fun _ ds => decide (uptoBulkAll ds ≤ 1048576)
def OpenSpec.upto (s : _root_.Go.ChangeSpec) : _root_.Go.OpenSpec := { _root_.Go.OpenSpec.ofChange s with cond := some uptoSmall }

/-- 'laws.FnExactSumFrom', WHERE WHAT IT READS IS OF BULK AT MOST 1048576: true; the input reads as it did. -/
def fnExactSumFromUptoRow : OpenClaim := { program := "ytpcjcgaplmlnlab", sum := "23bded2f0a814b0a18c4c6d1522be6efa425ce9583b42aae18b53da8fc9ef725", func := "loop.example/fewpoints/laws.FnExactSumFrom", spec := "fnExactSumFrom", apart := false, narrowed := true }
def FnExactSumFromUptoSaid : Prop := fnExactSumFromUptoRow.holds Try.pinned (OpenSpec.upto fnExactSumFromSpec)

/-- 'laws.FnExactIsolatedBy', WHERE WHAT IT READS IS OF BULK AT MOST 1048576: true; the input reads as it did. -/
def fnExactIsolatedByUptoRow : OpenClaim := { program := "ytpcjcgaplmlnlab", sum := "23bded2f0a814b0a18c4c6d1522be6efa425ce9583b42aae18b53da8fc9ef725", func := "loop.example/fewpoints/laws.FnExactIsolatedBy", spec := "fnExactIsolatedBy", apart := false, narrowed := true }
def FnExactIsolatedByUptoSaid : Prop := fnExactIsolatedByUptoRow.holds Try.pinned (OpenSpec.upto fnExactIsolatedBySpec)

/-- 'laws.FnExactMedianSpace', WHERE WHAT IT READS IS OF BULK AT MOST 1048576: true; the input reads as it did. -/
def fnExactMedianSpaceUptoRow : OpenClaim := { program := "ytpcjcgaplmlnlab", sum := "23bded2f0a814b0a18c4c6d1522be6efa425ce9583b42aae18b53da8fc9ef725", func := "loop.example/fewpoints/laws.FnExactMedianSpace", spec := "fnExactMedianSpace", apart := false, narrowed := true }
def FnExactMedianSpaceUptoSaid : Prop := fnExactMedianSpaceUptoRow.holds Try.pinned (OpenSpec.upto fnExactMedianSpaceSpec)

/-- 'laws.FnSplitOk', WHERE WHAT IT READS IS OF BULK AT MOST 1048576: true; the input reads as it did. -/
def fnSplitOkUptoRow : OpenClaim := { program := "ytpcjcgaplmlnlab", sum := "23bded2f0a814b0a18c4c6d1522be6efa425ce9583b42aae18b53da8fc9ef725", func := "loop.example/fewpoints/laws.FnSplitOk", spec := "fnSplitOk", apart := false, narrowed := true }
def FnSplitOkUptoSaid : Prop := fnSplitOkUptoRow.holds Try.pinned (OpenSpec.upto fnSplitOkSpec)

/-- 'laws.FnExactDeskOk', WHERE WHAT IT READS IS OF BULK AT MOST 1048576: true; the input reads as it did. -/
def fnExactDeskOkUptoRow : OpenClaim := { program := "ytpcjcgaplmlnlab", sum := "23bded2f0a814b0a18c4c6d1522be6efa425ce9583b42aae18b53da8fc9ef725", func := "loop.example/fewpoints/laws.FnExactDeskOk", spec := "fnExactDeskOk", unfollowed := true, recurses := true, apart := false, narrowed := true }
def FnExactDeskOkUptoSaid : Prop := fnExactDeskOkUptoRow.holds Try.pinned (OpenSpec.upto fnExactDeskOkSpec)

end Rows
end Go.Proofs.Ytpcjcgaplmlnlab
