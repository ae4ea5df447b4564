/-
  No cell of these rows narrows 'for every input' (looked for: loops, veiled, ifaces, maps, wideKeys, modest, calm, conditions, laid).
  DERIVED. THE GIVEN ROWS OF THIS SEAT. 14 by the template 'for every input the law returns true; each argument reads behind the call as it read before'; 0 by the template 'total and deterministic' (their statements: YtpfbnaachibbfaaTotals.lean).
  GIVEN WITH THE SEED: the statements are not yours to turn. If you find one false, say at which input.
  Laid BY PROGRAM, IN A SANDBOX (cutbox-rows.mjs): the forced cells as the released guide's own fill.sh prints them over the translation 28b4891e844771bd… (all of the seat's roots in one cut). By AI agents, Wed Nov 11 2026. No macro, syntax, notation, axiom, sorry.
-/
import Derived.Test.YtpfbnaachibbfaaChecked
import GoSem.Claim
import GoSem.ClaimJoined
import GoSem.ClaimMapViews
import Derived.JoinedTies
import Derived.KernelRfl
namespace Go.Proofs.Ytpfbnaachibbfaa
/- THE CELL 'sum', in the pinned program and in every row, IS THE sha256 OF THE DUMP (.gsa) THAT YtpfbnaachibbfaaProg.lean LOADS. Nothing in Lean hashes anything: it is a label: what it is worth is what the hold of that sum in a sandbox is worth. -/
noncomputable def Try.pinned : Pinned := { name := "ytpfbnaachibbfaa", sum := "28b4891e844771bd1c46a1fa827be78eb72c5b97da13b89d768c7162d68213bf", checked := Try.checked }
namespace Rows
def none {H : Type} : Left H := { results := [], args := [] }

/-- 'laws.FnExactMediansOf': WHATEVER THE INPUT: true; the input reads as it did. -/
def fnExactMediansOfSpec : ChangeSpec := { name := "fnExactMediansOf", fn := fun _ => fun
  | [d1, d2] => { results := [.lit (.bool true)], args := [d1, d2] }
  | _ => none }
def fnExactMediansOfRow : OpenClaim := { program := "ytpfbnaachibbfaa", sum := "28b4891e844771bd1c46a1fa827be78eb72c5b97da13b89d768c7162d68213bf", func := "loop.example/fewpoints/laws.FnExactMediansOf", spec := "fnExactMediansOf", apart := false }
def FnExactMediansOfSaid : Prop := fnExactMediansOfRow.holds Try.pinned (OpenSpec.ofChange fnExactMediansOfSpec)

/-- ITS FALSE NEIGHBOUR: 'it returns false'. Refute it at one input. -/
def fnExactMediansOfWrong : ChangeSpec := { name := "fnExactMediansOf", fn := fun _ => fun
  | [d1, d2] => { results := [.lit (.bool false)], args := [d1, d2] }
  | _ => none }
def FnExactMediansOfWrongFalsely : Prop := fnExactMediansOfRow.holds Try.pinned (OpenSpec.ofChange fnExactMediansOfWrong)

/-- 'laws.FnAllTogether': WHATEVER THE INPUT: true; the input reads as it did. -/
def fnAllTogetherSpec : ChangeSpec := { name := "fnAllTogether", fn := fun _ => fun
  | [d] => { results := [.lit (.bool true)], args := [d] }
  | _ => none }
def fnAllTogetherRow : OpenClaim := { program := "ytpfbnaachibbfaa", sum := "28b4891e844771bd1c46a1fa827be78eb72c5b97da13b89d768c7162d68213bf", func := "loop.example/fewpoints/laws.FnAllTogether", spec := "fnAllTogether", apart := false }
def FnAllTogetherSaid : Prop := fnAllTogetherRow.holds Try.pinned (OpenSpec.ofChange fnAllTogetherSpec)

/-- ITS FALSE NEIGHBOUR: 'it returns false'. Refute it at one input. -/
def fnAllTogetherWrong : ChangeSpec := { name := "fnAllTogether", fn := fun _ => fun
  | [d] => { results := [.lit (.bool false)], args := [d] }
  | _ => none }
def FnAllTogetherWrongFalsely : Prop := fnAllTogetherRow.holds Try.pinned (OpenSpec.ofChange fnAllTogetherWrong)

/-- 'laws.FnExactMiddlesOf': WHATEVER THE INPUT: true; the input reads as it did. -/
def fnExactMiddlesOfSpec : ChangeSpec := { name := "fnExactMiddlesOf", fn := fun _ => fun
  | [d1, d2, d3, d4] => { results := [.lit (.bool true)], args := [d1, d2, d3, d4] }
  | _ => none }
def fnExactMiddlesOfRow : OpenClaim := { program := "ytpfbnaachibbfaa", sum := "28b4891e844771bd1c46a1fa827be78eb72c5b97da13b89d768c7162d68213bf", func := "loop.example/fewpoints/laws.FnExactMiddlesOf", spec := "fnExactMiddlesOf", unfollowed := true, recurses := true, apart := false }
def FnExactMiddlesOfSaid : Prop := fnExactMiddlesOfRow.holds Try.pinned (OpenSpec.ofChange fnExactMiddlesOfSpec)

/-- ITS FALSE NEIGHBOUR: 'it returns false'. Refute it at one input. -/
def fnExactMiddlesOfWrong : ChangeSpec := { name := "fnExactMiddlesOf", fn := fun _ => fun
  | [d1, d2, d3, d4] => { results := [.lit (.bool false)], args := [d1, d2, d3, d4] }
  | _ => none }
def FnExactMiddlesOfWrongFalsely : Prop := fnExactMiddlesOfRow.holds Try.pinned (OpenSpec.ofChange fnExactMiddlesOfWrong)

/-- 'laws.FnFitTogether': WHATEVER THE INPUT: true; the input reads as it did. -/
def fnFitTogetherSpec : ChangeSpec := { name := "fnFitTogether", fn := fun _ => fun
  | [d] => { results := [.lit (.bool true)], args := [d] }
  | _ => none }
def fnFitTogetherRow : OpenClaim := { program := "ytpfbnaachibbfaa", sum := "28b4891e844771bd1c46a1fa827be78eb72c5b97da13b89d768c7162d68213bf", func := "loop.example/fewpoints/laws.FnFitTogether", spec := "fnFitTogether", apart := false }
def FnFitTogetherSaid : Prop := fnFitTogetherRow.holds Try.pinned (OpenSpec.ofChange fnFitTogetherSpec)

/-- ITS FALSE NEIGHBOUR: 'it returns false'. Refute it at one input. -/
def fnFitTogetherWrong : ChangeSpec := { name := "fnFitTogether", fn := fun _ => fun
  | [d] => { results := [.lit (.bool false)], args := [d] }
  | _ => none }
def FnFitTogetherWrongFalsely : Prop := fnFitTogetherRow.holds Try.pinned (OpenSpec.ofChange fnFitTogetherWrong)

/-- 'laws.FnAroundSet': WHATEVER THE INPUT: true; the input reads as it did. -/
def fnAroundSetSpec : ChangeSpec := { name := "fnAroundSet", fn := fun _ => fun
  | [d1, d2] => { results := [.lit (.bool true)], args := [d1, d2] }
  | _ => none }
def fnAroundSetRow : OpenClaim := { program := "ytpfbnaachibbfaa", sum := "28b4891e844771bd1c46a1fa827be78eb72c5b97da13b89d768c7162d68213bf", func := "loop.example/fewpoints/laws.FnAroundSet", spec := "fnAroundSet", apart := false }
def FnAroundSetSaid : Prop := fnAroundSetRow.holds Try.pinned (OpenSpec.ofChange fnAroundSetSpec)

/-- ITS FALSE NEIGHBOUR: 'it returns false'. Refute it at one input. -/
def fnAroundSetWrong : ChangeSpec := { name := "fnAroundSet", fn := fun _ => fun
  | [d1, d2] => { results := [.lit (.bool false)], args := [d1, d2] }
  | _ => none }
def FnAroundSetWrongFalsely : Prop := fnAroundSetRow.holds Try.pinned (OpenSpec.ofChange fnAroundSetWrong)

/-- 'laws.FnWeightsOk': WHATEVER THE INPUT: true; the input reads as it did. -/
def fnWeightsOkSpec : ChangeSpec := { name := "fnWeightsOk", fn := fun _ => fun
  | [d] => { results := [.lit (.bool true)], args := [d] }
  | _ => none }
def fnWeightsOkRow : OpenClaim := { program := "ytpfbnaachibbfaa", sum := "28b4891e844771bd1c46a1fa827be78eb72c5b97da13b89d768c7162d68213bf", func := "loop.example/fewpoints/laws.FnWeightsOk", spec := "fnWeightsOk", apart := false }
def FnWeightsOkSaid : Prop := fnWeightsOkRow.holds Try.pinned (OpenSpec.ofChange fnWeightsOkSpec)

/-- ITS FALSE NEIGHBOUR: 'it returns false'. Refute it at one input. -/
def fnWeightsOkWrong : ChangeSpec := { name := "fnWeightsOk", fn := fun _ => fun
  | [d] => { results := [.lit (.bool false)], args := [d] }
  | _ => none }
def FnWeightsOkWrongFalsely : Prop := fnWeightsOkRow.holds Try.pinned (OpenSpec.ofChange fnWeightsOkWrong)

/-- 'laws.FnExactNetOf': WHATEVER THE INPUT: true; the input reads as it did. -/
def fnExactNetOfSpec : ChangeSpec := { name := "fnExactNetOf", fn := fun _ => fun
  | [d1, d2] => { results := [.lit (.bool true)], args := [d1, d2] }
  | _ => none }
def fnExactNetOfRow : OpenClaim := { program := "ytpfbnaachibbfaa", sum := "28b4891e844771bd1c46a1fa827be78eb72c5b97da13b89d768c7162d68213bf", func := "loop.example/fewpoints/laws.FnExactNetOf", spec := "fnExactNetOf", apart := false }
def FnExactNetOfSaid : Prop := fnExactNetOfRow.holds Try.pinned (OpenSpec.ofChange fnExactNetOfSpec)

/-- ITS FALSE NEIGHBOUR: 'it returns false'. Refute it at one input. -/
def fnExactNetOfWrong : ChangeSpec := { name := "fnExactNetOf", fn := fun _ => fun
  | [d1, d2] => { results := [.lit (.bool false)], args := [d1, d2] }
  | _ => none }
def FnExactNetOfWrongFalsely : Prop := fnExactNetOfRow.holds Try.pinned (OpenSpec.ofChange fnExactNetOfWrong)

/-- 'laws.FnExactSplitsOf': WHATEVER THE INPUT: true; the input reads as it did. -/
def fnExactSplitsOfSpec : ChangeSpec := { name := "fnExactSplitsOf", fn := fun _ => fun
  | [d] => { results := [.lit (.bool true)], args := [d] }
  | _ => none }
def fnExactSplitsOfRow : OpenClaim := { program := "ytpfbnaachibbfaa", sum := "28b4891e844771bd1c46a1fa827be78eb72c5b97da13b89d768c7162d68213bf", func := "loop.example/fewpoints/laws.FnExactSplitsOf", spec := "fnExactSplitsOf", apart := false }
def FnExactSplitsOfSaid : Prop := fnExactSplitsOfRow.holds Try.pinned (OpenSpec.ofChange fnExactSplitsOfSpec)

/-- ITS FALSE NEIGHBOUR: 'it returns false'. Refute it at one input. -/
def fnExactSplitsOfWrong : ChangeSpec := { name := "fnExactSplitsOf", fn := fun _ => fun
  | [d] => { results := [.lit (.bool false)], args := [d] }
  | _ => none }
def FnExactSplitsOfWrongFalsely : Prop := fnExactSplitsOfRow.holds Try.pinned (OpenSpec.ofChange fnExactSplitsOfWrong)

/-- 'laws.FnUnlikeBy': WHATEVER THE INPUT: true; the input reads as it did. -/
def fnUnlikeBySpec : ChangeSpec := { name := "fnUnlikeBy", fn := fun _ => fun
  | [d] => { results := [.lit (.bool true)], args := [d] }
  | _ => none }
def fnUnlikeByRow : OpenClaim := { program := "ytpfbnaachibbfaa", sum := "28b4891e844771bd1c46a1fa827be78eb72c5b97da13b89d768c7162d68213bf", func := "loop.example/fewpoints/laws.FnUnlikeBy", spec := "fnUnlikeBy", apart := false }
def FnUnlikeBySaid : Prop := fnUnlikeByRow.holds Try.pinned (OpenSpec.ofChange fnUnlikeBySpec)

/-- ITS FALSE NEIGHBOUR: 'it returns false'. Refute it at one input. -/
def fnUnlikeByWrong : ChangeSpec := { name := "fnUnlikeBy", fn := fun _ => fun
  | [d] => { results := [.lit (.bool false)], args := [d] }
  | _ => none }
def FnUnlikeByWrongFalsely : Prop := fnUnlikeByRow.holds Try.pinned (OpenSpec.ofChange fnUnlikeByWrong)

/-- 'laws.FnExactAllDivided': WHATEVER THE INPUT: true; the input reads as it did. -/
def fnExactAllDividedSpec : ChangeSpec := { name := "fnExactAllDivided", fn := fun _ => fun
  | [d] => { results := [.lit (.bool true)], args := [d] }
  | _ => none }
def fnExactAllDividedRow : OpenClaim := { program := "ytpfbnaachibbfaa", sum := "28b4891e844771bd1c46a1fa827be78eb72c5b97da13b89d768c7162d68213bf", func := "loop.example/fewpoints/laws.FnExactAllDivided", spec := "fnExactAllDivided", apart := false }
def FnExactAllDividedSaid : Prop := fnExactAllDividedRow.holds Try.pinned (OpenSpec.ofChange fnExactAllDividedSpec)

/-- ITS FALSE NEIGHBOUR: 'it returns false'. Refute it at one input. -/
def fnExactAllDividedWrong : ChangeSpec := { name := "fnExactAllDivided", fn := fun _ => fun
  | [d] => { results := [.lit (.bool false)], args := [d] }
  | _ => none }
def FnExactAllDividedWrongFalsely : Prop := fnExactAllDividedRow.holds Try.pinned (OpenSpec.ofChange fnExactAllDividedWrong)

/-- 'laws.FnExactDividedAt': WHATEVER THE INPUT: true; the input reads as it did. -/
def fnExactDividedAtSpec : ChangeSpec := { name := "fnExactDividedAt", fn := fun _ => fun
  | [d1, d2, d3] => { results := [.lit (.bool true)], args := [d1, d2, d3] }
  | _ => none }
def fnExactDividedAtRow : OpenClaim := { program := "ytpfbnaachibbfaa", sum := "28b4891e844771bd1c46a1fa827be78eb72c5b97da13b89d768c7162d68213bf", func := "loop.example/fewpoints/laws.FnExactDividedAt", spec := "fnExactDividedAt", unfollowed := true, recurses := true, apart := false }
def FnExactDividedAtSaid : Prop := fnExactDividedAtRow.holds Try.pinned (OpenSpec.ofChange fnExactDividedAtSpec)

/-- ITS FALSE NEIGHBOUR: 'it returns false'. Refute it at one input. -/
def fnExactDividedAtWrong : ChangeSpec := { name := "fnExactDividedAt", fn := fun _ => fun
  | [d1, d2, d3] => { results := [.lit (.bool false)], args := [d1, d2, d3] }
  | _ => none }
def FnExactDividedAtWrongFalsely : Prop := fnExactDividedAtRow.holds Try.pinned (OpenSpec.ofChange fnExactDividedAtWrong)

/-- 'laws.FnExactRestAt': WHATEVER THE INPUT: true; the input reads as it did. -/
def fnExactRestAtSpec : ChangeSpec := { name := "fnExactRestAt", fn := fun _ => fun
  | [d1, d2, d3] => { results := [.lit (.bool true)], args := [d1, d2, d3] }
  | _ => none }
def fnExactRestAtRow : OpenClaim := { program := "ytpfbnaachibbfaa", sum := "28b4891e844771bd1c46a1fa827be78eb72c5b97da13b89d768c7162d68213bf", func := "loop.example/fewpoints/laws.FnExactRestAt", spec := "fnExactRestAt", unfollowed := true, recurses := true, apart := false }
def FnExactRestAtSaid : Prop := fnExactRestAtRow.holds Try.pinned (OpenSpec.ofChange fnExactRestAtSpec)

/-- ITS FALSE NEIGHBOUR: 'it returns false'. Refute it at one input. -/
def fnExactRestAtWrong : ChangeSpec := { name := "fnExactRestAt", fn := fun _ => fun
  | [d1, d2, d3] => { results := [.lit (.bool false)], args := [d1, d2, d3] }
  | _ => none }
def FnExactRestAtWrongFalsely : Prop := fnExactRestAtRow.holds Try.pinned (OpenSpec.ofChange fnExactRestAtWrong)

/-- 'laws.FnSumFrom': WHATEVER THE INPUT: true; the input reads as it did. -/
def fnSumFromSpec : ChangeSpec := { name := "fnSumFrom", fn := fun _ => fun
  | [d] => { results := [.lit (.bool true)], args := [d] }
  | _ => none }
def fnSumFromRow : OpenClaim := { program := "ytpfbnaachibbfaa", sum := "28b4891e844771bd1c46a1fa827be78eb72c5b97da13b89d768c7162d68213bf", func := "loop.example/fewpoints/laws.FnSumFrom", spec := "fnSumFrom", apart := false }
def FnSumFromSaid : Prop := fnSumFromRow.holds Try.pinned (OpenSpec.ofChange fnSumFromSpec)

/-- ITS FALSE NEIGHBOUR: 'it returns false'. Refute it at one input. -/
def fnSumFromWrong : ChangeSpec := { name := "fnSumFrom", fn := fun _ => fun
  | [d] => { results := [.lit (.bool false)], args := [d] }
  | _ => none }
def FnSumFromWrongFalsely : Prop := fnSumFromRow.holds Try.pinned (OpenSpec.ofChange fnSumFromWrong)

/-- 'laws.FnIsolatedBy': WHATEVER THE INPUT: true; the input reads as it did. -/
def fnIsolatedBySpec : ChangeSpec := { name := "fnIsolatedBy", fn := fun _ => fun
  | [d] => { results := [.lit (.bool true)], args := [d] }
  | _ => none }
def fnIsolatedByRow : OpenClaim := { program := "ytpfbnaachibbfaa", sum := "28b4891e844771bd1c46a1fa827be78eb72c5b97da13b89d768c7162d68213bf", func := "loop.example/fewpoints/laws.FnIsolatedBy", spec := "fnIsolatedBy", apart := false }
def FnIsolatedBySaid : Prop := fnIsolatedByRow.holds Try.pinned (OpenSpec.ofChange fnIsolatedBySpec)

/-- ITS FALSE NEIGHBOUR: 'it returns false'. Refute it at one input. -/
def fnIsolatedByWrong : ChangeSpec := { name := "fnIsolatedBy", fn := fun _ => fun
  | [d] => { results := [.lit (.bool false)], args := [d] }
  | _ => none }
def FnIsolatedByWrongFalsely : Prop := fnIsolatedByRow.holds Try.pinned (OpenSpec.ofChange fnIsolatedByWrong)

/- THE SECOND FORM. 'bulk': how many values and letters a reading holds, each counted each time it is reached (what is shared counts as often as it is met; a slice's spare places count too). A statement '..UptoSaid' is the law's where the arguments, and the package variables that the reading takes, are together of bulk at most 1048576: NARROWER than '..Said'. Prove '..Said' where nothing that the law and all that it calls make is longer than what came in: it says more and counts as full. Else prove '..UptoSaid'. A law counts once. -/
mutual
def uptoBulk {H : Type} : DataW H → Nat
  | .lit (.string bytes) => bytes.length + 1
  | .lit _ => 1
  | .nil => 1
  | .ptr d => uptoBulk d + 1
  | .slice elems spare => uptoBulkAll elems + uptoBulkAll spare + 1
  | .agg parts => uptoBulkAll parts + 1
  | .iface _ d => uptoBulk d + 1
  | .map entries => uptoBulkEntries entries + 1
  | .held _ => 1
def uptoBulkAll {H : Type} : List (DataW H) → Nat
  | [] => 0
  | d :: r => uptoBulk d + uptoBulkAll r
def uptoBulkEntries {H : Type} : List (Lit × DataW H) → Nat
  | [] => 0
  | x :: r => uptoBulkEntry x + uptoBulkEntries r
def uptoBulkEntry {H : Type} : Lit × DataW H → Nat
  | (.string bytes, d) => bytes.length + uptoBulk d + 1
  | (_, d) => uptoBulk d + 1
 end
def uptoSmall : (H : Type) → List (DataW H) → Bool := fun _ ds => decide (uptoBulkAll ds ≤ 1048576)
def OpenSpec.upto (s : _root_.Go.ChangeSpec) : _root_.Go.OpenSpec := { _root_.Go.OpenSpec.ofChange s with cond := some uptoSmall }

/-- 'laws.FnExactMediansOf', WHERE WHAT IT READS IS OF BULK AT MOST 1048576: true; the input reads as it did. -/
def fnExactMediansOfUptoRow : OpenClaim := { program := "ytpfbnaachibbfaa", sum := "28b4891e844771bd1c46a1fa827be78eb72c5b97da13b89d768c7162d68213bf", func := "loop.example/fewpoints/laws.FnExactMediansOf", spec := "fnExactMediansOf", apart := false, narrowed := true }
def FnExactMediansOfUptoSaid : Prop := fnExactMediansOfUptoRow.holds Try.pinned (OpenSpec.upto fnExactMediansOfSpec)

/-- 'laws.FnAllTogether', WHERE WHAT IT READS IS OF BULK AT MOST 1048576: true; the input reads as it did. -/
def fnAllTogetherUptoRow : OpenClaim := { program := "ytpfbnaachibbfaa", sum := "28b4891e844771bd1c46a1fa827be78eb72c5b97da13b89d768c7162d68213bf", func := "loop.example/fewpoints/laws.FnAllTogether", spec := "fnAllTogether", apart := false, narrowed := true }
def FnAllTogetherUptoSaid : Prop := fnAllTogetherUptoRow.holds Try.pinned (OpenSpec.upto fnAllTogetherSpec)

/-- 'laws.FnExactMiddlesOf', WHERE WHAT IT READS IS OF BULK AT MOST 1048576: true; the input reads as it did. -/
def fnExactMiddlesOfUptoRow : OpenClaim := { program := "ytpfbnaachibbfaa", sum := "28b4891e844771bd1c46a1fa827be78eb72c5b97da13b89d768c7162d68213bf", func := "loop.example/fewpoints/laws.FnExactMiddlesOf", spec := "fnExactMiddlesOf", unfollowed := true, recurses := true, apart := false, narrowed := true }
def FnExactMiddlesOfUptoSaid : Prop := fnExactMiddlesOfUptoRow.holds Try.pinned (OpenSpec.upto fnExactMiddlesOfSpec)

/-- 'laws.FnFitTogether', WHERE WHAT IT READS IS OF BULK AT MOST 1048576: true; the input reads as it did. -/
def fnFitTogetherUptoRow : OpenClaim := { program := "ytpfbnaachibbfaa", sum := "28b4891e844771bd1c46a1fa827be78eb72c5b97da13b89d768c7162d68213bf", func := "loop.example/fewpoints/laws.FnFitTogether", spec := "fnFitTogether", apart := false, narrowed := true }
def FnFitTogetherUptoSaid : Prop := fnFitTogetherUptoRow.holds Try.pinned (OpenSpec.upto fnFitTogetherSpec)

/-- 'laws.FnAroundSet', WHERE WHAT IT READS IS OF BULK AT MOST 1048576: true; the input reads as it did. -/
def fnAroundSetUptoRow : OpenClaim := { program := "ytpfbnaachibbfaa", sum := "28b4891e844771bd1c46a1fa827be78eb72c5b97da13b89d768c7162d68213bf", func := "loop.example/fewpoints/laws.FnAroundSet", spec := "fnAroundSet", apart := false, narrowed := true }
def FnAroundSetUptoSaid : Prop := fnAroundSetUptoRow.holds Try.pinned (OpenSpec.upto fnAroundSetSpec)

/-- 'laws.FnWeightsOk', WHERE WHAT IT READS IS OF BULK AT MOST 1048576: true; the input reads as it did. -/
def fnWeightsOkUptoRow : OpenClaim := { program := "ytpfbnaachibbfaa", sum := "28b4891e844771bd1c46a1fa827be78eb72c5b97da13b89d768c7162d68213bf", func := "loop.example/fewpoints/laws.FnWeightsOk", spec := "fnWeightsOk", apart := false, narrowed := true }
def FnWeightsOkUptoSaid : Prop := fnWeightsOkUptoRow.holds Try.pinned (OpenSpec.upto fnWeightsOkSpec)

/-- 'laws.FnExactNetOf', WHERE WHAT IT READS IS OF BULK AT MOST 1048576: true; the input reads as it did. -/
def fnExactNetOfUptoRow : OpenClaim := { program := "ytpfbnaachibbfaa", sum := "28b4891e844771bd1c46a1fa827be78eb72c5b97da13b89d768c7162d68213bf", func := "loop.example/fewpoints/laws.FnExactNetOf", spec := "fnExactNetOf", apart := false, narrowed := true }
def FnExactNetOfUptoSaid : Prop := fnExactNetOfUptoRow.holds Try.pinned (OpenSpec.upto fnExactNetOfSpec)

/-- 'laws.FnExactSplitsOf', WHERE WHAT IT READS IS OF BULK AT MOST 1048576: true; the input reads as it did. -/
def fnExactSplitsOfUptoRow : OpenClaim := { program := "ytpfbnaachibbfaa", sum := "28b4891e844771bd1c46a1fa827be78eb72c5b97da13b89d768c7162d68213bf", func := "loop.example/fewpoints/laws.FnExactSplitsOf", spec := "fnExactSplitsOf", apart := false, narrowed := true }
def FnExactSplitsOfUptoSaid : Prop := fnExactSplitsOfUptoRow.holds Try.pinned (OpenSpec.upto fnExactSplitsOfSpec)

/-- 'laws.FnUnlikeBy', WHERE WHAT IT READS IS OF BULK AT MOST 1048576: true; the input reads as it did. -/
def fnUnlikeByUptoRow : OpenClaim := { program := "ytpfbnaachibbfaa", sum := "28b4891e844771bd1c46a1fa827be78eb72c5b97da13b89d768c7162d68213bf", func := "loop.example/fewpoints/laws.FnUnlikeBy", spec := "fnUnlikeBy", apart := false, narrowed := true }
def FnUnlikeByUptoSaid : Prop := fnUnlikeByUptoRow.holds Try.pinned (OpenSpec.upto fnUnlikeBySpec)

/-- 'laws.FnExactAllDivided', WHERE WHAT IT READS IS OF BULK AT MOST 1048576: true; the input reads as it did. -/
def fnExactAllDividedUptoRow : OpenClaim := { program := "ytpfbnaachibbfaa", sum := "28b4891e844771bd1c46a1fa827be78eb72c5b97da13b89d768c7162d68213bf", func := "loop.example/fewpoints/laws.FnExactAllDivided", spec := "fnExactAllDivided", apart := false, narrowed := true }
def FnExactAllDividedUptoSaid : Prop := fnExactAllDividedUptoRow.holds Try.pinned (OpenSpec.upto fnExactAllDividedSpec)

/-- 'laws.FnExactDividedAt', WHERE WHAT IT READS IS OF BULK AT MOST 1048576: true; the input reads as it did. -/
def fnExactDividedAtUptoRow : OpenClaim := { program := "ytpfbnaachibbfaa", sum := "28b4891e844771bd1c46a1fa827be78eb72c5b97da13b89d768c7162d68213bf", func := "loop.example/fewpoints/laws.FnExactDividedAt", spec := "fnExactDividedAt", unfollowed := true, recurses := true, apart := false, narrowed := true }
def FnExactDividedAtUptoSaid : Prop := fnExactDividedAtUptoRow.holds Try.pinned (OpenSpec.upto fnExactDividedAtSpec)

/-- 'laws.FnExactRestAt', WHERE WHAT IT READS IS OF BULK AT MOST 1048576: true; the input reads as it did. -/
def fnExactRestAtUptoRow : OpenClaim := { program := "ytpfbnaachibbfaa", sum := "28b4891e844771bd1c46a1fa827be78eb72c5b97da13b89d768c7162d68213bf", func := "loop.example/fewpoints/laws.FnExactRestAt", spec := "fnExactRestAt", unfollowed := true, recurses := true, apart := false, narrowed := true }
def FnExactRestAtUptoSaid : Prop := fnExactRestAtUptoRow.holds Try.pinned (OpenSpec.upto fnExactRestAtSpec)

/-- 'laws.FnSumFrom', WHERE WHAT IT READS IS OF BULK AT MOST 1048576: true; the input reads as it did. -/
def fnSumFromUptoRow : OpenClaim := { program := "ytpfbnaachibbfaa", sum := "28b4891e844771bd1c46a1fa827be78eb72c5b97da13b89d768c7162d68213bf", func := "loop.example/fewpoints/laws.FnSumFrom", spec := "fnSumFrom", apart := false, narrowed := true }
def FnSumFromUptoSaid : Prop := fnSumFromUptoRow.holds Try.pinned (OpenSpec.upto fnSumFromSpec)

/-- 'laws.FnIsolatedBy', WHERE WHAT IT READS IS OF BULK AT MOST 1048576: true; the input reads as it did. -/
def fnIsolatedByUptoRow : OpenClaim := { program := "ytpfbnaachibbfaa", sum := "28b4891e844771bd1c46a1fa827be78eb72c5b97da13b89d768c7162d68213bf", func := "loop.example/fewpoints/laws.FnIsolatedBy", spec := "fnIsolatedBy", apart := false, narrowed := true }
def FnIsolatedByUptoSaid : Prop := fnIsolatedByUptoRow.holds Try.pinned (OpenSpec.upto fnIsolatedBySpec)

end Rows
end Go.Proofs.Ytpfbnaachibbfaa
