/-
  No cell of these rows narrows 'for every input' (looked for: loops, veiled, ifaces, maps, wideKeys, modest, calm, conditions, laid).
  DERIVED. THE GIVEN ROWS OF THIS SEAT. 14 by the template 'for every input the law returns true; each argument reads behind the call as it read before'; 0 by the template 'total and deterministic' (their statements: YtpfbnaachibbfabTotals.lean).
  GIVEN WITH THE SEED: the statements are not yours to turn. If you find one false, say at which input.
  Laid BY PROGRAM, IN A SANDBOX (cutbox-rows.mjs): the forced cells as the released guide's own fill.sh prints them over the translation a486e76bdb004f42… (all of the seat's roots in one cut). By AI agents, Wed Nov 11 2026. No macro, syntax, notation, axiom, sorry.
-/
import Derived.Test.YtpfbnaachibbfabChecked
import GoSem.Claim
import GoSem.ClaimJoined
import GoSem.ClaimMapViews
import Derived.JoinedTies
import Derived.KernelRfl
namespace Go.Proofs.Ytpfbnaachibbfab
/- THE CELL 'sum', in the pinned program and in every row, IS THE sha256 OF THE DUMP (.gsa) THAT YtpfbnaachibbfabProg.lean LOADS. Nothing in Lean hashes anything: it is a label: what it is worth is what the hold of that sum in a sandbox is worth. -/
noncomputable def Try.pinned : Pinned := { name := "ytpfbnaachibbfab", sum := "a486e76bdb004f42700c9e256f81a89c4792fdcd626e014774666efffaf1102f", checked := Try.checked }
namespace Rows
def none {H : Type} : Left H := { results := [], args := [] }

/-- 'laws.FnMiddlesOf': WHATEVER THE INPUT: true; the input reads as it did. -/
def fnMiddlesOfSpec : ChangeSpec := { name := "fnMiddlesOf", fn := fun _ => fun
  | [d] => { results := [.lit (.bool true)], args := [d] }
  | _ => none }
def fnMiddlesOfRow : OpenClaim := { program := "ytpfbnaachibbfab", sum := "a486e76bdb004f42700c9e256f81a89c4792fdcd626e014774666efffaf1102f", func := "loop.example/fewpoints/laws.FnMiddlesOf", spec := "fnMiddlesOf", unfollowed := true, recurses := true, apart := false }
def FnMiddlesOfSaid : Prop := fnMiddlesOfRow.holds Try.pinned (OpenSpec.ofChange fnMiddlesOfSpec)

/-- ITS FALSE NEIGHBOUR: 'it returns false'. Refute it at one input. -/
def fnMiddlesOfWrong : ChangeSpec := { name := "fnMiddlesOf", fn := fun _ => fun
  | [d] => { results := [.lit (.bool false)], args := [d] }
  | _ => none }
def FnMiddlesOfWrongFalsely : Prop := fnMiddlesOfRow.holds Try.pinned (OpenSpec.ofChange fnMiddlesOfWrong)

/-- 'laws.FnNetOf': WHATEVER THE INPUT: true; the input reads as it did. -/
def fnNetOfSpec : ChangeSpec := { name := "fnNetOf", fn := fun _ => fun
  | [d] => { results := [.lit (.bool true)], args := [d] }
  | _ => none }
def fnNetOfRow : OpenClaim := { program := "ytpfbnaachibbfab", sum := "a486e76bdb004f42700c9e256f81a89c4792fdcd626e014774666efffaf1102f", func := "loop.example/fewpoints/laws.FnNetOf", spec := "fnNetOf", apart := false }
def FnNetOfSaid : Prop := fnNetOfRow.holds Try.pinned (OpenSpec.ofChange fnNetOfSpec)

/-- ITS FALSE NEIGHBOUR: 'it returns false'. Refute it at one input. -/
def fnNetOfWrong : ChangeSpec := { name := "fnNetOf", fn := fun _ => fun
  | [d] => { results := [.lit (.bool false)], args := [d] }
  | _ => none }
def FnNetOfWrongFalsely : Prop := fnNetOfRow.holds Try.pinned (OpenSpec.ofChange fnNetOfWrong)

/-- 'laws.FnMedianSpace': WHATEVER THE INPUT: true; the input reads as it did. -/
def fnMedianSpaceSpec : ChangeSpec := { name := "fnMedianSpace", fn := fun _ => fun
  | [d] => { results := [.lit (.bool true)], args := [d] }
  | _ => none }
def fnMedianSpaceRow : OpenClaim := { program := "ytpfbnaachibbfab", sum := "a486e76bdb004f42700c9e256f81a89c4792fdcd626e014774666efffaf1102f", func := "loop.example/fewpoints/laws.FnMedianSpace", spec := "fnMedianSpace", apart := false }
def FnMedianSpaceSaid : Prop := fnMedianSpaceRow.holds Try.pinned (OpenSpec.ofChange fnMedianSpaceSpec)

/-- ITS FALSE NEIGHBOUR: 'it returns false'. Refute it at one input. -/
def fnMedianSpaceWrong : ChangeSpec := { name := "fnMedianSpace", fn := fun _ => fun
  | [d] => { results := [.lit (.bool false)], args := [d] }
  | _ => none }
def FnMedianSpaceWrongFalsely : Prop := fnMedianSpaceRow.holds Try.pinned (OpenSpec.ofChange fnMedianSpaceWrong)

/-- 'laws.FnMediansOf': WHATEVER THE INPUT: true; the input reads as it did. -/
def fnMediansOfSpec : ChangeSpec := { name := "fnMediansOf", fn := fun _ => fun
  | [d] => { results := [.lit (.bool true)], args := [d] }
  | _ => none }
def fnMediansOfRow : OpenClaim := { program := "ytpfbnaachibbfab", sum := "a486e76bdb004f42700c9e256f81a89c4792fdcd626e014774666efffaf1102f", func := "loop.example/fewpoints/laws.FnMediansOf", spec := "fnMediansOf", apart := false }
def FnMediansOfSaid : Prop := fnMediansOfRow.holds Try.pinned (OpenSpec.ofChange fnMediansOfSpec)

/-- ITS FALSE NEIGHBOUR: 'it returns false'. Refute it at one input. -/
def fnMediansOfWrong : ChangeSpec := { name := "fnMediansOf", fn := fun _ => fun
  | [d] => { results := [.lit (.bool false)], args := [d] }
  | _ => none }
def FnMediansOfWrongFalsely : Prop := fnMediansOfRow.holds Try.pinned (OpenSpec.ofChange fnMediansOfWrong)

/-- 'laws.FnRestAt': WHATEVER THE INPUT: true; the input reads as it did. -/
def fnRestAtSpec : ChangeSpec := { name := "fnRestAt", fn := fun _ => fun
  | [d] => { results := [.lit (.bool true)], args := [d] }
  | _ => none }
def fnRestAtRow : OpenClaim := { program := "ytpfbnaachibbfab", sum := "a486e76bdb004f42700c9e256f81a89c4792fdcd626e014774666efffaf1102f", func := "loop.example/fewpoints/laws.FnRestAt", spec := "fnRestAt", unfollowed := true, recurses := true, apart := false }
def FnRestAtSaid : Prop := fnRestAtRow.holds Try.pinned (OpenSpec.ofChange fnRestAtSpec)

/-- ITS FALSE NEIGHBOUR: 'it returns false'. Refute it at one input. -/
def fnRestAtWrong : ChangeSpec := { name := "fnRestAt", fn := fun _ => fun
  | [d] => { results := [.lit (.bool false)], args := [d] }
  | _ => none }
def FnRestAtWrongFalsely : Prop := fnRestAtRow.holds Try.pinned (OpenSpec.ofChange fnRestAtWrong)

/-- 'laws.FnDeskOk': WHATEVER THE INPUT: true; the input reads as it did. -/
def fnDeskOkSpec : ChangeSpec := { name := "fnDeskOk", fn := fun _ => fun
  | [d] => { results := [.lit (.bool true)], args := [d] }
  | _ => none }
def fnDeskOkRow : OpenClaim := { program := "ytpfbnaachibbfab", sum := "a486e76bdb004f42700c9e256f81a89c4792fdcd626e014774666efffaf1102f", func := "loop.example/fewpoints/laws.FnDeskOk", spec := "fnDeskOk", unfollowed := true, recurses := true, apart := false }
def FnDeskOkSaid : Prop := fnDeskOkRow.holds Try.pinned (OpenSpec.ofChange fnDeskOkSpec)

/-- ITS FALSE NEIGHBOUR: 'it returns false'. Refute it at one input. -/
def fnDeskOkWrong : ChangeSpec := { name := "fnDeskOk", fn := fun _ => fun
  | [d] => { results := [.lit (.bool false)], args := [d] }
  | _ => none }
def FnDeskOkWrongFalsely : Prop := fnDeskOkRow.holds Try.pinned (OpenSpec.ofChange fnDeskOkWrong)

/-- 'laws.FnUnlikeSpaces': WHATEVER THE INPUT: true; the input reads as it did. -/
def fnUnlikeSpacesSpec : ChangeSpec := { name := "fnUnlikeSpaces", fn := fun _ => fun
  | [d] => { results := [.lit (.bool true)], args := [d] }
  | _ => none }
def fnUnlikeSpacesRow : OpenClaim := { program := "ytpfbnaachibbfab", sum := "a486e76bdb004f42700c9e256f81a89c4792fdcd626e014774666efffaf1102f", func := "loop.example/fewpoints/laws.FnUnlikeSpaces", spec := "fnUnlikeSpaces", unfollowed := true, recurses := true, apart := false }
def FnUnlikeSpacesSaid : Prop := fnUnlikeSpacesRow.holds Try.pinned (OpenSpec.ofChange fnUnlikeSpacesSpec)

/-- ITS FALSE NEIGHBOUR: 'it returns false'. Refute it at one input. -/
def fnUnlikeSpacesWrong : ChangeSpec := { name := "fnUnlikeSpaces", fn := fun _ => fun
  | [d] => { results := [.lit (.bool false)], args := [d] }
  | _ => none }
def FnUnlikeSpacesWrongFalsely : Prop := fnUnlikeSpacesRow.holds Try.pinned (OpenSpec.ofChange fnUnlikeSpacesWrong)

/-- 'laws.FnDeskDo': WHATEVER THE INPUT: true; the input reads as it did. -/
def fnDeskDoSpec : ChangeSpec := { name := "fnDeskDo", fn := fun _ => fun
  | [d] => { results := [.lit (.bool true)], args := [d] }
  | _ => none }
def fnDeskDoRow : OpenClaim := { program := "ytpfbnaachibbfab", sum := "a486e76bdb004f42700c9e256f81a89c4792fdcd626e014774666efffaf1102f", func := "loop.example/fewpoints/laws.FnDeskDo", spec := "fnDeskDo", unfollowed := true, recurses := true, apart := false }
def FnDeskDoSaid : Prop := fnDeskDoRow.holds Try.pinned (OpenSpec.ofChange fnDeskDoSpec)

/-- ITS FALSE NEIGHBOUR: 'it returns false'. Refute it at one input. -/
def fnDeskDoWrong : ChangeSpec := { name := "fnDeskDo", fn := fun _ => fun
  | [d] => { results := [.lit (.bool false)], args := [d] }
  | _ => none }
def FnDeskDoWrongFalsely : Prop := fnDeskDoRow.holds Try.pinned (OpenSpec.ofChange fnDeskDoWrong)

/-- 'laws.FnDeskRun': WHATEVER THE INPUT: true; the input reads as it did. -/
def fnDeskRunSpec : ChangeSpec := { name := "fnDeskRun", fn := fun _ => fun
  | [d] => { results := [.lit (.bool true)], args := [d] }
  | _ => none }
def fnDeskRunRow : OpenClaim := { program := "ytpfbnaachibbfab", sum := "a486e76bdb004f42700c9e256f81a89c4792fdcd626e014774666efffaf1102f", func := "loop.example/fewpoints/laws.FnDeskRun", spec := "fnDeskRun", unfollowed := true, recurses := true, apart := false }
def FnDeskRunSaid : Prop := fnDeskRunRow.holds Try.pinned (OpenSpec.ofChange fnDeskRunSpec)

/-- ITS FALSE NEIGHBOUR: 'it returns false'. Refute it at one input. -/
def fnDeskRunWrong : ChangeSpec := { name := "fnDeskRun", fn := fun _ => fun
  | [d] => { results := [.lit (.bool false)], args := [d] }
  | _ => none }
def FnDeskRunWrongFalsely : Prop := fnDeskRunRow.holds Try.pinned (OpenSpec.ofChange fnDeskRunWrong)

/-- 'laws.FnSplitsOf': WHATEVER THE INPUT: true; the input reads as it did. -/
def fnSplitsOfSpec : ChangeSpec := { name := "fnSplitsOf", fn := fun _ => fun
  | [d] => { results := [.lit (.bool true)], args := [d] }
  | _ => none }
def fnSplitsOfRow : OpenClaim := { program := "ytpfbnaachibbfab", sum := "a486e76bdb004f42700c9e256f81a89c4792fdcd626e014774666efffaf1102f", func := "loop.example/fewpoints/laws.FnSplitsOf", spec := "fnSplitsOf", recurses := true, apart := false }
def FnSplitsOfSaid : Prop := fnSplitsOfRow.holds Try.pinned (OpenSpec.ofChange fnSplitsOfSpec)

/-- ITS FALSE NEIGHBOUR: 'it returns false'. Refute it at one input. -/
def fnSplitsOfWrong : ChangeSpec := { name := "fnSplitsOf", fn := fun _ => fun
  | [d] => { results := [.lit (.bool false)], args := [d] }
  | _ => none }
def FnSplitsOfWrongFalsely : Prop := fnSplitsOfRow.holds Try.pinned (OpenSpec.ofChange fnSplitsOfWrong)

/-- 'laws.FnAllDivided': WHATEVER THE INPUT: true; the input reads as it did. -/
def fnAllDividedSpec : ChangeSpec := { name := "fnAllDivided", fn := fun _ => fun
  | [d] => { results := [.lit (.bool true)], args := [d] }
  | _ => none }
def fnAllDividedRow : OpenClaim := { program := "ytpfbnaachibbfab", sum := "a486e76bdb004f42700c9e256f81a89c4792fdcd626e014774666efffaf1102f", func := "loop.example/fewpoints/laws.FnAllDivided", spec := "fnAllDivided", recurses := true, apart := false }
def FnAllDividedSaid : Prop := fnAllDividedRow.holds Try.pinned (OpenSpec.ofChange fnAllDividedSpec)

/-- ITS FALSE NEIGHBOUR: 'it returns false'. Refute it at one input. -/
def fnAllDividedWrong : ChangeSpec := { name := "fnAllDivided", fn := fun _ => fun
  | [d] => { results := [.lit (.bool false)], args := [d] }
  | _ => none }
def FnAllDividedWrongFalsely : Prop := fnAllDividedRow.holds Try.pinned (OpenSpec.ofChange fnAllDividedWrong)

/-- 'laws.FnDividedAt': WHATEVER THE INPUT: true; the input reads as it did. -/
def fnDividedAtSpec : ChangeSpec := { name := "fnDividedAt", fn := fun _ => fun
  | [d] => { results := [.lit (.bool true)], args := [d] }
  | _ => none }
def fnDividedAtRow : OpenClaim := { program := "ytpfbnaachibbfab", sum := "a486e76bdb004f42700c9e256f81a89c4792fdcd626e014774666efffaf1102f", func := "loop.example/fewpoints/laws.FnDividedAt", spec := "fnDividedAt", unfollowed := true, recurses := true, apart := false }
def FnDividedAtSaid : Prop := fnDividedAtRow.holds Try.pinned (OpenSpec.ofChange fnDividedAtSpec)

/-- ITS FALSE NEIGHBOUR: 'it returns false'. Refute it at one input. -/
def fnDividedAtWrong : ChangeSpec := { name := "fnDividedAt", fn := fun _ => fun
  | [d] => { results := [.lit (.bool false)], args := [d] }
  | _ => none }
def FnDividedAtWrongFalsely : Prop := fnDividedAtRow.holds Try.pinned (OpenSpec.ofChange fnDividedAtWrong)

/-- 'laws.FnExactDeskDo': WHATEVER THE INPUT: true; the input reads as it did. -/
def fnExactDeskDoSpec : ChangeSpec := { name := "fnExactDeskDo", fn := fun _ => fun
  | [d1, d2] => { results := [.lit (.bool true)], args := [d1, d2] }
  | _ => none }
def fnExactDeskDoRow : OpenClaim := { program := "ytpfbnaachibbfab", sum := "a486e76bdb004f42700c9e256f81a89c4792fdcd626e014774666efffaf1102f", func := "loop.example/fewpoints/laws.FnExactDeskDo", spec := "fnExactDeskDo", unfollowed := true, recurses := true, apart := false }
def FnExactDeskDoSaid : Prop := fnExactDeskDoRow.holds Try.pinned (OpenSpec.ofChange fnExactDeskDoSpec)

/-- ITS FALSE NEIGHBOUR: 'it returns false'. Refute it at one input. -/
def fnExactDeskDoWrong : ChangeSpec := { name := "fnExactDeskDo", fn := fun _ => fun
  | [d1, d2] => { results := [.lit (.bool false)], args := [d1, d2] }
  | _ => none }
def FnExactDeskDoWrongFalsely : Prop := fnExactDeskDoRow.holds Try.pinned (OpenSpec.ofChange fnExactDeskDoWrong)

/-- 'laws.FnExactDeskRun': WHATEVER THE INPUT: true; the input reads as it did. -/
def fnExactDeskRunSpec : ChangeSpec := { name := "fnExactDeskRun", fn := fun _ => fun
  | [d1, d2] => { results := [.lit (.bool true)], args := [d1, d2] }
  | _ => none }
def fnExactDeskRunRow : OpenClaim := { program := "ytpfbnaachibbfab", sum := "a486e76bdb004f42700c9e256f81a89c4792fdcd626e014774666efffaf1102f", func := "loop.example/fewpoints/laws.FnExactDeskRun", spec := "fnExactDeskRun", unfollowed := true, recurses := true, apart := false }
def FnExactDeskRunSaid : Prop := fnExactDeskRunRow.holds Try.pinned (OpenSpec.ofChange fnExactDeskRunSpec)

/-- ITS FALSE NEIGHBOUR: 'it returns false'. Refute it at one input. -/
def fnExactDeskRunWrong : ChangeSpec := { name := "fnExactDeskRun", fn := fun _ => fun
  | [d1, d2] => { results := [.lit (.bool false)], args := [d1, d2] }
  | _ => none }
def FnExactDeskRunWrongFalsely : Prop := fnExactDeskRunRow.holds Try.pinned (OpenSpec.ofChange fnExactDeskRunWrong)

/- THE SECOND FORM. 'bulk': how many values and letters a reading holds, each counted each time it is reached (what is shared counts as often as it is met; a slice's spare places count too). A statement '..UptoSaid' is the law's where the arguments, and the package variables that the reading takes, are together of bulk at most 1048576: NARROWER than '..Said'. Prove '..Said' where nothing that the law and all that it calls make is longer than what came in: it says more and counts as full. Else prove '..UptoSaid'. A law counts once. -/
mutual
def uptoBulk {H : Type} : DataW H → Nat
  | .lit (.string bytes) => bytes.length + 1
  | .lit _ => 1
  | .nil => 1
  | .ptr d => uptoBulk d + 1
  | .slice elems spare => uptoBulkAll elems + uptoBulkAll spare + 1
  | .agg parts => uptoBulkAll parts + 1
  | .iface _ d => uptoBulk d + 1
  | .map entries => uptoBulkEntries entries + 1
  | .held _ => 1
def uptoBulkAll {H : Type} : List (DataW H) → Nat
  | [] => 0
  | d :: r => uptoBulk d + uptoBulkAll r
def uptoBulkEntries {H : Type} : List (Lit × DataW H) → Nat
  | [] => 0
  | x :: r => uptoBulkEntry x + uptoBulkEntries r
def uptoBulkEntry {H : Type} : Lit × DataW H → Nat
  | (.string bytes, d) => bytes.length + uptoBulk d + 1
  | (_, d) => uptoBulk d + 1
 end
def uptoSmall : (H : Type) → List (DataW H) → Bool := fun _ ds => decide (uptoBulkAll ds ≤ 1048576)
def OpenSpec.upto (s : _root_.Go.ChangeSpec) : _root_.Go.OpenSpec := { _root_.Go.OpenSpec.ofChange s with cond := some uptoSmall }

/-- 'laws.FnMiddlesOf', WHERE WHAT IT READS IS OF BULK AT MOST 1048576: true; the input reads as it did. -/
def fnMiddlesOfUptoRow : OpenClaim := { program := "ytpfbnaachibbfab", sum := "a486e76bdb004f42700c9e256f81a89c4792fdcd626e014774666efffaf1102f", func := "loop.example/fewpoints/laws.FnMiddlesOf", spec := "fnMiddlesOf", unfollowed := true, recurses := true, apart := false, narrowed := true }
def FnMiddlesOfUptoSaid : Prop := fnMiddlesOfUptoRow.holds Try.pinned (OpenSpec.upto fnMiddlesOfSpec)

/-- 'laws.FnNetOf', WHERE WHAT IT READS IS OF BULK AT MOST 1048576: true; the input reads as it did. -/
def fnNetOfUptoRow : OpenClaim := { program := "ytpfbnaachibbfab", sum := "a486e76bdb004f42700c9e256f81a89c4792fdcd626e014774666efffaf1102f", func := "loop.example/fewpoints/laws.FnNetOf", spec := "fnNetOf", apart := false, narrowed := true }
def FnNetOfUptoSaid : Prop := fnNetOfUptoRow.holds Try.pinned (OpenSpec.upto fnNetOfSpec)

/-- 'laws.FnMedianSpace', WHERE WHAT IT READS IS OF BULK AT MOST 1048576: true; the input reads as it did. -/
def fnMedianSpaceUptoRow : OpenClaim := { program := "ytpfbnaachibbfab", sum := "a486e76bdb004f42700c9e256f81a89c4792fdcd626e014774666efffaf1102f", func := "loop.example/fewpoints/laws.FnMedianSpace", spec := "fnMedianSpace", apart := false, narrowed := true }
def FnMedianSpaceUptoSaid : Prop := fnMedianSpaceUptoRow.holds Try.pinned (OpenSpec.upto fnMedianSpaceSpec)

/-- 'laws.FnMediansOf', WHERE WHAT IT READS IS OF BULK AT MOST 1048576: true; the input reads as it did. -/
def fnMediansOfUptoRow : OpenClaim := { program := "ytpfbnaachibbfab", sum := "a486e76bdb004f42700c9e256f81a89c4792fdcd626e014774666efffaf1102f", func := "loop.example/fewpoints/laws.FnMediansOf", spec := "fnMediansOf", apart := false, narrowed := true }
def FnMediansOfUptoSaid : Prop := fnMediansOfUptoRow.holds Try.pinned (OpenSpec.upto fnMediansOfSpec)

/-- 'laws.FnRestAt', WHERE WHAT IT READS IS OF BULK AT MOST 1048576: true; the input reads as it did. -/
def fnRestAtUptoRow : OpenClaim := { program := "ytpfbnaachibbfab", sum := "a486e76bdb004f42700c9e256f81a89c4792fdcd626e014774666efffaf1102f", func := "loop.example/fewpoints/laws.FnRestAt", spec := "fnRestAt", unfollowed := true, recurses := true, apart := false, narrowed := true }
def FnRestAtUptoSaid : Prop := fnRestAtUptoRow.holds Try.pinned (OpenSpec.upto fnRestAtSpec)

/-- 'laws.FnDeskOk', WHERE WHAT IT READS IS OF BULK AT MOST 1048576: true; the input reads as it did. -/
def fnDeskOkUptoRow : OpenClaim := { program := "ytpfbnaachibbfab", sum := "a486e76bdb004f42700c9e256f81a89c4792fdcd626e014774666efffaf1102f", func := "loop.example/fewpoints/laws.FnDeskOk", spec := "fnDeskOk", unfollowed := true, recurses := true, apart := false, narrowed := true }
def FnDeskOkUptoSaid : Prop := fnDeskOkUptoRow.holds Try.pinned (OpenSpec.upto fnDeskOkSpec)

/-- 'laws.FnUnlikeSpaces', WHERE WHAT IT READS IS OF BULK AT MOST 1048576: true; the input reads as it did. -/
def fnUnlikeSpacesUptoRow : OpenClaim := { program := "ytpfbnaachibbfab", sum := "a486e76bdb004f42700c9e256f81a89c4792fdcd626e014774666efffaf1102f", func := "loop.example/fewpoints/laws.FnUnlikeSpaces", spec := "fnUnlikeSpaces", unfollowed := true, recurses := true, apart := false, narrowed := true }
def FnUnlikeSpacesUptoSaid : Prop := fnUnlikeSpacesUptoRow.holds Try.pinned (OpenSpec.upto fnUnlikeSpacesSpec)

/-- 'laws.FnDeskDo', WHERE WHAT IT READS IS OF BULK AT MOST 1048576: true; the input reads as it did. -/
def fnDeskDoUptoRow : OpenClaim := { program := "ytpfbnaachibbfab", sum := "a486e76bdb004f42700c9e256f81a89c4792fdcd626e014774666efffaf1102f", func := "loop.example/fewpoints/laws.FnDeskDo", spec := "fnDeskDo", unfollowed := true, recurses := true, apart := false, narrowed := true }
def FnDeskDoUptoSaid : Prop := fnDeskDoUptoRow.holds Try.pinned (OpenSpec.upto fnDeskDoSpec)

/-- 'laws.FnDeskRun', WHERE WHAT IT READS IS OF BULK AT MOST 1048576: true; the input reads as it did. -/
def fnDeskRunUptoRow : OpenClaim := { program := "ytpfbnaachibbfab", sum := "a486e76bdb004f42700c9e256f81a89c4792fdcd626e014774666efffaf1102f", func := "loop.example/fewpoints/laws.FnDeskRun", spec := "fnDeskRun", unfollowed := true, recurses := true, apart := false, narrowed := true }
def FnDeskRunUptoSaid : Prop := fnDeskRunUptoRow.holds Try.pinned (OpenSpec.upto fnDeskRunSpec)

/-- 'laws.FnSplitsOf', WHERE WHAT IT READS IS OF BULK AT MOST 1048576: true; the input reads as it did. -/
def fnSplitsOfUptoRow : OpenClaim := { program := "ytpfbnaachibbfab", sum := "a486e76bdb004f42700c9e256f81a89c4792fdcd626e014774666efffaf1102f", func := "loop.example/fewpoints/laws.FnSplitsOf", spec := "fnSplitsOf", recurses := true, apart := false, narrowed := true }
def FnSplitsOfUptoSaid : Prop := fnSplitsOfUptoRow.holds Try.pinned (OpenSpec.upto fnSplitsOfSpec)

/-- 'laws.FnAllDivided', WHERE WHAT IT READS IS OF BULK AT MOST 1048576: true; the input reads as it did. -/
def fnAllDividedUptoRow : OpenClaim := { program := "ytpfbnaachibbfab", sum := "a486e76bdb004f42700c9e256f81a89c4792fdcd626e014774666efffaf1102f", func := "loop.example/fewpoints/laws.FnAllDivided", spec := "fnAllDivided", recurses := true, apart := false, narrowed := true }
def FnAllDividedUptoSaid : Prop := fnAllDividedUptoRow.holds Try.pinned (OpenSpec.upto fnAllDividedSpec)

/-- 'laws.FnDividedAt', WHERE WHAT IT READS IS OF BULK AT MOST 1048576: true; the input reads as it did. -/
def fnDividedAtUptoRow : OpenClaim := { program := "ytpfbnaachibbfab", sum := "a486e76bdb004f42700c9e256f81a89c4792fdcd626e014774666efffaf1102f", func := "loop.example/fewpoints/laws.FnDividedAt", spec := "fnDividedAt", unfollowed := true, recurses := true, apart := false, narrowed := true }
def FnDividedAtUptoSaid : Prop := fnDividedAtUptoRow.holds Try.pinned (OpenSpec.upto fnDividedAtSpec)

/-- 'laws.FnExactDeskDo', WHERE WHAT IT READS IS OF BULK AT MOST 1048576: true; the input reads as it did. -/
def fnExactDeskDoUptoRow : OpenClaim := { program := "ytpfbnaachibbfab", sum := "a486e76bdb004f42700c9e256f81a89c4792fdcd626e014774666efffaf1102f", func := "loop.example/fewpoints/laws.FnExactDeskDo", spec := "fnExactDeskDo", unfollowed := true, recurses := true, apart := false, narrowed := true }
def FnExactDeskDoUptoSaid : Prop := fnExactDeskDoUptoRow.holds Try.pinned (OpenSpec.upto fnExactDeskDoSpec)

/-- 'laws.FnExactDeskRun', WHERE WHAT IT READS IS OF BULK AT MOST 1048576: true; the input reads as it did. -/
def fnExactDeskRunUptoRow : OpenClaim := { program := "ytpfbnaachibbfab", sum := "a486e76bdb004f42700c9e256f81a89c4792fdcd626e014774666efffaf1102f", func := "loop.example/fewpoints/laws.FnExactDeskRun", spec := "fnExactDeskRun", unfollowed := true, recurses := true, apart := false, narrowed := true }
def FnExactDeskRunUptoSaid : Prop := fnExactDeskRunUptoRow.holds Try.pinned (OpenSpec.upto fnExactDeskRunSpec)

end Rows
end Go.Proofs.Ytpfbnaachibbfab
