/-
  No cell of these rows narrows 'for every input' (looked for: loops, veiled, ifaces, maps, wideKeys, modest, calm, conditions, laid).
  DERIVED. THE GIVEN ROWS OF THIS SEAT. 5 by the template 'for every input the law returns true; each argument reads behind the call as it read before'; 0 by the template 'total and deterministic' (their statements: YtimelegkgaimjaaTotals.lean).
  GIVEN WITH THE SEED: the statements are not yours to turn. If you find one false, say at which input.
  Laid BY PROGRAM, IN A SANDBOX (cutbox-rows.mjs): the forced cells as the released guide's own fill.sh prints them over the translation 82bcdec02cccfedb… (all of the seat's roots in one cut). By AI agents, Wed Nov 11 2026. No macro, syntax, notation, axiom, sorry.
-/
import Derived.Test.YtimelegkgaimjaaChecked
import GoSem.Claim
import GoSem.ClaimJoined
import GoSem.ClaimMapViews
import Derived.JoinedTies
import Derived.KernelRfl
namespace Go.Proofs.Ytimelegkgaimjaa
/- THE CELL 'sum', in the pinned program and in every row, IS THE sha256 OF THE DUMP (.gsa) THAT YtimelegkgaimjaaProg.lean LOADS. Nothing in Lean hashes anything: it is a label: what it is worth is what the hold of that sum in a sandbox is worth. -/
noncomputable def Try.pinned : Pinned := { name := "ytimelegkgaimjaa", sum := "82bcdec02cccfedb93d6282498fed4e8328ddc03110c3fbbf7d5cd53f170163c", checked := Try.checked }
namespace Rows
def none {H : Type} : Left H := { results := [], args := [] }

/-- 'laws.FnUnlikeBy': WHATEVER THE INPUT: true; the input reads as it did. -/
def fnUnlikeBySpec : ChangeSpec := { name := "fnUnlikeBy", fn := fun _ => fun
  | [d] => { results := [.lit (.bool true)], args := [d] }
  | _ => none }
def fnUnlikeByRow : OpenClaim := { program := "ytimelegkgaimjaa", sum := "82bcdec02cccfedb93d6282498fed4e8328ddc03110c3fbbf7d5cd53f170163c", func := "loop.example/fewpoints/laws.FnUnlikeBy", spec := "fnUnlikeBy", apart := false }
def FnUnlikeBySaid : Prop := fnUnlikeByRow.holds Try.pinned (OpenSpec.ofChange fnUnlikeBySpec)

/-- ITS FALSE NEIGHBOUR: 'it returns false'. Refute it at one input. -/
def fnUnlikeByWrong : ChangeSpec := { name := "fnUnlikeBy", fn := fun _ => fun
  | [d] => { results := [.lit (.bool false)], args := [d] }
  | _ => none }
def FnUnlikeByWrongFalsely : Prop := fnUnlikeByRow.holds Try.pinned (OpenSpec.ofChange fnUnlikeByWrong)

/-- 'laws.FnUnlikeSpaces': WHATEVER THE INPUT: true; the input reads as it did. -/
def fnUnlikeSpacesSpec : ChangeSpec := { name := "fnUnlikeSpaces", fn := fun _ => fun
  | [d] => { results := [.lit (.bool true)], args := [d] }
  | _ => none }
def fnUnlikeSpacesRow : OpenClaim := { program := "ytimelegkgaimjaa", sum := "82bcdec02cccfedb93d6282498fed4e8328ddc03110c3fbbf7d5cd53f170163c", func := "loop.example/fewpoints/laws.FnUnlikeSpaces", spec := "fnUnlikeSpaces", unfollowed := true, recurses := true, apart := false }
def FnUnlikeSpacesSaid : Prop := fnUnlikeSpacesRow.holds Try.pinned (OpenSpec.ofChange fnUnlikeSpacesSpec)

/-- ITS FALSE NEIGHBOUR: 'it returns false'. Refute it at one input. -/
def fnUnlikeSpacesWrong : ChangeSpec := { name := "fnUnlikeSpaces", fn := fun _ => fun
  | [d] => { results := [.lit (.bool false)], args := [d] }
  | _ => none }
def FnUnlikeSpacesWrongFalsely : Prop := fnUnlikeSpacesRow.holds Try.pinned (OpenSpec.ofChange fnUnlikeSpacesWrong)

/-- 'laws.FnSplitsOf': WHATEVER THE INPUT: true; the input reads as it did. -/
def fnSplitsOfSpec : ChangeSpec := { name := "fnSplitsOf", fn := fun _ => fun
  | [d] => { results := [.lit (.bool true)], args := [d] }
  | _ => none }
def fnSplitsOfRow : OpenClaim := { program := "ytimelegkgaimjaa", sum := "82bcdec02cccfedb93d6282498fed4e8328ddc03110c3fbbf7d5cd53f170163c", func := "loop.example/fewpoints/laws.FnSplitsOf", spec := "fnSplitsOf", recurses := true, apart := false }
def FnSplitsOfSaid : Prop := fnSplitsOfRow.holds Try.pinned (OpenSpec.ofChange fnSplitsOfSpec)

/-- ITS FALSE NEIGHBOUR: 'it returns false'. Refute it at one input. -/
def fnSplitsOfWrong : ChangeSpec := { name := "fnSplitsOf", fn := fun _ => fun
  | [d] => { results := [.lit (.bool false)], args := [d] }
  | _ => none }
def FnSplitsOfWrongFalsely : Prop := fnSplitsOfRow.holds Try.pinned (OpenSpec.ofChange fnSplitsOfWrong)

/-- 'laws.FnAllDivided': WHATEVER THE INPUT: true; the input reads as it did. -/
def fnAllDividedSpec : ChangeSpec := { name := "fnAllDivided", fn := fun _ => fun
  | [d] => { results := [.lit (.bool true)], args := [d] }
  | _ => none }
def fnAllDividedRow : OpenClaim := { program := "ytimelegkgaimjaa", sum := "82bcdec02cccfedb93d6282498fed4e8328ddc03110c3fbbf7d5cd53f170163c", func := "loop.example/fewpoints/laws.FnAllDivided", spec := "fnAllDivided", recurses := true, apart := false }
def FnAllDividedSaid : Prop := fnAllDividedRow.holds Try.pinned (OpenSpec.ofChange fnAllDividedSpec)

/-- ITS FALSE NEIGHBOUR: 'it returns false'. Refute it at one input. -/
def fnAllDividedWrong : ChangeSpec := { name := "fnAllDivided", fn := fun _ => fun
  | [d] => { results := [.lit (.bool false)], args := [d] }
  | _ => none }
def FnAllDividedWrongFalsely : Prop := fnAllDividedRow.holds Try.pinned (OpenSpec.ofChange fnAllDividedWrong)

/-- 'laws.FnDividedAt': WHATEVER THE INPUT: true; the input reads as it did. -/
def fnDividedAtSpec : ChangeSpec := { name := "fnDividedAt", fn := fun _ => fun
  | [d] => { results := [.lit (.bool true)], args := [d] }
  | _ => none }
def fnDividedAtRow : OpenClaim := { program := "ytimelegkgaimjaa", sum := "82bcdec02cccfedb93d6282498fed4e8328ddc03110c3fbbf7d5cd53f170163c", func := "loop.example/fewpoints/laws.FnDividedAt", spec := "fnDividedAt", unfollowed := true, recurses := true, apart := false }
def FnDividedAtSaid : Prop := fnDividedAtRow.holds Try.pinned (OpenSpec.ofChange fnDividedAtSpec)

/-- ITS FALSE NEIGHBOUR: 'it returns false'. Refute it at one input. -/
def fnDividedAtWrong : ChangeSpec := { name := "fnDividedAt", fn := fun _ => fun
  | [d] => { results := [.lit (.bool false)], args := [d] }
  | _ => none }
def FnDividedAtWrongFalsely : Prop := fnDividedAtRow.holds Try.pinned (OpenSpec.ofChange fnDividedAtWrong)

/- THE SECOND FORM. 'bulk': how many values and letters a reading holds, each counted each time it is reached (what is shared counts as often as it is met; a slice's spare places count too). A statement '..UptoSaid' is the law's where the arguments, and the package variables that the reading takes, are together of bulk at most 1048576: NARROWER than '..Said'. Prove '..Said' where nothing that the law and all that it calls make is longer than what came in: it says more and counts as full. Else prove '..UptoSaid'. A law counts once. -/
mutual
def uptoBulk {H : Type} : DataW H → Nat
  | .lit (.string bytes) => bytes.length + 1
  | .lit _ => 1
  | .nil => 1
  | .ptr d => uptoBulk d + 1
  | .slice elems spare => uptoBulkAll elems + uptoBulkAll spare + 1
  | .agg parts => uptoBulkAll parts + 1
  | .iface _ d => uptoBulk d + 1
  | .map entries => uptoBulkEntries entries + 1
  | .held _ => 1
def uptoBulkAll {H : Type} : List (DataW H) → Nat
  | [] => 0
  | d :: r => uptoBulk d + uptoBulkAll r
def uptoBulkEntries {H : Type} : List (Lit × DataW H) → Nat
  | [] => 0
  | x :: r => uptoBulkEntry x + uptoBulkEntries r
def uptoBulkEntry {H : Type} : Lit × DataW H → Nat
  | (.string bytes, d) => bytes.length + uptoBulk d + 1
  | (_, d) => uptoBulk d + 1
 end
def uptoSmall : (H : Type) → List (DataW H) → Bool := fun _ ds => decide (uptoBulkAll ds ≤ 1048576)
def OpenSpec.upto (s : _root_.Go.ChangeSpec) : _root_.Go.OpenSpec := { _root_.Go.OpenSpec.ofChange s with cond := some uptoSmall }

/-- 'laws.FnUnlikeBy', WHERE WHAT IT READS IS OF BULK AT MOST 1048576: true; the input reads as it did. -/
def fnUnlikeByUptoRow : OpenClaim := { program := "ytimelegkgaimjaa", sum := "82bcdec02cccfedb93d6282498fed4e8328ddc03110c3fbbf7d5cd53f170163c", func := "loop.example/fewpoints/laws.FnUnlikeBy", spec := "fnUnlikeBy", apart := false, narrowed := true }
def FnUnlikeByUptoSaid : Prop := fnUnlikeByUptoRow.holds Try.pinned (OpenSpec.upto fnUnlikeBySpec)

/-- 'laws.FnUnlikeSpaces', WHERE WHAT IT READS IS OF BULK AT MOST 1048576: true; the input reads as it did. -/
def fnUnlikeSpacesUptoRow : OpenClaim := { program := "ytimelegkgaimjaa", sum := "82bcdec02cccfedb93d6282498fed4e8328ddc03110c3fbbf7d5cd53f170163c", func := "loop.example/fewpoints/laws.FnUnlikeSpaces", spec := "fnUnlikeSpaces", unfollowed := true, recurses := true, apart := false, narrowed := true }
def FnUnlikeSpacesUptoSaid : Prop := fnUnlikeSpacesUptoRow.holds Try.pinned (OpenSpec.upto fnUnlikeSpacesSpec)

/-- 'laws.FnSplitsOf', WHERE WHAT IT READS IS OF BULK AT MOST 1048576: true; the input reads as it did. -/
def fnSplitsOfUptoRow : OpenClaim := { program := "ytimelegkgaimjaa", sum := "82bcdec02cccfedb93d6282498fed4e8328ddc03110c3fbbf7d5cd53f170163c", func := "loop.example/fewpoints/laws.FnSplitsOf", spec := "fnSplitsOf", recurses := true, apart := false, narrowed := true }
def FnSplitsOfUptoSaid : Prop := fnSplitsOfUptoRow.holds Try.pinned (OpenSpec.upto fnSplitsOfSpec)

/-- 'laws.FnAllDivided', WHERE WHAT IT READS IS OF BULK AT MOST 1048576: true; the input reads as it did. -/
def fnAllDividedUptoRow : OpenClaim := { program := "ytimelegkgaimjaa", sum := "82bcdec02cccfedb93d6282498fed4e8328ddc03110c3fbbf7d5cd53f170163c", func := "loop.example/fewpoints/laws.FnAllDivided", spec := "fnAllDivided", recurses := true, apart := false, narrowed := true }
def FnAllDividedUptoSaid : Prop := fnAllDividedUptoRow.holds Try.pinned (OpenSpec.upto fnAllDividedSpec)

/-- 'laws.FnDividedAt', WHERE WHAT IT READS IS OF BULK AT MOST 1048576: true; the input reads as it did. -/
def fnDividedAtUptoRow : OpenClaim := { program := "ytimelegkgaimjaa", sum := "82bcdec02cccfedb93d6282498fed4e8328ddc03110c3fbbf7d5cd53f170163c", func := "loop.example/fewpoints/laws.FnDividedAt", spec := "fnDividedAt", unfollowed := true, recurses := true, apart := false, narrowed := true }
def FnDividedAtUptoSaid : Prop := fnDividedAtUptoRow.holds Try.pinned (OpenSpec.upto fnDividedAtSpec)

end Rows
end Go.Proofs.Ytimelegkgaimjaa
