/-
  No cell of these rows narrows 'for every input' (looked for: loops, veiled, ifaces, maps, wideKeys, modest, calm, conditions, laid).
  DERIVED. THE GIVEN ROWS OF THIS SEAT. 1 by the template 'for every input the law returns true; each argument reads behind the call as it read before'; 0 by the template 'total and deterministic' (their statements: YtpkiodpocggfbaaTotals.lean).
  GIVEN WITH THE SEED: the statements are not yours to turn. If you find one false, say at which input.
  Laid BY PROGRAM, IN A SANDBOX (cutbox-rows.mjs): the forced cells as the released guide's own fill.sh prints them over the translation 23a4e918e6d43f2a… (all of the seat's roots in one cut). By AI agents, Wed Nov 11 2026. No macro, syntax, notation, axiom, sorry.
-/
import Derived.Test.YtpkiodpocggfbaaChecked
import GoSem.Claim
import GoSem.ClaimJoined
import GoSem.ClaimMapViews
import Derived.JoinedTies
import Derived.KernelRfl
namespace Go.Proofs.Ytpkiodpocggfbaa
/- THE CELL 'sum', in the pinned program and in every row, IS THE sha256 OF THE DUMP (.gsa) THAT YtpkiodpocggfbaaProg.lean LOADS. Nothing in Lean hashes anything: it is a label: what it is worth is what the hold of that sum in a sandbox is worth. -/
noncomputable def Try.pinned : Pinned := { name := "ytpkiodpocggfbaa", sum := "23a4e918e6d43f2a46715a9385bea3ef467ac4e353c860886fdc882cf951f38d", checked := Try.checked }
namespace Rows
def none {H : Type} : Left H := { results := [], args := [] }

/-- 'laws.FnUnlikeSpaces': WHATEVER THE INPUT: true; the input reads as it did. -/
def fnUnlikeSpacesSpec : ChangeSpec := { name := "fnUnlikeSpaces", fn := fun _ => fun
  | [d] => { results := [.lit (.bool true)], args := [d] }
  | _ => none }
def fnUnlikeSpacesRow : OpenClaim := { program := "ytpkiodpocggfbaa", sum := "23a4e918e6d43f2a46715a9385bea3ef467ac4e353c860886fdc882cf951f38d", func := "loop.example/fewpoints/laws.FnUnlikeSpaces", spec := "fnUnlikeSpaces", unfollowed := true, recurses := true, apart := false }
def FnUnlikeSpacesSaid : Prop := fnUnlikeSpacesRow.holds Try.pinned (OpenSpec.ofChange fnUnlikeSpacesSpec)

/-- ITS FALSE NEIGHBOUR: 'it returns false'. Refute it at one input. -/
def fnUnlikeSpacesWrong : ChangeSpec := { name := "fnUnlikeSpaces", fn := fun _ => fun
  | [d] => { results := [.lit (.bool false)], args := [d] }
  | _ => none }
def FnUnlikeSpacesWrongFalsely : Prop := fnUnlikeSpacesRow.holds Try.pinned (OpenSpec.ofChange fnUnlikeSpacesWrong)

/- THE SECOND FORM. 'bulk': how many values and letters a reading holds, each counted each time it is reached (what is shared counts as often as it is met; a slice's spare places count too). A statement '..UptoSaid' is the law's where the arguments, and the package variables that the reading takes, are together of bulk at most 1048576: NARROWER than '..Said'. Prove '..Said' where nothing that the law and all that it calls make is longer than what came in: it says more and counts as full. Else prove '..UptoSaid'. A law counts once. -/
mutual
def uptoBulk {H : Type} : DataW H → Nat
  | .lit (.string bytes) => bytes.length + 1
  | .lit _ => 1
  | .nil => 1
  | .ptr d => uptoBulk d + 1
  | .slice elems spare => uptoBulkAll elems + uptoBulkAll spare + 1
  | .agg parts => uptoBulkAll parts + 1
  | .iface _ d => uptoBulk d + 1
  | .map entries => uptoBulkEntries entries + 1
  | .held _ => 1
def uptoBulkAll {H : Type} : List (DataW H) → Nat
  | [] => 0
  | d :: r => uptoBulk d + uptoBulkAll r
def uptoBulkEntries {H : Type} : List (Lit × DataW H) → Nat
  | [] => 0
  | x :: r => uptoBulkEntry x + uptoBulkEntries r
def uptoBulkEntry {H : Type} : Lit × DataW H → Nat
  | (.string bytes, d) => bytes.length + uptoBulk d + 1
  | (_, d) => uptoBulk d + 1
 end
def uptoSmall : (H : Type) → List (DataW H) → Bool := fun _ ds => decide (uptoBulkAll ds ≤ 1048576)
def OpenSpec.upto (s : _root_.Go.ChangeSpec) : _root_.Go.OpenSpec := { _root_.Go.OpenSpec.ofChange s with cond := some uptoSmall }

/-- 'laws.FnUnlikeSpaces', WHERE WHAT IT READS IS OF BULK AT MOST 1048576: true; the input reads as it did. -/
def fnUnlikeSpacesUptoRow : OpenClaim := { program := "ytpkiodpocggfbaa", sum := "23a4e918e6d43f2a46715a9385bea3ef467ac4e353c860886fdc882cf951f38d", func := "loop.example/fewpoints/laws.FnUnlikeSpaces", spec := "fnUnlikeSpaces", unfollowed := true, recurses := true, apart := false, narrowed := true }
def FnUnlikeSpacesUptoSaid : Prop := fnUnlikeSpacesUptoRow.holds Try.pinned (OpenSpec.upto fnUnlikeSpacesSpec)

end Rows
end Go.Proofs.Ytpkiodpocggfbaa
