/-
  No cell of these rows narrows 'for every input' (looked for: loops, veiled, ifaces, maps, wideKeys, modest, calm, conditions, laid).
  DERIVED. THE GIVEN ROWS OF THIS SEAT. 6 by the template 'for every input the law returns true; each argument reads behind the call as it read before'; 0 by the template 'total and deterministic' (their statements: YtjaigidlpfdfiaaTotals.lean).
  GIVEN WITH THE SEED: the statements are not yours to turn. If you find one false, say at which input.
  Laid BY PROGRAM, IN A SANDBOX (cutbox-rows.mjs): the forced cells as the released guide's own fill.sh prints them over the translation 4ff82b79dbb749f8… (all of the seat's roots in one cut). By AI agents, Wed Nov 11 2026. No macro, syntax, notation, axiom, sorry.
-/
import Derived.Test.YtjaigidlpfdfiaaChecked
import GoSem.Claim
import GoSem.ClaimJoined
import GoSem.ClaimMapViews
import Derived.JoinedTies
import Derived.KernelRfl
namespace Go.Proofs.Ytjaigidlpfdfiaa
/- THE CELL 'sum', in the pinned program and in every row, IS THE sha256 OF THE DUMP (.gsa) THAT YtjaigidlpfdfiaaProg.lean LOADS. Nothing in Lean hashes anything: it is a label: what it is worth is what the hold of that sum in a sandbox is worth. -/
noncomputable def Try.pinned : Pinned := { name := "ytjaigidlpfdfiaa", sum := "4ff82b79dbb749f8678c3b58e28b5b81088c80bd4079803fa7f5ca67b4980cb4", checked := Try.checked }
namespace Rows
def none {H : Type} : Left H := { results := [], args := [] }

/-- 'laws.FnFitTogether': WHATEVER THE INPUT: true; the input reads as it did. -/
def fnFitTogetherSpec : ChangeSpec := { name := "fnFitTogether", fn := fun _ => fun
  | [d] => { results := [.lit (.bool true)], args := [d] }
  | _ => none }
def fnFitTogetherRow : OpenClaim := { program := "ytjaigidlpfdfiaa", sum := "4ff82b79dbb749f8678c3b58e28b5b81088c80bd4079803fa7f5ca67b4980cb4", func := "loop.example/fewpoints/laws.FnFitTogether", spec := "fnFitTogether", apart := false }
def FnFitTogetherSaid : Prop := fnFitTogetherRow.holds Try.pinned (OpenSpec.ofChange fnFitTogetherSpec)

/-- ITS FALSE NEIGHBOUR: 'it returns false'. Refute it at one input. -/
def fnFitTogetherWrong : ChangeSpec := { name := "fnFitTogether", fn := fun _ => fun
  | [d] => { results := [.lit (.bool false)], args := [d] }
  | _ => none }
def FnFitTogetherWrongFalsely : Prop := fnFitTogetherRow.holds Try.pinned (OpenSpec.ofChange fnFitTogetherWrong)

/-- 'laws.FnAroundSet': WHATEVER THE INPUT: true; the input reads as it did. -/
def fnAroundSetSpec : ChangeSpec := { name := "fnAroundSet", fn := fun _ => fun
  | [d1, d2] => { results := [.lit (.bool true)], args := [d1, d2] }
  | _ => none }
def fnAroundSetRow : OpenClaim := { program := "ytjaigidlpfdfiaa", sum := "4ff82b79dbb749f8678c3b58e28b5b81088c80bd4079803fa7f5ca67b4980cb4", func := "loop.example/fewpoints/laws.FnAroundSet", spec := "fnAroundSet", apart := false }
def FnAroundSetSaid : Prop := fnAroundSetRow.holds Try.pinned (OpenSpec.ofChange fnAroundSetSpec)

/-- ITS FALSE NEIGHBOUR: 'it returns false'. Refute it at one input. -/
def fnAroundSetWrong : ChangeSpec := { name := "fnAroundSet", fn := fun _ => fun
  | [d1, d2] => { results := [.lit (.bool false)], args := [d1, d2] }
  | _ => none }
def FnAroundSetWrongFalsely : Prop := fnAroundSetRow.holds Try.pinned (OpenSpec.ofChange fnAroundSetWrong)

/-- 'laws.FnExactNetOf': WHATEVER THE INPUT: true; the input reads as it did. -/
def fnExactNetOfSpec : ChangeSpec := { name := "fnExactNetOf", fn := fun _ => fun
  | [d1, d2] => { results := [.lit (.bool true)], args := [d1, d2] }
  | _ => none }
def fnExactNetOfRow : OpenClaim := { program := "ytjaigidlpfdfiaa", sum := "4ff82b79dbb749f8678c3b58e28b5b81088c80bd4079803fa7f5ca67b4980cb4", func := "loop.example/fewpoints/laws.FnExactNetOf", spec := "fnExactNetOf", apart := false }
def FnExactNetOfSaid : Prop := fnExactNetOfRow.holds Try.pinned (OpenSpec.ofChange fnExactNetOfSpec)

/-- ITS FALSE NEIGHBOUR: 'it returns false'. Refute it at one input. -/
def fnExactNetOfWrong : ChangeSpec := { name := "fnExactNetOf", fn := fun _ => fun
  | [d1, d2] => { results := [.lit (.bool false)], args := [d1, d2] }
  | _ => none }
def FnExactNetOfWrongFalsely : Prop := fnExactNetOfRow.holds Try.pinned (OpenSpec.ofChange fnExactNetOfWrong)

/-- 'laws.FnIsolatedBy': WHATEVER THE INPUT: true; the input reads as it did. -/
def fnIsolatedBySpec : ChangeSpec := { name := "fnIsolatedBy", fn := fun _ => fun
  | [d] => { results := [.lit (.bool true)], args := [d] }
  | _ => none }
def fnIsolatedByRow : OpenClaim := { program := "ytjaigidlpfdfiaa", sum := "4ff82b79dbb749f8678c3b58e28b5b81088c80bd4079803fa7f5ca67b4980cb4", func := "loop.example/fewpoints/laws.FnIsolatedBy", spec := "fnIsolatedBy", apart := false }
def FnIsolatedBySaid : Prop := fnIsolatedByRow.holds Try.pinned (OpenSpec.ofChange fnIsolatedBySpec)

/-- ITS FALSE NEIGHBOUR: 'it returns false'. Refute it at one input. -/
def fnIsolatedByWrong : ChangeSpec := { name := "fnIsolatedBy", fn := fun _ => fun
  | [d] => { results := [.lit (.bool false)], args := [d] }
  | _ => none }
def FnIsolatedByWrongFalsely : Prop := fnIsolatedByRow.holds Try.pinned (OpenSpec.ofChange fnIsolatedByWrong)

/-- 'laws.FnNetOf': WHATEVER THE INPUT: true; the input reads as it did. -/
def fnNetOfSpec : ChangeSpec := { name := "fnNetOf", fn := fun _ => fun
  | [d] => { results := [.lit (.bool true)], args := [d] }
  | _ => none }
def fnNetOfRow : OpenClaim := { program := "ytjaigidlpfdfiaa", sum := "4ff82b79dbb749f8678c3b58e28b5b81088c80bd4079803fa7f5ca67b4980cb4", func := "loop.example/fewpoints/laws.FnNetOf", spec := "fnNetOf", apart := false }
def FnNetOfSaid : Prop := fnNetOfRow.holds Try.pinned (OpenSpec.ofChange fnNetOfSpec)

/-- ITS FALSE NEIGHBOUR: 'it returns false'. Refute it at one input. -/
def fnNetOfWrong : ChangeSpec := { name := "fnNetOf", fn := fun _ => fun
  | [d] => { results := [.lit (.bool false)], args := [d] }
  | _ => none }
def FnNetOfWrongFalsely : Prop := fnNetOfRow.holds Try.pinned (OpenSpec.ofChange fnNetOfWrong)

/-- 'laws.FnMedianSpace': WHATEVER THE INPUT: true; the input reads as it did. -/
def fnMedianSpaceSpec : ChangeSpec := { name := "fnMedianSpace", fn := fun _ => fun
  | [d] => { results := [.lit (.bool true)], args := [d] }
  | _ => none }
def fnMedianSpaceRow : OpenClaim := { program := "ytjaigidlpfdfiaa", sum := "4ff82b79dbb749f8678c3b58e28b5b81088c80bd4079803fa7f5ca67b4980cb4", func := "loop.example/fewpoints/laws.FnMedianSpace", spec := "fnMedianSpace", apart := false }
def FnMedianSpaceSaid : Prop := fnMedianSpaceRow.holds Try.pinned (OpenSpec.ofChange fnMedianSpaceSpec)

/-- ITS FALSE NEIGHBOUR: 'it returns false'. Refute it at one input. -/
def fnMedianSpaceWrong : ChangeSpec := { name := "fnMedianSpace", fn := fun _ => fun
  | [d] => { results := [.lit (.bool false)], args := [d] }
  | _ => none }
def FnMedianSpaceWrongFalsely : Prop := fnMedianSpaceRow.holds Try.pinned (OpenSpec.ofChange fnMedianSpaceWrong)

/- THE SECOND FORM. 'bulk': how many values and letters a reading holds, each counted each time it is reached (what is shared counts as often as it is met; a slice's spare places count too). A statement '..UptoSaid' is the law's where the arguments, and the package variables that the reading takes, are together of bulk at most 1048576: NARROWER than '..Said'. Prove '..Said' where nothing that the law and all that it calls make is longer than what came in: it says more and counts as full. Else prove '..UptoSaid'. A law counts once. -/
mutual
def uptoBulk {H : Type} : DataW H → Nat
  | .lit (.string bytes) => bytes.length + 1
  | .lit _ => 1
  | .nil => 1
  | .ptr d => uptoBulk d + 1
  | .slice elems spare => uptoBulkAll elems + uptoBulkAll spare + 1
  | .agg parts => uptoBulkAll parts + 1
  | .iface _ d => uptoBulk d + 1
  | .map entries => uptoBulkEntries entries + 1
  | .held _ => 1
def uptoBulkAll {H : Type} : List (DataW H) → Nat
  | [] => 0
  | d :: r => uptoBulk d + uptoBulkAll r
def uptoBulkEntries {H : Type} : List (Lit × DataW H) → Nat
  | [] => 0
  | x :: r => uptoBulkEntry x + uptoBulkEntries r
def uptoBulkEntry {H : Type} : Lit × DataW H → Nat
  | (.string bytes, d) => bytes.length + uptoBulk d + 1
  | (_, d) => uptoBulk d + 1
 end
def uptoSmall : (H : Type) → List (DataW H) → Bool := fun _ ds => decide (uptoBulkAll ds ≤ 1048576)
def OpenSpec.upto (s : _root_.Go.ChangeSpec) : _root_.Go.OpenSpec := { _root_.Go.OpenSpec.ofChange s with cond := some uptoSmall }

/-- 'laws.FnFitTogether', WHERE WHAT IT READS IS OF BULK AT MOST 1048576: true; the input reads as it did. -/
def fnFitTogetherUptoRow : OpenClaim := { program := "ytjaigidlpfdfiaa", sum := "4ff82b79dbb749f8678c3b58e28b5b81088c80bd4079803fa7f5ca67b4980cb4", func := "loop.example/fewpoints/laws.FnFitTogether", spec := "fnFitTogether", apart := false, narrowed := true }
def FnFitTogetherUptoSaid : Prop := fnFitTogetherUptoRow.holds Try.pinned (OpenSpec.upto fnFitTogetherSpec)

/-- 'laws.FnAroundSet', WHERE WHAT IT READS IS OF BULK AT MOST 1048576: true; the input reads as it did. -/
def fnAroundSetUptoRow : OpenClaim := { program := "ytjaigidlpfdfiaa", sum := "4ff82b79dbb749f8678c3b58e28b5b81088c80bd4079803fa7f5ca67b4980cb4", func := "loop.example/fewpoints/laws.FnAroundSet", spec := "fnAroundSet", apart := false, narrowed := true }
def FnAroundSetUptoSaid : Prop := fnAroundSetUptoRow.holds Try.pinned (OpenSpec.upto fnAroundSetSpec)

/-- 'laws.FnExactNetOf', WHERE WHAT IT READS IS OF BULK AT MOST 1048576: true; the input reads as it did. -/
def fnExactNetOfUptoRow : OpenClaim := { program := "ytjaigidlpfdfiaa", sum := "4ff82b79dbb749f8678c3b58e28b5b81088c80bd4079803fa7f5ca67b4980cb4", func := "loop.example/fewpoints/laws.FnExactNetOf", spec := "fnExactNetOf", apart := false, narrowed := true }
def FnExactNetOfUptoSaid : Prop := fnExactNetOfUptoRow.holds Try.pinned (OpenSpec.upto fnExactNetOfSpec)

/-- 'laws.FnIsolatedBy', WHERE WHAT IT READS IS OF BULK AT MOST 1048576: true; the input reads as it did. -/
def fnIsolatedByUptoRow : OpenClaim := { program := "ytjaigidlpfdfiaa", sum := "4ff82b79dbb749f8678c3b58e28b5b81088c80bd4079803fa7f5ca67b4980cb4", func := "loop.example/fewpoints/laws.FnIsolatedBy", spec := "fnIsolatedBy", apart := false, narrowed := true }
def FnIsolatedByUptoSaid : Prop := fnIsolatedByUptoRow.holds Try.pinned (OpenSpec.upto fnIsolatedBySpec)

/-- 'laws.FnNetOf', WHERE WHAT IT READS IS OF BULK AT MOST 1048576: true; the input reads as it did. -/
def fnNetOfUptoRow : OpenClaim := { program := "ytjaigidlpfdfiaa", sum := "4ff82b79dbb749f8678c3b58e28b5b81088c80bd4079803fa7f5ca67b4980cb4", func := "loop.example/fewpoints/laws.FnNetOf", spec := "fnNetOf", apart := false, narrowed := true }
def FnNetOfUptoSaid : Prop := fnNetOfUptoRow.holds Try.pinned (OpenSpec.upto fnNetOfSpec)

/-- 'laws.FnMedianSpace', WHERE WHAT IT READS IS OF BULK AT MOST 1048576: true; the input reads as it did. -/
def fnMedianSpaceUptoRow : OpenClaim := { program := "ytjaigidlpfdfiaa", sum := "4ff82b79dbb749f8678c3b58e28b5b81088c80bd4079803fa7f5ca67b4980cb4", func := "loop.example/fewpoints/laws.FnMedianSpace", spec := "fnMedianSpace", apart := false, narrowed := true }
def FnMedianSpaceUptoSaid : Prop := fnMedianSpaceUptoRow.holds Try.pinned (OpenSpec.upto fnMedianSpaceSpec)

end Rows
end Go.Proofs.Ytjaigidlpfdfiaa
