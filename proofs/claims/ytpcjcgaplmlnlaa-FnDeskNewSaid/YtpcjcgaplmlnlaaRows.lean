/-
  No cell of these rows narrows 'for every input' (looked for: loops, veiled, ifaces, maps, wideKeys, modest, calm, conditions, laid).
  DERIVED. THE GIVEN ROWS OF THIS SEAT. 6 by the template 'for every input the law returns true; each argument reads behind the call as it read before'; 0 by the template 'total and deterministic' (their statements: YtpcjcgaplmlnlaaTotals.lean).
  GIVEN WITH THE SEED: the statements are not yours to turn. If you find one false, say at which input.
  Laid BY PROGRAM, IN A SANDBOX (cutbox-rows.mjs): the forced cells as the released guide's own fill.sh prints them over the translation 43d2f0acd3a2efcd… (all of the seat's roots in one cut). By AI agents, Wed Nov 11 2026. No macro, syntax, notation, axiom, sorry.
-/
import Derived.Test.YtpcjcgaplmlnlaaChecked
import GoSem.Claim
import GoSem.ClaimJoined
import GoSem.ClaimMapViews
import Derived.JoinedTies
import Derived.KernelRfl
namespace Go.Proofs.Ytpcjcgaplmlnlaa
/- THE CELL 'sum', in the pinned program and in every row, IS THE sha256 OF THE DUMP (.gsa) THAT YtpcjcgaplmlnlaaProg.lean LOADS. Nothing in Lean hashes anything: it is a label: what it is worth is what the hold of that sum in a sandbox is worth. -/
noncomputable def Try.pinned : Pinned := { name := "ytpcjcgaplmlnlaa", sum := "43d2f0acd3a2efcd6ad7b34f062c815b535c8ddaef53251c5e6e969b205ce416", checked := Try.checked }
namespace Rows
def none {H : Type} : Left H := { results := [], args := [] }

/-- 'laws.FnDeskNew': WHATEVER THE INPUT: true; the input reads as it did. -/
def fnDeskNewSpec : ChangeSpec := { name := "fnDeskNew", fn := fun _ => fun
  | [d] => { results := [.lit (.bool true)], args := [d] }
  | _ => none }
def fnDeskNewRow : OpenClaim := { program := "ytpcjcgaplmlnlaa", sum := "43d2f0acd3a2efcd6ad7b34f062c815b535c8ddaef53251c5e6e969b205ce416", func := "loop.example/fewpoints/laws.FnDeskNew", spec := "fnDeskNew", unfollowed := true, recurses := true, apart := false }
def FnDeskNewSaid : Prop := fnDeskNewRow.holds Try.pinned (OpenSpec.ofChange fnDeskNewSpec)

/-- ITS FALSE NEIGHBOUR: 'it returns false'. Refute it at one input. -/
def fnDeskNewWrong : ChangeSpec := { name := "fnDeskNew", fn := fun _ => fun
  | [d] => { results := [.lit (.bool false)], args := [d] }
  | _ => none }
def FnDeskNewWrongFalsely : Prop := fnDeskNewRow.holds Try.pinned (OpenSpec.ofChange fnDeskNewWrong)

/-- 'laws.FnExactDeskNew': WHATEVER THE INPUT: true; the input reads as it did. -/
def fnExactDeskNewSpec : ChangeSpec := { name := "fnExactDeskNew", fn := fun _ => fun
  | [] => { results := [.lit (.bool true)], args := [] }
  | _ => none }
def fnExactDeskNewRow : OpenClaim := { program := "ytpcjcgaplmlnlaa", sum := "43d2f0acd3a2efcd6ad7b34f062c815b535c8ddaef53251c5e6e969b205ce416", func := "loop.example/fewpoints/laws.FnExactDeskNew", spec := "fnExactDeskNew", apart := false }
def FnExactDeskNewSaid : Prop := fnExactDeskNewRow.holds Try.pinned (OpenSpec.ofChange fnExactDeskNewSpec)

/-- ITS FALSE NEIGHBOUR: 'it returns false'. Refute it at one input. -/
def fnExactDeskNewWrong : ChangeSpec := { name := "fnExactDeskNew", fn := fun _ => fun
  | [] => { results := [.lit (.bool false)], args := [] }
  | _ => none }
def FnExactDeskNewWrongFalsely : Prop := fnExactDeskNewRow.holds Try.pinned (OpenSpec.ofChange fnExactDeskNewWrong)

/-- 'laws.FnExactSplitOk': WHATEVER THE INPUT: true; the input reads as it did. -/
def fnExactSplitOkSpec : ChangeSpec := { name := "fnExactSplitOk", fn := fun _ => fun
  | [d1, d2] => { results := [.lit (.bool true)], args := [d1, d2] }
  | _ => none }
def fnExactSplitOkRow : OpenClaim := { program := "ytpcjcgaplmlnlaa", sum := "43d2f0acd3a2efcd6ad7b34f062c815b535c8ddaef53251c5e6e969b205ce416", func := "loop.example/fewpoints/laws.FnExactSplitOk", spec := "fnExactSplitOk", apart := false }
def FnExactSplitOkSaid : Prop := fnExactSplitOkRow.holds Try.pinned (OpenSpec.ofChange fnExactSplitOkSpec)

/-- ITS FALSE NEIGHBOUR: 'it returns false'. Refute it at one input. -/
def fnExactSplitOkWrong : ChangeSpec := { name := "fnExactSplitOk", fn := fun _ => fun
  | [d1, d2] => { results := [.lit (.bool false)], args := [d1, d2] }
  | _ => none }
def FnExactSplitOkWrongFalsely : Prop := fnExactSplitOkRow.holds Try.pinned (OpenSpec.ofChange fnExactSplitOkWrong)

/-- 'laws.FnExactWeightsOk': WHATEVER THE INPUT: true; the input reads as it did. -/
def fnExactWeightsOkSpec : ChangeSpec := { name := "fnExactWeightsOk", fn := fun _ => fun
  | [d1, d2] => { results := [.lit (.bool true)], args := [d1, d2] }
  | _ => none }
def fnExactWeightsOkRow : OpenClaim := { program := "ytpcjcgaplmlnlaa", sum := "43d2f0acd3a2efcd6ad7b34f062c815b535c8ddaef53251c5e6e969b205ce416", func := "loop.example/fewpoints/laws.FnExactWeightsOk", spec := "fnExactWeightsOk", apart := false }
def FnExactWeightsOkSaid : Prop := fnExactWeightsOkRow.holds Try.pinned (OpenSpec.ofChange fnExactWeightsOkSpec)

/-- ITS FALSE NEIGHBOUR: 'it returns false'. Refute it at one input. -/
def fnExactWeightsOkWrong : ChangeSpec := { name := "fnExactWeightsOk", fn := fun _ => fun
  | [d1, d2] => { results := [.lit (.bool false)], args := [d1, d2] }
  | _ => none }
def FnExactWeightsOkWrongFalsely : Prop := fnExactWeightsOkRow.holds Try.pinned (OpenSpec.ofChange fnExactWeightsOkWrong)

/-- 'laws.FnExactFitTogether': WHATEVER THE INPUT: true; the input reads as it did. -/
def fnExactFitTogetherSpec : ChangeSpec := { name := "fnExactFitTogether", fn := fun _ => fun
  | [d1, d2, d3] => { results := [.lit (.bool true)], args := [d1, d2, d3] }
  | _ => none }
def fnExactFitTogetherRow : OpenClaim := { program := "ytpcjcgaplmlnlaa", sum := "43d2f0acd3a2efcd6ad7b34f062c815b535c8ddaef53251c5e6e969b205ce416", func := "loop.example/fewpoints/laws.FnExactFitTogether", spec := "fnExactFitTogether", apart := false }
def FnExactFitTogetherSaid : Prop := fnExactFitTogetherRow.holds Try.pinned (OpenSpec.ofChange fnExactFitTogetherSpec)

/-- ITS FALSE NEIGHBOUR: 'it returns false'. Refute it at one input. -/
def fnExactFitTogetherWrong : ChangeSpec := { name := "fnExactFitTogether", fn := fun _ => fun
  | [d1, d2, d3] => { results := [.lit (.bool false)], args := [d1, d2, d3] }
  | _ => none }
def FnExactFitTogetherWrongFalsely : Prop := fnExactFitTogetherRow.holds Try.pinned (OpenSpec.ofChange fnExactFitTogetherWrong)

/-- 'laws.FnExactAllTogether': WHATEVER THE INPUT: true; the input reads as it did. -/
def fnExactAllTogetherSpec : ChangeSpec := { name := "fnExactAllTogether", fn := fun _ => fun
  | [d] => { results := [.lit (.bool true)], args := [d] }
  | _ => none }
def fnExactAllTogetherRow : OpenClaim := { program := "ytpcjcgaplmlnlaa", sum := "43d2f0acd3a2efcd6ad7b34f062c815b535c8ddaef53251c5e6e969b205ce416", func := "loop.example/fewpoints/laws.FnExactAllTogether", spec := "fnExactAllTogether", apart := false }
def FnExactAllTogetherSaid : Prop := fnExactAllTogetherRow.holds Try.pinned (OpenSpec.ofChange fnExactAllTogetherSpec)

/-- ITS FALSE NEIGHBOUR: 'it returns false'. Refute it at one input. -/
def fnExactAllTogetherWrong : ChangeSpec := { name := "fnExactAllTogether", fn := fun _ => fun
  | [d] => { results := [.lit (.bool false)], args := [d] }
  | _ => none }
def FnExactAllTogetherWrongFalsely : Prop := fnExactAllTogetherRow.holds Try.pinned (OpenSpec.ofChange fnExactAllTogetherWrong)

/- THE SECOND FORM. 'bulk': how many values and letters a reading holds, each counted each time it is reached (what is shared counts as often as it is met; a slice's spare places count too). A statement '..UptoSaid' is the law's where the arguments, and the package variables that the reading takes, are together of bulk at most 1048576: NARROWER than '..Said'. Prove '..Said' where nothing that the law and all that it calls make is longer than what came in: it says more and counts as full. Else prove '..UptoSaid'. A law counts once. -/
mutual
def uptoBulk {H : Type} : DataW H → Nat
  | .lit (.string bytes) => bytes.length + 1
  | .lit _ => 1
  | .nil => 1
  | .ptr d => uptoBulk d + 1
  | .slice elems spare => uptoBulkAll elems + uptoBulkAll spare + 1
  | .agg parts => uptoBulkAll parts + 1
  | .iface _ d => uptoBulk d + 1
  | .map entries => uptoBulkEntries entries + 1
  | .held _ => 1
def uptoBulkAll {H : Type} : List (DataW H) → Nat
  | [] => 0
  | d :: r => uptoBulk d + uptoBulkAll r
def uptoBulkEntries {H : Type} : List (Lit × DataW H) → Nat
  | [] => 0
  | x :: r => uptoBulkEntry x + uptoBulkEntries r
def uptoBulkEntry {H : Type} : Lit × DataW H → Nat
  | (.string bytes, d) => bytes.length + uptoBulk d + 1
  | (_, d) => uptoBulk d + 1
 end
def uptoSmall : (H : Type) → List (DataW H) → Bool := fun _ ds => decide (uptoBulkAll ds ≤ 1048576)
def OpenSpec.upto (s : _root_.Go.ChangeSpec) : _root_.Go.OpenSpec := { _root_.Go.OpenSpec.ofChange s with cond := some uptoSmall }

/-- 'laws.FnDeskNew', WHERE WHAT IT READS IS OF BULK AT MOST 1048576: true; the input reads as it did. -/
def fnDeskNewUptoRow : OpenClaim := { program := "ytpcjcgaplmlnlaa", sum := "43d2f0acd3a2efcd6ad7b34f062c815b535c8ddaef53251c5e6e969b205ce416", func := "loop.example/fewpoints/laws.FnDeskNew", spec := "fnDeskNew", unfollowed := true, recurses := true, apart := false, narrowed := true }
def FnDeskNewUptoSaid : Prop := fnDeskNewUptoRow.holds Try.pinned (OpenSpec.upto fnDeskNewSpec)

/-- 'laws.FnExactDeskNew', WHERE WHAT IT READS IS OF BULK AT MOST 1048576: true; the input reads as it did. -/
def fnExactDeskNewUptoRow : OpenClaim := { program := "ytpcjcgaplmlnlaa", sum := "43d2f0acd3a2efcd6ad7b34f062c815b535c8ddaef53251c5e6e969b205ce416", func := "loop.example/fewpoints/laws.FnExactDeskNew", spec := "fnExactDeskNew", apart := false, narrowed := true }
def FnExactDeskNewUptoSaid : Prop := fnExactDeskNewUptoRow.holds Try.pinned (OpenSpec.upto fnExactDeskNewSpec)

/-- 'laws.FnExactSplitOk', WHERE WHAT IT READS IS OF BULK AT MOST 1048576: true; the input reads as it did. -/
def fnExactSplitOkUptoRow : OpenClaim := { program := "ytpcjcgaplmlnlaa", sum := "43d2f0acd3a2efcd6ad7b34f062c815b535c8ddaef53251c5e6e969b205ce416", func := "loop.example/fewpoints/laws.FnExactSplitOk", spec := "fnExactSplitOk", apart := false, narrowed := true }
def FnExactSplitOkUptoSaid : Prop := fnExactSplitOkUptoRow.holds Try.pinned (OpenSpec.upto fnExactSplitOkSpec)

/-- 'laws.FnExactWeightsOk', WHERE WHAT IT READS IS OF BULK AT MOST 1048576: true; the input reads as it did. -/
def fnExactWeightsOkUptoRow : OpenClaim := { program := "ytpcjcgaplmlnlaa", sum := "43d2f0acd3a2efcd6ad7b34f062c815b535c8ddaef53251c5e6e969b205ce416", func := "loop.example/fewpoints/laws.FnExactWeightsOk", spec := "fnExactWeightsOk", apart := false, narrowed := true }
def FnExactWeightsOkUptoSaid : Prop := fnExactWeightsOkUptoRow.holds Try.pinned (OpenSpec.upto fnExactWeightsOkSpec)

/-- 'laws.FnExactFitTogether', WHERE WHAT IT READS IS OF BULK AT MOST 1048576: true; the input reads as it did. -/
def fnExactFitTogetherUptoRow : OpenClaim := { program := "ytpcjcgaplmlnlaa", sum := "43d2f0acd3a2efcd6ad7b34f062c815b535c8ddaef53251c5e6e969b205ce416", func := "loop.example/fewpoints/laws.FnExactFitTogether", spec := "fnExactFitTogether", apart := false, narrowed := true }
def FnExactFitTogetherUptoSaid : Prop := fnExactFitTogetherUptoRow.holds Try.pinned (OpenSpec.upto fnExactFitTogetherSpec)

/-- 'laws.FnExactAllTogether', WHERE WHAT IT READS IS OF BULK AT MOST 1048576: true; the input reads as it did. -/
def fnExactAllTogetherUptoRow : OpenClaim := { program := "ytpcjcgaplmlnlaa", sum := "43d2f0acd3a2efcd6ad7b34f062c815b535c8ddaef53251c5e6e969b205ce416", func := "loop.example/fewpoints/laws.FnExactAllTogether", spec := "fnExactAllTogether", apart := false, narrowed := true }
def FnExactAllTogetherUptoSaid : Prop := fnExactAllTogetherUptoRow.holds Try.pinned (OpenSpec.upto fnExactAllTogetherSpec)

end Rows
end Go.Proofs.Ytpcjcgaplmlnlaa
