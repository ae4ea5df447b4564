/-
  DERIVED. GIVEN WITH THE SEED: THE CARDS: each row of YtcejdgnfmcgopaaDoorRows.lean that lists a variable, with what it lists TIED to the program's text (the seventh form; the later family's looks); each row that meets fmt, with fmt's text TOLD by the authors' own Lean function (tested against real Go, not proved from fmt's source: count such statements apart). THE CARD IS WHAT COUNTS. Prove the row's statement (the work); the ties are given (YtcejdgnfmcgopaaDoorTie.lean); close each card by the builder's one call (the guide's Derived/Test/ToyasCard.lean, 'card_holds'). Laid BY PROGRAM, IN A SANDBOX (cutbox-door.mjs). By AI agents, Wed Nov 11 2026. No macro, syntax, notation, axiom, sorry.
-/
import Derived.Test.YtcejdgnfmcgopaaDoorRows
import GoSem.ClaimSeven
namespace Go.Proofs.YtcejdgnfmcgopaaDoor
namespace Rows

/-- THE TIED CARD OF 'laws.FnDeedText'. -/
def fnDeedTextCard : Claim7 := { stood := { row := fnDeedTextRow, standIns := [], harness := (true, "21cde6350e13357b1d3745d515220621ce5edb984fff8ef72c6ac56c5a29abac"), looks := true }, kinds := [], alts := [], laidByText := true, laidKinds := [.data, .data, .data, .data, .sentinel, .sentinel, .widerDeep, .pinned], laidTests := true, laidLooks := .later }
def FnDeedTextCardSaid : Prop := Claim7.holds Tryd.pinned (.plain (OpenSpec.ofChange fnDeedTextSpec)) fnDeedTextCard

/-- THE SECOND FORM's CARD OF 'laws.FnDeedText'. -/
def fnDeedTextUptoCard : Claim7 := { stood := { row := fnDeedTextUptoRow, standIns := [], harness := (true, "21cde6350e13357b1d3745d515220621ce5edb984fff8ef72c6ac56c5a29abac"), looks := true }, kinds := [], alts := [], laidByText := true, laidKinds := [.data, .data, .data, .data, .sentinel, .sentinel, .widerDeep, .pinned], laidTests := true, laidLooks := .later }
def FnDeedTextUptoCardSaid : Prop := Claim7.holds Tryd.pinned (.plain (OpenSpec.upto fnDeedTextSpec)) fnDeedTextUptoCard
end Rows
end Go.Proofs.YtcejdgnfmcgopaaDoor
