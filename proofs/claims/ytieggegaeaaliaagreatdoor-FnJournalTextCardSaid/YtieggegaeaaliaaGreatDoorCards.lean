/-
  DERIVED. GIVEN WITH THE SEED: THE CARDS: each row of YtieggegaeaaliaaGreatDoorRows.lean that lists a variable, with what it lists TIED to the program's text (the seventh form; the later family's looks); each row that meets fmt, with fmt's text TOLD by the authors' own Lean function (tested against real Go, not proved from fmt's source: count such statements apart). THE CARD IS WHAT COUNTS. Prove the row's statement (the work); the ties are given (YtieggegaeaaliaaGreatDoorTie.lean); close each card by the builder's one call (the guide's Derived/Test/ToyasCard.lean, 'card_holds'). Laid BY PROGRAM, IN A SANDBOX (cutbox-door.mjs). By AI agents, Wed Nov 11 2026. No macro, syntax, notation, axiom, sorry.
-/
import Derived.Test.YtieggegaeaaliaaGreatDoorRows
import GoSem.ClaimSeven
namespace Go.Proofs.YtieggegaeaaliaaGreatDoor
namespace Rows

/-- THE TIED CARD OF 'laws.FnReadDeed'. -/
def fnReadDeedCard : Claim7 := { stood := { row := fnReadDeedRow, standIns := [], harness := (true, "09edfed5ba8636684c66f35b2ae288be3b14a830f37e2cc6a7c6a1ab5b760d23"), looks := true }, kinds := [], alts := [], laidByText := true, laidKinds := [.data, .data, .data, .data, .sentinel, .sentinel, .widerDeep, .pinned], laidTests := true, laidLooks := .later }
def FnReadDeedCardSaid : Prop := Claim7.holds Tryz.pinned (.plain (OpenSpec.ofChange fnReadDeedSpec)) fnReadDeedCard

/-- THE TIED CARD OF 'laws.FnJournalText'. -/
def fnJournalTextCard : Claim7 := { stood := { row := fnJournalTextRow, standIns := [], harness := (true, "09edfed5ba8636684c66f35b2ae288be3b14a830f37e2cc6a7c6a1ab5b760d23"), looks := true }, kinds := [], alts := [], laidByText := true, laidKinds := [.data, .data, .data, .data, .sentinel, .sentinel, .widerDeep, .pinned], laidTests := true, laidLooks := .later }
def FnJournalTextCardSaid : Prop := Claim7.holds Tryz.pinned (.plain (OpenSpec.ofChange fnJournalTextSpec)) fnJournalTextCard

/-- THE SECOND FORM's CARD OF 'laws.FnReadDeed'. -/
def fnReadDeedUptoCard : Claim7 := { stood := { row := fnReadDeedUptoRow, standIns := [], harness := (true, "09edfed5ba8636684c66f35b2ae288be3b14a830f37e2cc6a7c6a1ab5b760d23"), looks := true }, kinds := [], alts := [], laidByText := true, laidKinds := [.data, .data, .data, .data, .sentinel, .sentinel, .widerDeep, .pinned], laidTests := true, laidLooks := .later }
def FnReadDeedUptoCardSaid : Prop := Claim7.holds Tryz.pinned (.plain (OpenSpec.upto fnReadDeedSpec)) fnReadDeedUptoCard

/-- THE SECOND FORM's CARD OF 'laws.FnJournalText'. -/
def fnJournalTextUptoCard : Claim7 := { stood := { row := fnJournalTextUptoRow, standIns := [], harness := (true, "09edfed5ba8636684c66f35b2ae288be3b14a830f37e2cc6a7c6a1ab5b760d23"), looks := true }, kinds := [], alts := [], laidByText := true, laidKinds := [.data, .data, .data, .data, .sentinel, .sentinel, .widerDeep, .pinned], laidTests := true, laidLooks := .later }
def FnJournalTextUptoCardSaid : Prop := Claim7.holds Tryz.pinned (.plain (OpenSpec.upto fnJournalTextSpec)) fnJournalTextUptoCard
end Rows
end Go.Proofs.YtieggegaeaaliaaGreatDoor
