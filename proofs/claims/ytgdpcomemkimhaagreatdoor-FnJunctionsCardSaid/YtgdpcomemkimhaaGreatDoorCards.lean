/-
  DERIVED. GIVEN WITH THE SEED: THE CARDS: each row of YtgdpcomemkimhaaGreatDoorRows.lean that lists a variable, with what it lists TIED to the program's text (the seventh form; the later family's looks); each row that meets fmt, with fmt's text TOLD by the authors' own Lean function (tested against real Go, not proved from fmt's source: count such statements apart). THE CARD IS WHAT COUNTS. Prove the row's statement (the work); the ties are given (YtgdpcomemkimhaaGreatDoorTie.lean); close each card by the builder's one call (the guide's Derived/Test/ToyasCard.lean, 'card_holds'). Laid BY PROGRAM, IN A SANDBOX (cutbox-door.mjs). By AI agents, Wed Nov 11 2026. No macro, syntax, notation, axiom, sorry.
-/
import Derived.Test.YtgdpcomemkimhaaGreatDoorRows
import GoSem.ClaimSeven
namespace Go.Proofs.YtgdpcomemkimhaaGreatDoor
namespace Rows

/-- THE TIED CARD OF 'laws.FnJunctions'. -/
def fnJunctionsCard : Claim7 := { stood := { row := fnJunctionsRow, standIns := [], harness := (true, "efb90cbf69272b194da3a19ab59a8aa5787b0eec4201323f437e18f6fdd3c206"), looks := true }, kinds := [], alts := [], laidByText := true, laidKinds := [.data, .data, .data, .data, .sentinel, .sentinel, .pinned], laidTests := true, laidLooks := .later }
def FnJunctionsCardSaid : Prop := Claim7.holds Tryz.pinned (.plain (OpenSpec.ofChange fnJunctionsSpec)) fnJunctionsCard

/-- THE TIED CARD OF 'laws.FnRoads'. -/
def fnRoadsCard : Claim7 := { stood := { row := fnRoadsRow, standIns := [], harness := (true, "efb90cbf69272b194da3a19ab59a8aa5787b0eec4201323f437e18f6fdd3c206"), looks := true }, kinds := [], alts := [], laidByText := true, laidKinds := [.data, .data, .data, .data, .sentinel, .sentinel, .pinned], laidTests := true, laidLooks := .later }
def FnRoadsCardSaid : Prop := Claim7.holds Tryz.pinned (.plain (OpenSpec.ofChange fnRoadsSpec)) fnRoadsCard

/-- THE SECOND FORM's CARD OF 'laws.FnJunctions'. -/
def fnJunctionsUptoCard : Claim7 := { stood := { row := fnJunctionsUptoRow, standIns := [], harness := (true, "efb90cbf69272b194da3a19ab59a8aa5787b0eec4201323f437e18f6fdd3c206"), looks := true }, kinds := [], alts := [], laidByText := true, laidKinds := [.data, .data, .data, .data, .sentinel, .sentinel, .pinned], laidTests := true, laidLooks := .later }
def FnJunctionsUptoCardSaid : Prop := Claim7.holds Tryz.pinned (.plain (OpenSpec.upto fnJunctionsSpec)) fnJunctionsUptoCard

/-- THE SECOND FORM's CARD OF 'laws.FnRoads'. -/
def fnRoadsUptoCard : Claim7 := { stood := { row := fnRoadsUptoRow, standIns := [], harness := (true, "efb90cbf69272b194da3a19ab59a8aa5787b0eec4201323f437e18f6fdd3c206"), looks := true }, kinds := [], alts := [], laidByText := true, laidKinds := [.data, .data, .data, .data, .sentinel, .sentinel, .pinned], laidTests := true, laidLooks := .later }
def FnRoadsUptoCardSaid : Prop := Claim7.holds Tryz.pinned (.plain (OpenSpec.upto fnRoadsSpec)) fnRoadsUptoCard
end Rows
end Go.Proofs.YtgdpcomemkimhaaGreatDoor
