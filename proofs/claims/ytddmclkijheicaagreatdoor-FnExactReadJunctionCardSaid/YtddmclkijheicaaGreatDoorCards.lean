/-
  DERIVED. GIVEN WITH THE SEED: THE CARDS: each row of YtddmclkijheicaaGreatDoorRows.lean that lists a variable, with what it lists TIED to the program's text (the seventh form; the later family's looks); each row that meets fmt, with fmt's text TOLD by the authors' own Lean function (tested against real Go, not proved from fmt's source: count such statements apart). THE CARD IS WHAT COUNTS. Prove the row's statement (the work); the ties are given (YtddmclkijheicaaGreatDoorTie.lean); close each card by the builder's one call (the guide's Derived/Test/ToyasCard.lean, 'card_holds'). Laid BY PROGRAM, IN A SANDBOX (cutbox-door.mjs). By AI agents, Wed Nov 11 2026. No macro, syntax, notation, axiom, sorry.
-/
import Derived.Test.YtddmclkijheicaaGreatDoorRows
import GoSem.ClaimSeven
namespace Go.Proofs.YtddmclkijheicaaGreatDoor
namespace Rows

/-- THE TIED CARD OF 'laws.FnJunctions'. -/
def fnJunctionsCard : Claim7 := { stood := { row := fnJunctionsRow, standIns := [], harness := (true, "5e439e2576fd4d8db873154fa6d2641841d48d6f0b8ee035f036c6406a37d64c"), looks := true }, kinds := [], alts := [], laidByText := true, laidKinds := [.data, .data, .data, .data, .sentinel, .sentinel, .pinned], laidTests := true, laidLooks := .later }
def FnJunctionsCardSaid : Prop := Claim7.holds Tryz.pinned (.plain (OpenSpec.ofChange fnJunctionsSpec)) fnJunctionsCard

/-- THE TIED CARD OF 'laws.FnRoads'. -/
def fnRoadsCard : Claim7 := { stood := { row := fnRoadsRow, standIns := [], harness := (true, "5e439e2576fd4d8db873154fa6d2641841d48d6f0b8ee035f036c6406a37d64c"), looks := true }, kinds := [], alts := [], laidByText := true, laidKinds := [.data, .data, .data, .data, .sentinel, .sentinel, .pinned], laidTests := true, laidLooks := .later }
def FnRoadsCardSaid : Prop := Claim7.holds Tryz.pinned (.plain (OpenSpec.ofChange fnRoadsSpec)) fnRoadsCard

/-- THE TIED CARD OF 'laws.FnExactReadJunction'. -/
def fnExactReadJunctionCard : Claim7 := { stood := { row := fnExactReadJunctionRow, standIns := [], harness := (true, "5e439e2576fd4d8db873154fa6d2641841d48d6f0b8ee035f036c6406a37d64c"), looks := true }, kinds := [], alts := [], laidByText := true, laidKinds := [.data, .data, .data, .data, .sentinel, .sentinel, .pinned], laidTests := true, laidLooks := .later }
def FnExactReadJunctionCardSaid : Prop := Claim7.holds Tryz.pinned (.plain (OpenSpec.ofChange fnExactReadJunctionSpec)) fnExactReadJunctionCard

/-- THE SECOND FORM's CARD OF 'laws.FnJunctions'. -/
def fnJunctionsUptoCard : Claim7 := { stood := { row := fnJunctionsUptoRow, standIns := [], harness := (true, "5e439e2576fd4d8db873154fa6d2641841d48d6f0b8ee035f036c6406a37d64c"), looks := true }, kinds := [], alts := [], laidByText := true, laidKinds := [.data, .data, .data, .data, .sentinel, .sentinel, .pinned], laidTests := true, laidLooks := .later }
def FnJunctionsUptoCardSaid : Prop := Claim7.holds Tryz.pinned (.plain (OpenSpec.upto fnJunctionsSpec)) fnJunctionsUptoCard

/-- THE SECOND FORM's CARD OF 'laws.FnRoads'. -/
def fnRoadsUptoCard : Claim7 := { stood := { row := fnRoadsUptoRow, standIns := [], harness := (true, "5e439e2576fd4d8db873154fa6d2641841d48d6f0b8ee035f036c6406a37d64c"), looks := true }, kinds := [], alts := [], laidByText := true, laidKinds := [.data, .data, .data, .data, .sentinel, .sentinel, .pinned], laidTests := true, laidLooks := .later }
def FnRoadsUptoCardSaid : Prop := Claim7.holds Tryz.pinned (.plain (OpenSpec.upto fnRoadsSpec)) fnRoadsUptoCard

/-- THE SECOND FORM's CARD OF 'laws.FnExactReadJunction'. -/
def fnExactReadJunctionUptoCard : Claim7 := { stood := { row := fnExactReadJunctionUptoRow, standIns := [], harness := (true, "5e439e2576fd4d8db873154fa6d2641841d48d6f0b8ee035f036c6406a37d64c"), looks := true }, kinds := [], alts := [], laidByText := true, laidKinds := [.data, .data, .data, .data, .sentinel, .sentinel, .pinned], laidTests := true, laidLooks := .later }
def FnExactReadJunctionUptoCardSaid : Prop := Claim7.holds Tryz.pinned (.plain (OpenSpec.upto fnExactReadJunctionSpec)) fnExactReadJunctionUptoCard
end Rows
end Go.Proofs.YtddmclkijheicaaGreatDoor
