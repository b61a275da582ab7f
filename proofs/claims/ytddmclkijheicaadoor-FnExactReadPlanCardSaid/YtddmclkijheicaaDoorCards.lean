/-
  DERIVED. GIVEN WITH THE SEED: THE CARDS: each row of YtddmclkijheicaaDoorRows.lean that lists a variable, with what it lists TIED to the program's text (the seventh form; the later family's looks); each row that meets fmt, with fmt's text TOLD by the authors' own Lean function (tested against real Go, not proved from fmt's source: count such statements apart). THE CARD IS WHAT COUNTS. Prove the row's statement (the work); the ties are given (YtddmclkijheicaaDoorTie.lean); close each card by the builder's one call (the guide's Derived/Test/ToyasCard.lean, 'card_holds'). Laid BY PROGRAM, IN A SANDBOX (cutbox-door.mjs). By AI agents, Wed Nov 11 2026. No macro, syntax, notation, axiom, sorry.
-/
import Derived.Test.YtddmclkijheicaaDoorRows
import GoSem.ClaimSeven
namespace Go.Proofs.YtddmclkijheicaaDoor
namespace Rows

/-- THE TIED CARD OF 'laws.FnExactReadPlan'. -/
def fnExactReadPlanCard : Claim7 := { stood := { row := fnExactReadPlanRow, standIns := [], harness := (true, "2501a9d5e056937f9582895ff46d5670db905f2b2769fd0cab47e5a06e24d66a"), looks := true }, kinds := [], alts := [], laidByText := true, laidKinds := [.data, .data, .data, .data, .sentinel, .sentinel, .pinned], laidTests := true, laidLooks := .later }
def FnExactReadPlanCardSaid : Prop := Claim7.holds Tryd.pinned (.plain (OpenSpec.ofChange fnExactReadPlanSpec)) fnExactReadPlanCard

/-- THE SECOND FORM's CARD OF 'laws.FnExactReadPlan'. -/
def fnExactReadPlanUptoCard : Claim7 := { stood := { row := fnExactReadPlanUptoRow, standIns := [], harness := (true, "2501a9d5e056937f9582895ff46d5670db905f2b2769fd0cab47e5a06e24d66a"), looks := true }, kinds := [], alts := [], laidByText := true, laidKinds := [.data, .data, .data, .data, .sentinel, .sentinel, .pinned], laidTests := true, laidLooks := .later }
def FnExactReadPlanUptoCardSaid : Prop := Claim7.holds Tryd.pinned (.plain (OpenSpec.upto fnExactReadPlanSpec)) fnExactReadPlanUptoCard
end Rows
end Go.Proofs.YtddmclkijheicaaDoor
