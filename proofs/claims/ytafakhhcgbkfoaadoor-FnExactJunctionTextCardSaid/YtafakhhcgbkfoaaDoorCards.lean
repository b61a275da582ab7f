/-
  DERIVED. GIVEN WITH THE SEED: THE CARDS: each row of YtafakhhcgbkfoaaDoorRows.lean that lists a variable, with what it lists TIED to the program's text (the seventh form; the later family's looks); each row that meets fmt, with fmt's text TOLD by the authors' own Lean function (tested against real Go, not proved from fmt's source: count such statements apart). THE CARD IS WHAT COUNTS. Prove the row's statement (the work); the ties are given (YtafakhhcgbkfoaaDoorTie.lean); close each card by the builder's one call (the guide's Derived/Test/ToyasCard.lean, 'card_holds'). Laid BY PROGRAM, IN A SANDBOX (cutbox-door.mjs). By AI agents, Wed Nov 11 2026. No macro, syntax, notation, axiom, sorry.
-/
import Derived.Test.YtafakhhcgbkfoaaDoorRows
import GoSem.ClaimSeven
namespace Go.Proofs.YtafakhhcgbkfoaaDoor
namespace Rows

/-- THE TIED CARD OF 'laws.FnExactPlanText'. -/
def fnExactPlanTextCard : Claim7 := { stood := { row := fnExactPlanTextRow, standIns := [], harness := (true, "d214af34d1ef1226df5ce1e65e04456b7a2c8a810c49490c87de4a5c919c24d9"), looks := false }, kinds := [], alts := [], laidByText := true, laidKinds := [.data, .data, .data], laidTests := true, laidLooks := .later }
def FnExactPlanTextCardSaid : Prop := Claim7.holds Tryd.pinned (.plain (OpenSpec.ofChange fnExactPlanTextSpec)) fnExactPlanTextCard

/-- THE TIED CARD OF 'laws.FnExactJunctionText'. -/
def fnExactJunctionTextCard : Claim7 := { stood := { row := fnExactJunctionTextRow, standIns := [], harness := (true, "d214af34d1ef1226df5ce1e65e04456b7a2c8a810c49490c87de4a5c919c24d9"), looks := false }, kinds := [], alts := [], laidByText := true, laidKinds := [.data, .data, .data], laidTests := true, laidLooks := .later }
def FnExactJunctionTextCardSaid : Prop := Claim7.holds Tryd.pinned (.plain (OpenSpec.ofChange fnExactJunctionTextSpec)) fnExactJunctionTextCard

/-- THE SECOND FORM's CARD OF 'laws.FnExactPlanText'. -/
def fnExactPlanTextUptoCard : Claim7 := { stood := { row := fnExactPlanTextUptoRow, standIns := [], harness := (true, "d214af34d1ef1226df5ce1e65e04456b7a2c8a810c49490c87de4a5c919c24d9"), looks := false }, kinds := [], alts := [], laidByText := true, laidKinds := [.data, .data, .data], laidTests := true, laidLooks := .later }
def FnExactPlanTextUptoCardSaid : Prop := Claim7.holds Tryd.pinned (.plain (OpenSpec.upto fnExactPlanTextSpec)) fnExactPlanTextUptoCard

/-- THE SECOND FORM's CARD OF 'laws.FnExactJunctionText'. -/
def fnExactJunctionTextUptoCard : Claim7 := { stood := { row := fnExactJunctionTextUptoRow, standIns := [], harness := (true, "d214af34d1ef1226df5ce1e65e04456b7a2c8a810c49490c87de4a5c919c24d9"), looks := false }, kinds := [], alts := [], laidByText := true, laidKinds := [.data, .data, .data], laidTests := true, laidLooks := .later }
def FnExactJunctionTextUptoCardSaid : Prop := Claim7.holds Tryd.pinned (.plain (OpenSpec.upto fnExactJunctionTextSpec)) fnExactJunctionTextUptoCard
end Rows
end Go.Proofs.YtafakhhcgbkfoaaDoor
