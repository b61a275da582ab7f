/- Texts of plans. -/
import Derived.Test.YtddmclkijheicaaDoorTs
import Derived.Test.YtddmclkijheicaaDoorPl2
import Derived.Lib.ItoaLen
namespace Go.Proofs.YtddmclkijheicaaDoor
open Go.RowKit
attribute [local irreducible] AW AOs AO AQ AQW thenA inBlockA postA ACalls Pure
set_option linter.unusedSimpArgs false
set_option linter.unusedVariables false
set_option linter.unusedSectionVars false

theorem wrap48 {u : Nat} (h : u < 10) : IntKind.u8.wrap (48 + (u : Int)) = 48 + (u : Int) := wrap_fits (k := .u8) ⟨by omega, by omega⟩
end Go.Proofs.YtddmclkijheicaaDoor
