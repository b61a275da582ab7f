/- Shares that stay: all cases of them, the second half, and what they tell. -/
import Derived.Test.YtpffdjleonkdoaaSk
namespace Go.Proofs.Ytpffdjleonkdoaa
open Go.RowKit
attribute [local irreducible] AW AOs AO AQ AQW thenA inBlockA postA ACalls Pure
set_option linter.unusedSimpArgs false
set_option linter.unusedVariables false
set_option linter.unusedSectionVars false

theorem st_8 : st_case 8 = true := by decide +kernel
theorem st_9 : st_case 9 = true := by decide +kernel
theorem st_10 : st_case 10 = true := by decide +kernel
theorem st_11 : st_case 11 = true := by decide +kernel
theorem st_12 : st_case 12 = true := by decide +kernel
theorem st_13 : st_case 13 = true := by decide +kernel
theorem st_14 : st_case 14 = true := by decide +kernel
theorem st_15 : st_case 15 = true := by decide +kernel
end Go.Proofs.Ytpffdjleonkdoaa
