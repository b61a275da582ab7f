/- Shares that stay: all cases of them, one after the other. -/
import Derived.Test.YtpffdjleonkdoaaSi
import Derived.Test.YtpffdjleonkdoaaDw
namespace Go.Proofs.Ytpffdjleonkdoaa
open Go.RowKit
attribute [local irreducible] AW AOs AO AQ AQW thenA inBlockA postA ACalls Pure
set_option linter.unusedSimpArgs false
set_option linter.unusedVariables false
set_option linter.unusedSectionVars false

def stW (p b lo hi w : Nat) : Bool := fin32 w && decide (fv w ≤ 2 ^ 138) && decide (-(2 ^ 138) ≤ fv w) && !(feq .f32 lo hi)
def stC (p b f lo hi : Nat) : Bool := fin32 lo && Nat.blt lo 2147483648 && decide (fv lo ≤ 2 ^ 149) && (fin32 hi && Nat.blt hi 2147483648 && decide (fv hi ≤ 2 ^ 149)) && decide (fv lo ≤ fv hi + 2 ^ 134) &&
  decide (fv (fmul .f32 p lo) ≤ fv f + 2 ^ 127) && decide (fv f ≤ fv (fmul .f32 p lo) + 2 ^ 127) && decide (fv f ≤ fv (fmul .f32 b (fsub .f32 1065353216 lo)) + 2 ^ 131) && (!(fgt .f32 (fsub .f32 hi lo) 1040187392) || stW p b lo hi (wavF p b lo hi))
def stB (p b f : Nat) : Bool := fin32 f && Nat.blt f 2147483648 && decide (fv f ≤ fv (mostF2 p b)) && stC p b f (lowF p f) (highF b f)
def flowOf (m : Nat) (z : Int) : Nat := fdiv .f32 (fmul .f32 m (fofInt .f32 z)) 1098907648
def st_case (k : Nat) : Bool := (List.range 16).all fun k' => (List.range 17).all fun z => stB (pbw k) (pbw k') (flowOf (mostF2 (pbw k) (pbw k')) z)
theorem st_0 : st_case 0 = true := by decide +kernel
theorem st_1 : st_case 1 = true := by decide +kernel
theorem st_2 : st_case 2 = true := by decide +kernel
theorem st_3 : st_case 3 = true := by decide +kernel
theorem st_4 : st_case 4 = true := by decide +kernel
theorem st_5 : st_case 5 = true := by decide +kernel
theorem st_6 : st_case 6 = true := by decide +kernel
theorem st_7 : st_case 7 = true := by decide +kernel
end Go.Proofs.Ytpffdjleonkdoaa
