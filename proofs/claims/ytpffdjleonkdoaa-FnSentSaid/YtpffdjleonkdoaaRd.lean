/- The rounds of a function's loops, by number: so that a round can be proved by itself. No program in sight. -/
import Derived.Test.YtpffdjleonkdoaaMu
namespace Go.Proofs.Ytpffdjleonkdoaa
open Go.RowKit

def loopsOf : Code → List Code
  | .seq a b => loopsOf a ++ loopsOf b
  | .cond _ a b => loopsOf a ++ loopsOf b
  | .block _ a => loopsOf a
  | .loop a => a :: loopsOf a
  | _ => []
/-- The body of a function's loop with a number. -/
def roundOf (fn : Func) (k : Nat) : Code := match fn.body with
  | some c => (loopsOf c)[k]?.getD .skip
  | none => .skip
end Go.Proofs.Ytpffdjleonkdoaa
