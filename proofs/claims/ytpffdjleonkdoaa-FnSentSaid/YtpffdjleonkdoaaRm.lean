/- Roads: ramps. -/
import Derived.Test.YtpffdjleonkdoaaRr
import Derived.Test.YtpffdjleonkdoaaGy
namespace Go.Proofs.Ytpffdjleonkdoaa
open Go.RowKit
attribute [local irreducible] AW AOs AO AQ AQW thenA inBlockA postA ACalls Pure
set_option linter.unusedSimpArgs false
set_option linter.unusedVariables false
set_option linter.unusedSectionVars false

theorem one_ite {q i : Nat} {u v : Nat} : one ((fun q => if q = i then Value.float .f32 u else (fun _ => Value.float .f32 v) q) q) = true := by
  show one (if q = i then _ else _) = true
  by_cases h : q = i
  · rw [if_pos h]; rfl
  · rw [if_neg h]; rfl
/-- What joins; a road behind a step with what joins at a cell. -/
def rmJ (tk f jn : Nat) : Nat := if flt .f32 (less jn (fsub .f32 tk f)) 0 = true then 0 else less jn (fsub .f32 tk f)
def rmF (c g : Nat → Nat) (i J q : Nat) : Nat := if q = i then heldF (fsub .f32 (fadd .f32 (c q) (fadd .f32 (g q) J)) (g (q + 1))) else stF c g q
section
variable {c : Nat → Nat} {p b l : Nat} (hr : RdOk c p b l) {off room jn : Nat} (ho : isAm off = true) (hro : isAm room = true) (hj : isAm jn = true) {i : Nat} (hi : i < 16)
include hr ho hro hj hi
end
end Go.Proofs.Ytpffdjleonkdoaa
