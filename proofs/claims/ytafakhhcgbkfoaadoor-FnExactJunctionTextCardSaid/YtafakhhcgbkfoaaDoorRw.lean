/- Roads: the words of their numbers. No program in sight. -/
import Derived.Test.YtafakhhcgbkfoaaDoorFv
import Derived.Test.YtafakhhcgbkfoaaDoorB3
namespace Go.Proofs.YtafakhhcgbkfoaaDoor
open Go.RowKit
attribute [local irreducible] AW AOs AO AQ AQW thenA inBlockA postA ACalls Pure
set_option linter.unusedSimpArgs false
set_option linter.unusedVariables false
set_option linter.unusedSectionVars false

/-! ### Words -/
def isSh (a : Nat) : Bool := isAm a && fle .f32 a 1065353216
def less (a b : Nat) : Nat := if flt .f32 b a = true then b else a
def heldF (a : Nat) : Nat := if flt .f32 a 0 = true then 0 else if fgt .f32 a 1065353216 = true then 1065353216 else a
def bestF (p b : Nat) : Nat := fdiv .f32 b (fadd .f32 p b)
def mostF2 (p b : Nat) : Nat := fmul .f32 p (bestF p b)
def sndF (p b x : Nat) : Nat := less (fmul .f32 p x) (mostF2 p b)
def tksF (p b x : Nat) : Nat := less (fmul .f32 b (fsub .f32 1065353216 x)) (mostF2 p b)
def flwF (p b x y : Nat) : Nat := less (sndF p b x) (tksF p b y)
abbrev rdC (c : Nat → Nat) (p b l : Nat) : List Value := tab 16 (fun q => .float .f32 (c q)) ++ ([.float .f32 p, .float .f32 b, .float .f32 l] : List Value)
abbrev rdV (c : Nat → Nat) (p b l : Nat) : Value := .agg (rdC c p b l).toArray
abbrev rdB (c : Nat → Nat) (p b l : Nat) : Blk := ⟨rdC c p b l, none, true⟩
/-- A valid road. -/
structure RdOk (c : Nat → Nat) (p b l : Nat) : Prop where
  cars : ∀ q, q < 16 → isSh (c q) = true
  pace : isSh p = true
  back : isSh b = true
  paceL : fge .f32 p 1015021568 = true
  backL : fge .f32 b 1015021568 = true
  lanes : isAm l = true
  lanesL : fge .f32 l 1048576000 = true
  lanesH : fle .f32 l 1090519040 = true
end Go.Proofs.YtafakhhcgbkfoaaDoor
