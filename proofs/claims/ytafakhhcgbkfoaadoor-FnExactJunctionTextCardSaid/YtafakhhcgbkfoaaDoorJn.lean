/- The cells of a junction. -/
import Derived.Test.YtafakhhcgbkfoaaDoorMu
import Derived.Test.YtafakhhcgbkfoaaDoorFloat
namespace Go.Proofs.YtafakhhcgbkfoaaDoor
open Go.RowKit
attribute [local irreducible] AW AOs AO AQ AQW thenA inBlockA postA ACalls Pure
set_option linter.unusedSimpArgs false
set_option linter.unusedVariables false
set_option linter.unusedSectionVars false

/-- The cells of a junction. -/
def jnJ (ins outs : Int) (h : Nat → Nat) (q : Nat) : Value := if q = 0 then .int .i64 ins else if q = 1 then .int .i64 outs else .float .f32 (h q)
abbrev jnB (ins outs : Int) (h : Nat → Nat) : Blk := ⟨tab 22 (jnJ ins outs h), none, true⟩
abbrev jnV (ins outs : Int) (h : Nat → Nat) : Value := .agg (tab 22 (jnJ ins outs h)).toArray
theorem jn_flat {ins outs : Int} {h : Nat → Nat} : ∀ c ∈ tab 22 (jnJ ins outs h), Flat c := flat_tabs fun i => by
  unfold jnJ
  split
  · exact Flat.int _ _
  · split
    · exact Flat.int _ _
    · exact Flat.float _ _
theorem jn_one {ins outs : Int} {h : Nat → Nat} (i : Nat) : one (jnJ ins outs h i) = true := by
  unfold jnJ
  split
  · rfl
  · split <;> rfl
theorem jn_put {ins outs : Int} {h : Nat → Nat} {x v : Nat} (hx : 2 ≤ x) : (tab 22 fun i => if i = x then Value.float .f32 v else jnJ ins outs h i) = tab 22 (jnJ ins outs fun q => if q = x then v else h q) := by
  congr 1
  funext i
  unfold jnJ
  by_cases e : i = x
  · rw [if_pos e, if_neg (by omega), if_neg (by omega)]
    show _ = Value.float .f32 (if i = x then v else h i)
    rw [if_pos e]
  · rw [if_neg e]
    split
    · rfl
    · split
      · rfl
      · show _ = Value.float .f32 (if i = x then v else h i)
        rw [if_neg e]
end Go.Proofs.YtafakhhcgbkfoaaDoor
