/- Products of numbers that are near. -/
import Derived.Test.YtpffdjleonkdoaaRp
namespace Go.Proofs.Ytpffdjleonkdoaa
open Go.RowKit
attribute [local irreducible] AW AOs AO AQ AQW thenA inBlockA postA ACalls Pure
set_option linter.unusedSimpArgs false
set_option linter.unusedVariables false
set_option linter.unusedSectionVars false

theorem le_mulU {a b : Int} (h : a * U ≤ b * U) : a ≤ b := Int.le_of_mul_le_mul_right h (by decide)
section
variable {p b : Nat} (hpb : PbOk p b)
include hpb
theorem mul_close {a x y : Nat} {D : Int} (ha : nn a ∧ fv a ≤ U) (hx : nn x ∧ fv x ≤ U) (hy : nn y ∧ fv y ≤ U) (h1 : fv x ≤ fv y + D) (hD : 0 ≤ D) : fv (fmul .f32 a x) ≤ fv (fmul .f32 a y) + D + 2 ^ 126 := by
  obtain ⟨_, m2, _, _⟩ := mul_sh hpb ha.1 ha.2 hx.1 hx.2
  obtain ⟨_, n2, _, _⟩ := mul_sh hpb ha.1 ha.2 hy.1 hy.2
  have a0 := nn_bd ha.1
  have x0 := nn_bd hx.1
  have y0 := nn_bd hy.1
  have eU : ((2 ^ 149 : Nat) : Int) = U := rfl
  have e1 : fv a * fv x ≤ 16777216 * 2 ^ 125 * ((2 ^ 149 : Nat) : Int) := Int.mul_le_mul ha.2 hx.2 x0 (by decide)
  have e2 : fv a * fv y ≤ 16777216 * 2 ^ 125 * ((2 ^ 149 : Nat) : Int) := Int.mul_le_mul ha.2 hy.2 y0 (by decide)
  have z : -(16777216 * 2 ^ 125 * ((2 ^ 149 : Nat) : Int)) ≤ 0 := by decide
  have r1 := (m2.near (by decide) (e := 125) (by decide) e1 (Int.le_trans z (Int.mul_nonneg a0 x0))).1
  have r2 := (n2.near (by decide) (e := 125) (by decide) e2 (Int.le_trans z (Int.mul_nonneg a0 y0))).2
  have e3 : fv a * fv x ≤ fv a * (fv y + D) := Int.mul_le_mul_of_nonneg_left h1 a0
  have e4 : fv a * D ≤ U * D := Int.mul_le_mul_of_nonneg_right ha.2 hD
  rw [Int.mul_add] at e3
  rw [eU] at r1 r2
  refine le_mulU ?_
  rw [Int.add_mul, Int.add_mul, Int.mul_comm D U]
  have e5 : (2 : Int) ^ 126 * U = 2 ^ 125 * U + 2 ^ 125 * U := by decide
  omega
theorem one_close {x y : Nat} {D : Int} (hx : nn x ∧ fv x ≤ U) (hy : nn y ∧ fv y ≤ U) (h1 : fv y ≤ fv x + D) : fv (fsub .f32 1065353216 x) ≤ fv (fsub .f32 1065353216 y) + D + 2 ^ 126 := by
  obtain ⟨_, m2, _⟩ := sub_one hpb hx.1 hx.2
  obtain ⟨_, n2, _⟩ := sub_one hpb hy.1 hy.2
  have hU := U_val
  have x0 := nn_bd hx.1
  have y0 := nn_bd hy.1
  have r1 := (m2.near (by decide) (e := 125) (by decide) (by simp; omega) (by simp; omega)).1
  have r2 := (n2.near (by decide) (e := 125) (by decide) (by simp; omega) (by simp; omega)).2
  simp at r1 r2
  omega
end
end Go.Proofs.Ytpffdjleonkdoaa
