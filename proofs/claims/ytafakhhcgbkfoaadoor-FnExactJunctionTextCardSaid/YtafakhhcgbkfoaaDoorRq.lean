/- Numbers that are not negative: more of them. -/
import Derived.Test.YtafakhhcgbkfoaaDoorFr
namespace Go.Proofs.YtafakhhcgbkfoaaDoor
open Go.RowKit
attribute [local irreducible] AW AOs AO AQ AQW thenA inBlockA postA ACalls Pure
set_option linter.unusedSimpArgs false
set_option linter.unusedVariables false
set_option linter.unusedSectionVars false

theorem nn_nan {a : Nat} (h : nn a) : fnan .f32 a = false := by
  obtain ⟨s, m, p, hd, _⟩ := fin_form h.1
  unfold fnan; rw [hd]; rfl
theorem nn_zero : nn 0 := ⟨by decide, by decide⟩
theorem nn_one : nn 1065353216 := ⟨one_fin, by decide⟩
theorem nn_eq {a b : Nat} (ha : nn a) (hb : nn b) (h : fv a = fv b) : a = b := by
  by_cases h0 : fv a = 0
  · obtain ⟨_, _, _, _, h1⟩ := nn_form ha
    obtain ⟨_, _, _, _, h2⟩ := nn_form hb
    rw [h1 h0, h2 (by omega)]
  · exact fv_inj ha.1 hb.1 h h0 (by have := ha.2; omega) (by have := hb.2; omega)
theorem add_zero32 {a : Nat} (ha : nn a) (h1 : fv a ≤ 2 ^ 160) : fadd .f32 a 0 = a := by
  obtain ⟨h2, h3⟩ := nn_add ha nn_zero (by rw [fv_zero]; omega)
  rw [fv_zero, Int.add_zero] at h3
  refine nn_eq h2 ha (Int.le_antisymm (h3.le_of ha.1 (by simp)) (h3.ge_of ha.1 (by simp)))
theorem less_le {a b : Nat} (ha : nn a) (hb : nn b) : nn (less a b) ∧ fv (less a b) ≤ fv a ∧ fv (less a b) ≤ fv b := by
  have := (less_fv ha.1 hb.1).2
  exact ⟨nn_less ha hb, by omega, by omega⟩
/-- A small number: what is meant by nearly. -/
theorem eps_fv : fin32 953267991 = true ∧ 953267991 < 2147483648 ∧ 2 ^ 135 ≤ fv 953267991 ∧ fv 953267991 ≤ 2 ^ 136 := by decide +kernel
theorem eps_nn : nn 953267991 := ⟨eps_fv.1, eps_fv.2.1⟩
end Go.Proofs.YtafakhhcgbkfoaaDoor
