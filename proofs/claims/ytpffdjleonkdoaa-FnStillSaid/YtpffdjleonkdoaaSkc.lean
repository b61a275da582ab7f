/- Shares that stay: what the cases tell. -/
import Derived.Test.YtpffdjleonkdoaaSkb
namespace Go.Proofs.Ytpffdjleonkdoaa
open Go.RowKit
attribute [local irreducible] AW AOs AO AQ AQW thenA inBlockA postA ACalls Pure
set_option linter.unusedSimpArgs false
set_option linter.unusedVariables false
set_option linter.unusedSectionVars false

theorem st_all16 : ∀ k : Nat, k < 16 → st_case k = true
  | 0, _ => st_0
  | 1, _ => st_1
  | 2, _ => st_2
  | 3, _ => st_3
  | 4, _ => st_4
  | 5, _ => st_5
  | 6, _ => st_6
  | 7, _ => st_7
  | 8, _ => st_8
  | 9, _ => st_9
  | 10, _ => st_10
  | 11, _ => st_11
  | 12, _ => st_12
  | 13, _ => st_13
  | 14, _ => st_14
  | 15, _ => st_15
  | k + 16, h => absurd h (by omega)
theorem st_dr {k k' z : Int} (hk : 0 ≤ k ∧ k < 16) (hk' : 0 ≤ k' ∧ k' < 16) (hz : 0 ≤ z ∧ z < 17) : stB (pbw k) (pbw k') (flowOf (mostF2 (pbw k) (pbw k')) z) = true := by
  have h := st_all16 k.toNat (by omega)
  unfold st_case at h
  rw [List.all_eq_true] at h
  have h2 := h k'.toNat (List.mem_range.2 (by omega))
  rw [List.all_eq_true] at h2
  have h3 := h2 z.toNat (List.mem_range.2 (by omega))
  rw [Int.toNat_of_nonneg hk.1, Int.toNat_of_nonneg hk'.1, Int.toNat_of_nonneg hz.1] at h3
  exact h3
theorem st_facts {p b f : Nat} (h : stB p b f = true) : (nn f ∧ fv f ≤ fv (mostF2 p b)) ∧ (nn (lowF p f) ∧ fv (lowF p f) ≤ U) ∧ (nn (highF b f) ∧ fv (highF b f) ≤ U) ∧ fv (lowF p f) ≤ fv (highF b f) + 2 ^ 134 ∧
    fv (fmul .f32 p (lowF p f)) ≤ fv f + 2 ^ 127 ∧ fv f ≤ fv (fmul .f32 p (lowF p f)) + 2 ^ 127 ∧ fv f ≤ fv (fmul .f32 b (fsub .f32 1065353216 (lowF p f))) + 2 ^ 131 ∧
    (fgt .f32 (fsub .f32 (highF b f) (lowF p f)) 1040187392 = true → fin32 (wavF p b (lowF p f) (highF b f)) = true ∧ fv (wavF p b (lowF p f) (highF b f)) ≤ 2 ^ 138 ∧ -(2 ^ 138) ≤ fv (wavF p b (lowF p f) (highF b f)) ∧ feq .f32 (lowF p f) (highF b f) = false) := by
  unfold stB stC stW at h
  simp only [Bool.and_eq_true, decide_eq_true_eq, Nat.blt_eq, Bool.or_eq_true, Bool.not_eq_true', and_assoc] at h
  obtain ⟨f1, f2, f3, a1, a2, a3, b1, b2, b3, c1, c2, c3, c4, c5⟩ := h
  refine ⟨⟨⟨f1, f2⟩, f3⟩, ⟨⟨a1, a2⟩, a3⟩, ⟨⟨b1, b2⟩, b3⟩, c1, c2, c3, c4, fun hg => ?_⟩
  rcases c5 with c5 | ⟨w1, w2, w3, w4⟩
  · rw [hg] at c5; cases c5
  · exact ⟨w1, w2, w3, w4⟩
end Go.Proofs.Ytpffdjleonkdoaa
