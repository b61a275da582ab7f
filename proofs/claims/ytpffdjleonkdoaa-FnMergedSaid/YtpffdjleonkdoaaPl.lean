/- What the functions on plans give. -/
import Derived.Test.YtpffdjleonkdoaaB1
namespace Go.Proofs.Ytpffdjleonkdoaa
open Go.RowKit
attribute [local irreducible] AW AOs AO AQ AQW thenA inBlockA postA ACalls Pure
set_option linter.unusedSimpArgs false
set_option linter.unusedVariables false
set_option linter.unusedSectionVars false

/-! ### Copies, sizes, comparison -/
/-! ### The cycle -/
def sumP (T : Nat → Int) (b : Int) : Nat → Int
  | 0 => 0
  | i + 1 => sumP T b i + (T i + b)
def cycR (T : Nat → Int) (b : Int) : Nat → Nat → Int → Int
  | 0, _, s => s
  | k + 1, i, s => if (1 ≤ T i ∧ T i ≤ 240) ∧ 0 ≤ b ∧ b ≤ 240 then (if 240 < s + (T i + b) then s + (T i + b) else cycR T b k (i + 1) (s + (T i + b))) else 241
def cyc (n : Nat) (T : Nat → Int) (b : Int) : Int := cycR T b n 0 0
def slotsOkP (n : Nat) (T : Nat → Int) : Prop := ∀ q, q < n → 1 ≤ T q ∧ T q ≤ 240
theorem sumP_mono {T : Nat → Int} {b : Int} (hb : 0 ≤ b) : ∀ (k i : Nat), (∀ q, q < i + k → 1 ≤ T q ∧ T q ≤ 240) → sumP T b i ≤ sumP T b (i + k)
  | 0, i, _ => Int.le_refl _
  | k + 1, i, h => by
    have h1 := sumP_mono hb k i fun q hq => h q (by omega)
    have h2 := h (i + k) (by omega)
    rw [← Nat.add_assoc]
    simp only [sumP]
    omega
theorem cycR_ok {T : Nat → Int} {b : Int} (hb : 0 ≤ b ∧ b ≤ 240) : ∀ (k i : Nat), (∀ q, q < i + k → 1 ≤ T q ∧ T q ≤ 240) → sumP T b (i + k) ≤ 240 → cycR T b k i (sumP T b i) = sumP T b (i + k)
  | 0, i, _, _ => rfl
  | k + 1, i, h, hs => by
    have h1 := h i (by omega)
    have h2 := sumP_mono hb.1 k (i + 1) fun q hq => h q (by omega)
    have e : i + 1 + k = i + (k + 1) := by omega
    rw [e] at h2
    have h3 : sumP T b (i + 1) = sumP T b i + (T i + b) := rfl
    simp only [cycR]
    rw [if_pos ⟨h1, hb⟩, if_neg (by omega), ← h3, cycR_ok hb k (i + 1) (fun q hq => h q (by omega)) (by rw [e]; exact hs), e]
theorem cycR_le {T : Nat → Int} {b : Int} : ∀ (k i : Nat), cycR T b k i (sumP T b i) ≤ 240 → (∀ q, i ≤ q → q < i + k → 1 ≤ T q ∧ T q ≤ 240) ∧ (0 < k → 0 ≤ b ∧ b ≤ 240) ∧ cycR T b k i (sumP T b i) = sumP T b (i + k)
  | 0, i, _ => ⟨fun q h1 h2 => by omega, fun h => by omega, rfl⟩
  | k + 1, i, h => by
    simp only [cycR] at h ⊢
    by_cases h1 : (1 ≤ T i ∧ T i ≤ 240) ∧ 0 ≤ b ∧ b ≤ 240
    · rw [if_pos h1] at h ⊢
      by_cases h2 : 240 < sumP T b i + (T i + b)
      · rw [if_pos h2] at h; omega
      · rw [if_neg h2] at h ⊢
        have h3 : sumP T b (i + 1) = sumP T b i + (T i + b) := rfl
        rw [← h3] at h ⊢
        obtain ⟨h4, _, h5⟩ := cycR_le k (i + 1) h
        refine ⟨fun q hq1 hq2 => ?_, fun _ => h1.2, ?_⟩
        · by_cases e : q = i
          · subst e; exact h1.1
          · exact h4 q (by omega) (by omega)
        · rw [h5]; congr 1; omega
    · rw [if_neg h1] at h; omega
theorem cyc_le {n : Nat} {T : Nat → Int} {b : Int} (h0 : 0 < n) (h : cyc n T b ≤ 240) : slotsOkP n T ∧ (0 ≤ b ∧ b ≤ 240) ∧ cyc n T b = sumP T b n := by
  obtain ⟨h1, h2, h3⟩ := cycR_le (T := T) (b := b) n 0 h
  exact ⟨fun q hq => h1 q (by omega) (by omega), h2 h0, by rw [show cyc n T b = _ from h3, Nat.zero_add]⟩
theorem cyc_eq {n : Nat} {T : Nat → Int} {b : Int} (h : slotsOkP n T) (hb : 0 ≤ b ∧ b ≤ 240) (hs : sumP T b n ≤ 240) : cyc n T b = sumP T b n := by
  have := cycR_ok hb n 0 (fun q hq => h q (by omega)) (by rw [Nat.zero_add]; exact hs)
  rw [Nat.zero_add] at this
  exact this
/-- A plan is valid. -/
def planP (n : Nat) (T : Nat → Int) (b o : Int) : Prop := (1 ≤ n ∧ n ≤ 8) ∧ cyc n T b ≤ 240 ∧ 0 ≤ o ∧ o ≤ cyc n T b - 1
instance (n : Nat) (T : Nat → Int) (b o : Int) : Decidable (planP n T b o) := by unfold planP; infer_instance
theorem planP_iff {n : Nat} {T : Nat → Int} {b o : Int} : planP n T b o ↔ (1 ≤ n ∧ n ≤ 8) ∧ slotsOkP n T ∧ (0 ≤ b ∧ b ≤ 240) ∧ sumP T b n ≤ 240 ∧ 0 ≤ o ∧ o ≤ sumP T b n - 1 := by
  unfold planP
  constructor
  · rintro ⟨hn, hc, ho⟩
    obtain ⟨h1, h2, h3⟩ := cyc_le (by omega) hc
    rw [h3] at hc ho
    exact ⟨hn, h1, h2, hc, ho⟩
  · rintro ⟨hn, h1, h2, hc, ho⟩
    rw [cyc_eq h1 h2 hc]
    exact ⟨hn, hc, ho⟩
end Go.Proofs.Ytpffdjleonkdoaa
