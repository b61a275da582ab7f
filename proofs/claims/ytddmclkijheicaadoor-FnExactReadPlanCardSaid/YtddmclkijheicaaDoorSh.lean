/- Shared green: weights and amounts. -/
import Derived.Test.YtddmclkijheicaaDoorFs
import Derived.Test.YtddmclkijheicaaDoorSa
import Derived.Test.YtddmclkijheicaaDoorPl2
namespace Go.Proofs.YtddmclkijheicaaDoor
open Go.RowKit
attribute [local irreducible] AW AOs AO AQ AQW thenA inBlockA postA ACalls Pure
set_option linter.unusedSimpArgs false
set_option linter.unusedVariables false
set_option linter.unusedSectionVars false

/-- The greatest demand of a phase. -/
def wtF (p : Nat → Bool) (d : Nat → Nat) : Nat → Nat
  | 0 => 0
  | i + 1 => if p i = true ∧ fgt .f32 (d i) (wtF p d i) = true then d i else wtF p d i
theorem isAm_zero : isAm 0 = true := by decide +kernel
theorem wt_am {p : Nat → Bool} {d : Nat → Nat} : ∀ i, (∀ q, q < i → isAm (d q) = true) → isAm (wtF p d i) = true
  | 0, _ => isAm_zero
  | i + 1, h => by
    simp only [wtF]
    split
    · exact h i (by omega)
    · exact wt_am i fun q hq => h q (by omega)
/-! ### Amounts -/
section
variable (a : Option Addr) (n cp : Nat) (d : Nat → Nat) (M : Mem) (hn : n ≤ 1048576) (hS : SlAt M a n (tab n fun q => .float .f32 (d q)))
include hn hS
def amsK (d : Nat → Nat) (n : Nat) : Bool := okK (fun i => isAm (d i)) n 0
omit hn hS in
theorem ams_all {d : Nat → Nat} {n : Nat} : amsK d n = true ↔ ∀ q, q < n → isAm (d q) = true := by
  unfold amsK
  rw [okK_all]
  exact ⟨fun h q hq => h q (by omega) (by omega), fun h q _ hq => h q (by omega)⟩
omit hn hS in
theorem ams_idx {d : Nat → Nat} {n : Nat} : (!decide (0 ≤ idxK (fun q => !isAm (d q)) n 0)) = amsK d n := by
  cases h : amsK d n
  · have : 0 ≤ idxK (fun q => !isAm (d q)) n 0 := by
      rw [idxK_pos]
      refine Classical.byContradiction fun hn => ?_
      have := (ams_all (d := d) (n := n)).2 fun q hq => by
        cases h2 : isAm (d q)
        · exact (hn ⟨q, by omega, by omega, by rw [h2]; rfl⟩).elim
        · rfl
      rw [this] at h; cases h
    rw [decide_eq_true this]; rfl
  · have : ¬ 0 ≤ idxK (fun q => !isAm (d q)) n 0 := fun h0 => by
      obtain ⟨q, _, h2, h3⟩ := (idxK_pos _ _).1 h0
      rw [ams_all.1 h q (by omega)] at h3; cases h3
    rw [decide_eq_false this]; rfl
end
end Go.Proofs.YtddmclkijheicaaDoor
