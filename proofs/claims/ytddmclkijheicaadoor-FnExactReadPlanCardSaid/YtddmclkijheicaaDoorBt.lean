/- Numbers of phases, by bits. -/
import Derived.Test.YtddmclkijheicaaDoorB1
namespace Go.Proofs.YtddmclkijheicaaDoor
open Go.RowKit
attribute [local irreducible] AW AOs AO AQ AQW thenA inBlockA postA ACalls Pure
set_option linter.unusedSimpArgs false
set_option linter.unusedVariables false
set_option linter.unusedSectionVars false

theorem numP_testBit (p : Nat → Bool) : ∀ k i, (numP p k).testBit i = (decide (i < k) && p i)
  | 0, i => by simp [numP]
  | k + 1, i => by
    have h := numP_lt p k
    by_cases hp : p k = true
    · rw [numP, if_pos hp, ← or_pow h, Nat.testBit_or, Nat.testBit_two_pow, numP_testBit p k i]
      by_cases e : k = i
      · subst e; simp [hp]
      · by_cases h2 : i < k
        · simp [e, h2, show i < k + 1 by omega]
        · simp [e, h2, show ¬ i < k + 1 by omega]
    · rw [numP, if_neg hp, Nat.add_zero, numP_testBit p k i]
      by_cases e : k = i
      · subst e; simp [hp]
      · by_cases h2 : i < k
        · simp [h2, show i < k + 1 by omega]
        · simp [h2, show ¬ i < k + 1 by omega]
theorem numP_and (p q : Nat → Bool) (k : Nat) : numP p k &&& numP q k = numP (fun i => p i && q i) k := by
  refine Nat.eq_of_testBit_eq fun i => ?_
  rw [Nat.testBit_and, numP_testBit, numP_testBit, numP_testBit]
  cases decide (i < k) <;> simp
theorem numP_orr (p q : Nat → Bool) (k : Nat) : numP p k ||| numP q k = numP (fun i => p i || q i) k := by
  refine Nat.eq_of_testBit_eq fun i => ?_
  rw [Nat.testBit_or, numP_testBit, numP_testBit, numP_testBit]
  cases decide (i < k) <;> simp
theorem numP_zero {p : Nat → Bool} {k : Nat} : numP p k = 0 ↔ ∀ i, i < k → p i = false := by
  refine ⟨fun h i hi => ?_, fun h => ?_⟩
  · have := numP_testBit p k i
    rw [h, Nat.zero_testBit, decide_eq_true hi, Bool.true_and] at this
    exact this.symm
  · refine Nat.eq_of_testBit_eq fun i => ?_
    rw [numP_testBit, Nat.zero_testBit]
    by_cases hi : i < k
    · rw [h i hi, Bool.and_false]
    · rw [decide_eq_false hi, Bool.false_and]
theorem numP_inj {p q : Nat → Bool} {k : Nat} (h : numP p k = numP q k) : ∀ i, i < k → p i = q i := by
  intro i hi
  have h1 := numP_testBit p k i
  have h2 := numP_testBit q k i
  rw [decide_eq_true hi, Bool.true_and] at h1 h2
  rw [← h1, ← h2, h]
theorem andP (p q : Nat → Bool) : bits .and .i64 (numP p 8 : Int) (numP q 8 : Int) = ((numP (fun i => p i && q i) 8 : Nat) : Int) := by
  have h1 := numP_le p (i := 8) (by omega)
  have h2 := numP_le q (i := 8) (by omega)
  rw [and_nat _ _ (by omega) (by omega), numP_and]
theorem ofInt_notN (b : Nat) : ~~~ (BitVec.ofInt 64 (b : Int)) = ~~~ (BitVec.ofNat 64 b) := by
  rw [BitVec.ofInt_natCast]
theorem andNotP (p q : Nat → Bool) : bits .andNot .i64 (numP p 8 : Int) (numP q 8 : Int) = ((numP (fun i => p i && !q i) 8 : Nat) : Int) := by
  have h1 := numP_le p (i := 8) (by omega)
  have h2 := numP_le q (i := 8) (by omega)
  have h3 := numP_le (fun i => p i && !q i) (i := 8) (by omega)
  show IntKind.i64.wrap ((BitVec.ofInt 64 (numP p 8 : Int) &&& ~~~ BitVec.ofInt 64 (numP q 8 : Int)).toNat : Int) = _
  have e : BitVec.ofInt 64 (numP p 8 : Int) &&& ~~~ BitVec.ofInt 64 (numP q 8 : Int) = BitVec.ofNat 64 (numP (fun i => p i && !q i) 8) := by
    rw [BitVec.ofInt_natCast, BitVec.ofInt_natCast]
    refine BitVec.eq_of_getLsbD_eq fun i hi => ?_
    rw [BitVec.getLsbD_and, BitVec.getLsbD_not, BitVec.getLsbD_ofNat, BitVec.getLsbD_ofNat, BitVec.getLsbD_ofNat, numP_testBit, numP_testBit, numP_testBit]
    by_cases h8 : i < 8
    · simp [hi, h8]
    · simp [hi, h8]
  rw [e, BitVec.toNat_ofNat, Nat.mod_eq_of_lt (by omega), wrap64_id (by omega)]

def anyM (p g : Nat → Bool) : Nat → Nat → Bool
  | 0, _ => false
  | k + 1, i => (g i && p i) || anyM p g k (i + 1)
theorem anyM_succ {p g : Nat → Bool} {k i : Nat} (h : 0 < k) : anyM p g k i = ((g i && p i) || anyM p g (k - 1) (i + 1)) := by
  cases k with
  | zero => omega
  | succ k => rfl
theorem anyM_false {p g : Nat → Bool} : ∀ {k i : Nat}, anyM p g k i = false ↔ ∀ j, i ≤ j → j < i + k → (p j && g j) = false
  | 0, i => by simp [anyM]; omega
  | k + 1, i => by
    simp only [anyM, Bool.or_eq_false_iff, anyM_false (k := k) (i := i + 1)]
    refine ⟨fun ⟨h1, h2⟩ j hj hk => ?_, fun h => ⟨by rw [Bool.and_comm]; exact h i (by omega) (by omega), fun j hj hk => h j (by omega) (by omega)⟩⟩
    by_cases e : j = i
    · subst e; rw [Bool.and_comm]; exact h1
    · exact h2 j (by omega) (by omega)
theorem anyM_and {p g : Nat → Bool} : anyM p g 8 0 = false ↔ bits .and .i64 (numP p 8 : Int) (numP g 8 : Int) = 0 := by
  rw [andP, anyM_false]
  have h := numP_zero (p := fun i => p i && g i) (k := 8)
  refine ⟨fun h1 => ?_, fun h1 => ?_⟩
  · rw [h.2 fun i hi => h1 i (by omega) (by omega)]; rfl
  · intro j _ hj; exact h.1 (by omega) j (by omega)
end Go.Proofs.YtddmclkijheicaaDoor
