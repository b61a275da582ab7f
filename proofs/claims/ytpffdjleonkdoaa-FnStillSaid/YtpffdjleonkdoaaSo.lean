/- Waves between shares that are drawn: plain facts. -/
import Derived.Test.YtpffdjleonkdoaaSn
import Derived.Test.YtpffdjleonkdoaaDw
namespace Go.Proofs.Ytpffdjleonkdoaa
open Go.RowKit
attribute [local irreducible] AW AOs AO AQ AQW thenA inBlockA postA ACalls Pure
set_option linter.unusedSimpArgs false
set_option linter.unusedVariables false
set_option linter.unusedSectionVars false

theorem mul_528 : ∀ k : Fin 16, ∀ x : Fin 33, fin32 (fmul .f32 (pbw k.val) (sh32 x.val)) = true ∧ fmul .f32 (pbw k.val) (sh32 x.val) < 2147483648 ∧ fv (fmul .f32 (pbw k.val) (sh32 x.val)) = ((1 + (k.val : Int)) * (x.val : Int)) * 2 ^ 140 := by decide +kernel
theorem one_33 : ∀ x : Fin 33, fsub .f32 1065353216 (sh32 x.val) = sh32 (32 - (x.val : Int)) := by decide +kernel
theorem neg_16 : ∀ k : Fin 16, fin32 (fneg .f32 (pbw k.val)) = true ∧ fv (fneg .f32 (pbw k.val)) = -fv (pbw k.val) := by decide +kernel
theorem mul_dr {k x : Int} (hk : 0 ≤ k ∧ k < 16) (hx : 0 ≤ x ∧ x ≤ 32) : nn (fmul .f32 (pbw k) (sh32 x)) ∧ fv (fmul .f32 (pbw k) (sh32 x)) = ((1 + k) * x) * 2 ^ 140 := by
  obtain ⟨h1, h2, h3⟩ := mul_528 ⟨k.toNat, by omega⟩ ⟨x.toNat, by omega⟩
  have e : ((k.toNat : Nat) : Int) = k := Int.toNat_of_nonneg hk.1
  have e2 : ((x.toNat : Nat) : Int) = x := Int.toNat_of_nonneg hx.1
  simp only [e, e2] at h1 h2 h3
  exact ⟨⟨h1, h2⟩, h3⟩
theorem one_dr {x : Int} (hx : 0 ≤ x ∧ x ≤ 32) : fsub .f32 1065353216 (sh32 x) = sh32 (32 - x) := by
  have h := one_33 ⟨x.toNat, by omega⟩
  have e2 : ((x.toNat : Nat) : Int) = x := Int.toNat_of_nonneg hx.1
  simp only [e2] at h
  exact h
theorem neg_dr {k : Int} (hk : 0 ≤ k ∧ k < 16) : fin32 (fneg .f32 (pbw k)) = true ∧ fv (fneg .f32 (pbw k)) = -fv (pbw k) := by
  have h := neg_16 ⟨k.toNat, by omega⟩
  have e : ((k.toNat : Nat) : Int) = k := Int.toNat_of_nonneg hk.1
  simp only [e] at h
  exact h
def fW (k k' x : Int) : Int := min ((1 + k) * x) ((1 + k') * (32 - x))
section
variable {k k' : Int} (hk : 0 ≤ k ∧ k < 16) (hk' : 0 ≤ k' ∧ k' < 16)
include hk hk'
theorem pas_dr {x : Int} (hx : 0 ≤ x ∧ x ≤ 32) : nn (pasF (pbw k) (pbw k') (sh32 x)) ∧ fv (pasF (pbw k) (pbw k') (sh32 x)) = fW k k' x * 2 ^ 140 := by
  obtain ⟨a1, a2⟩ := mul_dr hk hx
  obtain ⟨b1, b2⟩ := mul_dr hk' (show 0 ≤ 32 - x ∧ 32 - x ≤ 32 by omega)
  unfold pasF fW
  rw [one_dr hx]
  refine ⟨nn_less a1 b1, ?_⟩
  rw [(less_fv a1.1 b1.1).2, a2, b2]
  generalize (1 + k) * x = u
  generalize (1 + k') * (32 - x) = v
  omega
theorem fW_bd {x : Int} (hx : 0 ≤ x ∧ x ≤ 32) : 0 ≤ fW k k' x ∧ fW k k' x ≤ 512 := by
  have e1 : (1 + k) * x ≤ 16 * 32 := Int.mul_le_mul (by omega) hx.2 hx.1 (by decide)
  have e2 : 0 ≤ (1 + k) * x := Int.mul_nonneg (by omega) hx.1
  have e3 : 0 ≤ (1 + k') * (32 - x) := Int.mul_nonneg (by omega) (by omega)
  unfold fW
  omega
theorem fW_slope {x y : Int} (hxy : x < y) : fW k k' y - fW k k' x ≤ (1 + k) * (y - x) ∧ -((1 + k') * (y - x)) ≤ fW k k' y - fW k k' x := by
  have e1 : 0 ≤ (1 + k) * (y - x) := Int.mul_nonneg (by omega) (by omega)
  have e2 : 0 ≤ (1 + k') * (y - x) := Int.mul_nonneg (by omega) (by omega)
  unfold fW
  have e3 : (1 + k') * (32 - x) = (1 + k') * (32 - y) + (1 + k') * (y - x) := by rw [← Int.mul_add]; congr 1; omega
  have e4 : (1 + k) * y = (1 + k) * x + (1 + k) * (y - x) := by rw [← Int.mul_add]; congr 1; omega
  omega
theorem wav_rnd {x y : Int} (hx : 0 ≤ x ∧ x ≤ 32) (hy : 0 ≤ y ∧ y ≤ 32) (hxy : x ≠ y) : ∃ (u : Int) (d : Nat), 0 < d ∧ Rnd (wavF (pbw k) (pbw k') (sh32 x) (sh32 y)) (u * 2 ^ 140 * 2 ^ 149) (d * 2 ^ 144) ∧ u ≤ (1 + k) * d ∧ -((1 + k') * d) ≤ u ∧ (fW k k' x = fW k k' y → u = 0) ∧
    fin32 (fsub .f32 (pasF (pbw k) (pbw k') (sh32 y)) (pasF (pbw k) (pbw k') (sh32 x))) = true ∧ fv (fsub .f32 (pasF (pbw k) (pbw k') (sh32 y)) (pasF (pbw k) (pbw k') (sh32 x))) = (fW k k' y - fW k k' x) * 2 ^ 140 ∧ fin32 (fsub .f32 (sh32 y) (sh32 x)) = true ∧ fv (fsub .f32 (sh32 y) (sh32 x)) = (y - x) * 2 ^ 144 := by
  obtain ⟨p1, p2⟩ := pas_dr hk hk' hx
  obtain ⟨q1, q2⟩ := pas_dr hk hk' hy
  obtain ⟨x1, x2⟩ := sh32_fv hx
  obtain ⟨y1, y2⟩ := sh32_fv hy
  have bx := fW_bd hk hk' hx
  have by_ := fW_bd hk hk' hy
  have rA := rnd_sub' q1.1 p1.1 (by rw [q2, p2]; omega) (by rw [q2, p2]; omega)
  have vA := rA.exact (z := fW k k' y - fW k k' x) (e := 140) (by omega) (by decide) (by rw [q2, p2, Int.sub_mul]; simp)
  have rB := rnd_sub' y1.1 x1.1 (by rw [x2, y2]; omega) (by rw [x2, y2]; omega)
  have vB := rB.exact (z := y - x) (e := 144) (by omega) (by decide) (by rw [y2, x2, Int.sub_mul]; simp)
  have hB0 : fv (fsub .f32 (sh32 y) (sh32 x)) ≠ 0 := by rw [vB]; omega
  have hm : (fv (fsub .f32 (pasF (pbw k) (pbw k') (sh32 y)) (pasF (pbw k) (pbw k') (sh32 x)))).natAbs * 2 ^ 149 ≤ FM * (fv (fsub .f32 (sh32 y) (sh32 x))).natAbs := by
    have a1 : (fv (fsub .f32 (pasF (pbw k) (pbw k') (sh32 y)) (pasF (pbw k) (pbw k') (sh32 x)))).natAbs ≤ 2 ^ 150 := by rw [vA]; omega
    have a2 : 2 ^ 144 ≤ (fv (fsub .f32 (sh32 y) (sh32 x))).natAbs := by rw [vB]; omega
    exact Nat.le_trans (Nat.mul_le_mul_right _ a1) (Nat.le_trans (by decide +kernel) (Nat.mul_le_mul_left FM a2))
  have rD := rnd_div rA.1 rB.1 hB0 hm
  have rest : fin32 (fsub .f32 (pasF (pbw k) (pbw k') (sh32 y)) (pasF (pbw k) (pbw k') (sh32 x))) = true ∧ fv (fsub .f32 (pasF (pbw k) (pbw k') (sh32 y)) (pasF (pbw k) (pbw k') (sh32 x))) = (fW k k' y - fW k k' x) * 2 ^ 140 ∧ fin32 (fsub .f32 (sh32 y) (sh32 x)) = true ∧ fv (fsub .f32 (sh32 y) (sh32 x)) = (y - x) * 2 ^ 144 := ⟨rA.1, vA, rB.1, vB⟩
  rw [vA, vB] at rD
  by_cases hlt : x < y
  · obtain ⟨s1, s2⟩ := fW_slope hk hk' hlt
    have ed : ((y - x).toNat : Int) = y - x := Int.toNat_of_nonneg (by omega)
    refine ⟨fW k k' y - fW k k' x, (y - x).toNat, by omega, ?_, by rw [ed]; exact s1, by rw [ed]; exact s2, fun h => by omega, rest⟩
    rw [if_neg (by omega)] at rD
    have en : ((y - x) * 2 ^ 144).natAbs = (y - x).toNat * 2 ^ 144 := by omega
    rw [en] at rD
    exact rD
  · obtain ⟨s1, s2⟩ := fW_slope hk hk' (show y < x by omega)
    have ed : ((x - y).toNat : Int) = x - y := Int.toNat_of_nonneg (by omega)
    refine ⟨fW k k' x - fW k k' y, (x - y).toNat, by omega, ?_, by rw [ed]; exact s1, by rw [ed]; exact s2, fun h => by omega, rest⟩
    rw [if_pos (by omega)] at rD
    have en : ((y - x) * 2 ^ 144).natAbs = (x - y).toNat * 2 ^ 144 := by omega
    rw [en] at rD
    have e2 : -((fW k k' y - fW k k' x) * 2 ^ 140 * 2 ^ 149) = (fW k k' x - fW k k' y) * 2 ^ 140 * 2 ^ 149 := by
      rw [← Int.neg_mul, ← Int.neg_mul, Int.neg_sub]
    rw [e2] at rD
    exact rD
theorem wav_bd {x y : Int} (hx : 0 ≤ x ∧ x ≤ 32) (hy : 0 ≤ y ∧ y ≤ 32) (hxy : x ≠ y) : fin32 (wavF (pbw k) (pbw k') (sh32 x) (sh32 y)) = true ∧ fv (wavF (pbw k) (pbw k') (sh32 x) (sh32 y)) ≤ fv (pbw k) ∧ -fv (pbw k') ≤ fv (wavF (pbw k) (pbw k') (sh32 x) (sh32 y)) ∧ (fW k k' x = fW k k' y → fv (wavF (pbw k) (pbw k') (sh32 x) (sh32 y)) = 0) := by
  obtain ⟨u, d, hd, r, h1, h2, h3, _⟩ := wav_rnd hk hk' hx hy hxy
  obtain ⟨p1, p2⟩ := pbw_fv hk
  obtain ⟨b1, b2⟩ := pbw_fv hk'
  obtain ⟨n1, n2⟩ := neg_dr hk'
  have ec : ((d * 2 ^ 144 : Nat) : Int) = (d : Int) * 2 ^ 144 := by rw [Int.natCast_mul]; rfl
  refine ⟨r.1, r.le_of p1.1 ?_, ?_, fun h => ?_⟩
  · rw [p2, ec]
    have e : (1 + k) * 2 ^ 145 * ((d : Int) * 2 ^ 144) = (1 + k) * d * 2 ^ 140 * 2 ^ 149 := by
      rw [Int.mul_assoc, Int.mul_assoc, Int.mul_assoc, Int.mul_left_comm (2 ^ 145) (d : Int)]; rfl
    rw [e]
    exact Int.mul_le_mul_of_nonneg_right (Int.mul_le_mul_of_nonneg_right h1 (by decide)) (by decide)
  · rw [← n2]
    refine r.ge_of n1 ?_
    rw [n2, b2, ec]
    have e : -((1 + k') * 2 ^ 145) * ((d : Int) * 2 ^ 144) = -((1 + k') * d) * 2 ^ 140 * 2 ^ 149 := by
      rw [Int.neg_mul, Int.neg_mul, Int.neg_mul, Int.mul_assoc, Int.mul_assoc, Int.mul_assoc, Int.mul_left_comm (2 ^ 145) (d : Int)]; rfl
    rw [e]
    exact Int.mul_le_mul_of_nonneg_right (Int.mul_le_mul_of_nonneg_right h2 (by decide)) (by decide)
  · have h0 := h3 h
    rw [h0] at r
    have := r.exact (z := 0) (e := 0) (by decide) (by decide) (by simp)
    simpa using this
theorem wav_eq {x y : Int} (hx : 0 ≤ x ∧ x ≤ 32) (hy : 0 ≤ y ∧ y ≤ 32) (hxy : x ≠ y) : fv (wavF (pbw k) (pbw k') (sh32 x) (sh32 y)) = fv (wavF (pbw k) (pbw k') (sh32 y) (sh32 x)) := by
  by_cases h : fW k k' x = fW k k' y
  · rw [(wav_bd hk hk' hx hy hxy).2.2.2 h, (wav_bd hk hk' hy hx (Ne.symm hxy)).2.2.2 h.symm]
  · obtain ⟨_, _, _, _, _, _, _, a1, a2, a3, a4⟩ := wav_rnd hk hk' hx hy hxy
    obtain ⟨_, _, _, _, _, _, _, b1, b2, b3, b4⟩ := wav_rnd hk hk' hy hx (Ne.symm hxy)
    unfold wavF
    rw [div_odd b1 (fsub_lt _ _) a1 (fsub_lt _ _) (by rw [a2, b2, ← Int.neg_mul, Int.neg_sub]) (by rw [b2]; omega) b3 (fsub_lt _ _) a3 (fsub_lt _ _) (by rw [a4, b4, ← Int.neg_mul, Int.neg_sub]) (by rw [b4]; omega)]
end
theorem wave_dr {c : Nat → Nat} {p b l : Nat} (hdr : RdDr c p b l) {x y : Int} (hx : 0 ≤ x ∧ x ≤ 32) (hy : 0 ≤ y ∧ y ≤ 32) (hxy : x ≠ y) :
    fin32 (wavF p b (sh32 x) (sh32 y)) = true ∧ fin32 (wavF p b (sh32 y) (sh32 x)) = true ∧ feq .f32 (wavF p b (sh32 x) (sh32 y)) (wavF p b (sh32 y) (sh32 x)) = true ∧ fle .f32 (wavF p b (sh32 x) (sh32 y)) (fadd .f32 p 981668463) = true ∧ fge .f32 (wavF p b (sh32 x) (sh32 y)) (fsub .f32 (fneg .f32 b) 981668463) = true ∧ fnan .f32 b = false := by
  obtain ⟨k, hk, rfl⟩ := hdr.pace
  obtain ⟨k', hk', rfl⟩ := hdr.back
  obtain ⟨w1, w2, w3, _⟩ := wav_bd hk hk' hx hy hxy
  have w4 := (wav_bd hk hk' hy hx (Ne.symm hxy)).1
  obtain ⟨p1, p2⟩ := pbw_fv hk
  obtain ⟨b1, b2⟩ := pbw_fv hk'
  obtain ⟨n1, n2⟩ := neg_dr hk'
  obtain ⟨e1, e2, e3⟩ := eps3_fv
  have r1 := rnd_add' p1.1 e1 (by rw [p2]; omega) (by rw [p2]; omega)
  have r2 := rnd_sub' n1 e1 (by rw [n2, b2]; omega) (by rw [n2, b2]; omega)
  have s1 := r1.ge_of p1.1 (by simp; omega)
  have s2 := r2.le_of n1 (by simp; omega)
  refine ⟨w1, w4, ?_, ?_, ?_, nn_nan b1⟩
  · rw [feq_fv w1 w4]; exact decide_eq_true (wav_eq hk hk' hx hy hxy)
  · rw [fle_fv w1 r1.1]; exact decide_eq_true (by omega)
  · rw [fge_fv w1 r2.1]; exact decide_eq_true (by omega)
theorem sh_ne {x y : Int} (hx : 0 ≤ x ∧ x ≤ 32) (hy : 0 ≤ y ∧ y ≤ 32) : feq .f32 (sh32 x) (sh32 y) = decide (x = y) := by
  obtain ⟨x1, x2⟩ := sh32_fv hx
  obtain ⟨y1, y2⟩ := sh32_fv hy
  rw [feq_fv x1.1 y1.1, x2, y2]
  by_cases h : x = y
  · rw [decide_eq_true h, h]; exact decide_eq_true rfl
  · rw [decide_eq_false h]; exact decide_eq_false (by omega)
end Go.Proofs.Ytpffdjleonkdoaa
