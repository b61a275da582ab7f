/- Roads: ramps. -/
import Derived.Test.YtgdpcomemkimhaaGreatDoorRr
import Derived.Test.YtgdpcomemkimhaaGreatDoorSt
import Derived.Test.YtgdpcomemkimhaaGreatDoorDw
import Derived.Test.YtgdpcomemkimhaaGreatDoorJn
import Derived.Test.YtgdpcomemkimhaaGreatDoorFc

namespace Go.Proofs.YtgdpcomemkimhaaGreatDoor
open Go.RowKit
attribute [local irreducible] AW AOs AO AQ AQW thenA inBlockA postA ACalls Pure
set_option linter.unusedSimpArgs false
set_option linter.unusedVariables false
set_option linter.unusedSectionVars false

section
variable {c : Nat → Nat} {p b l : Nat} (hr : RdOk c p b l) {off room jn : Nat} (ho : isAm off = true) (hro : isAm room = true) (hj : isAm jn = true) {i : Nat} (hi : i < 16)
include hr ho hro hj hi
end
end Go.Proofs.YtgdpcomemkimhaaGreatDoor

/- Ramps and smoothing: plain facts. -/
namespace Go.Proofs.YtgdpcomemkimhaaGreatDoor
open Go.RowKit
attribute [local irreducible] AW AOs AO AQ AQW thenA inBlockA postA ACalls Pure
set_option linter.unusedSimpArgs false
set_option linter.unusedVariables false
set_option linter.unusedSectionVars false

section
variable {c : Nat → Nat} {p b off room : Nat} (hpb : PbOk p b) (hc : ∀ q, q < 16 → nn (c q) ∧ fv (c q) ≤ U) (ho : nn off) (ho1 : fv off ≤ U) (hr : nn room) (hr1 : fv room ≤ U)
include hpb hc
include ho ho1 hr hr1
end
/-! ### Smoothing -/
theorem fmin_fv {a b : Nat} (ha : fin32 a = true) (hb : fin32 b = true) : fin32 (fminF .f32 a b) = true ∧ fv (fminF .f32 a b) = min (fv a) (fv b) := by
  unfold fminF
  rw [flt_fv ha hb, fgt_fv ha hb]
  by_cases h : fv a < fv b
  · rw [decide_eq_true h, if_pos rfl]; exact ⟨ha, by omega⟩
  · rw [decide_eq_false h]
    by_cases h2 : fv b < fv a
    · rw [decide_eq_true h2]; simp; exact ⟨hb, by omega⟩
    · rw [decide_eq_false h2]; simp
      split
      · exact ⟨ha, by omega⟩
      · exact ⟨hb, by omega⟩
theorem fmax_fv {a b : Nat} (ha : fin32 a = true) (hb : fin32 b = true) : fin32 (fmaxF .f32 a b) = true ∧ fv (fmaxF .f32 a b) = max (fv a) (fv b) := by
  unfold fmaxF
  rw [flt_fv ha hb, fgt_fv ha hb]
  by_cases h : fv a < fv b
  · rw [decide_eq_true h, if_pos rfl]; exact ⟨hb, by omega⟩
  · rw [decide_eq_false h]
    by_cases h2 : fv b < fv a
    · rw [decide_eq_true h2]; simp; exact ⟨ha, by omega⟩
    · rw [decide_eq_false h2]; simp
      split
      · exact ⟨hb, by omega⟩
      · exact ⟨ha, by omega⟩
end Go.Proofs.YtgdpcomemkimhaaGreatDoor

/- Roads: plain facts of mixtures, densest cells, filled roads. -/
namespace Go.Proofs.YtgdpcomemkimhaaGreatDoor
open Go.RowKit
attribute [local irreducible] AW AOs AO AQ AQW thenA inBlockA postA ACalls Pure
set_option linter.unusedSimpArgs false
set_option linter.unusedVariables false
set_option linter.unusedSectionVars false

theorem pow288 : (2 : Int) ^ 144 * 2 ^ 144 = 2 ^ 139 * 2 ^ 149 := by decide +kernel
theorem mul_grid (a r : Int) : a * 2 ^ 144 * (r * 2 ^ 144) = a * r * 2 ^ 139 * 2 ^ 149 := by
  have h := pow288
  generalize (2 : Int) ^ 144 = P at *
  generalize (2 : Int) ^ 139 = Q at *
  generalize (2 : Int) ^ 149 = R at *
  calc a * P * (r * P) = a * r * (P * P) := by ac_rfl
    _ = a * r * (Q * R) := by rw [h]
    _ = a * r * Q * R := by ac_rfl
theorem prod_bd {a r : Int} (ha : 0 ≤ a ∧ a ≤ 32) (hr : 0 ≤ r ∧ r ≤ 32) : 0 ≤ a * r ∧ a * r ≤ 1024 := by
  refine ⟨Int.mul_nonneg ha.1 hr.1, ?_⟩
  have h1 : a * r ≤ 32 * r := Int.mul_le_mul_of_nonneg_right ha.2 hr.1
  omega
/-- A product of two numbers of 32 parts. -/
theorem mul_g32 {x y : Nat} {a r : Int} (hx : nn x ∧ fv x = a * 2 ^ 144) (hy : nn y ∧ fv y = r * 2 ^ 144) (ha : 0 ≤ a ∧ a ≤ 32) (hr : 0 ≤ r ∧ r ≤ 32) : nn (fmul .f32 x y) ∧ fv (fmul .f32 x y) = a * r * 2 ^ 139 := by
  have hb := prod_bd ha hr
  have hm : fv x * fv y ≤ 2 ^ 170 * U := by
    rw [hx.2, hy.2, mul_grid]
    have h1 : a * r * 2 ^ 139 ≤ 2 ^ 170 := by omega
    have h2 := Int.mul_le_mul_of_nonneg_right h1 (show (0 : Int) ≤ 2 ^ 149 by decide +kernel)
    rw [U_val]; exact h2
  obtain ⟨h1, h2⟩ := nn_mul hx.1 hy.1 hm
  refine ⟨h1, h2.exact (z := a * r) (e := 139) (by omega) (by decide) ?_⟩
  rw [hx.2, hy.2, mul_grid]; rfl
section
variable {c c2 : Nat → Nat} {p b l p2 b2 l2 : Nat}
theorem rest_sh {k : Int} (hk : 0 ≤ k ∧ k ≤ 32) : nn (fsub .f32 1065353216 (sh32 k)) ∧ fv (fsub .f32 1065353216 (sh32 k)) = (32 - k) * 2 ^ 144 := by
  obtain ⟨h1, h2⟩ := sh32_fv hk
  have hU := U_val
  have h32 : nn 1065353216 := ⟨by decide +kernel, by decide⟩
  obtain ⟨g1, g2, _⟩ := nn_sub h32 h1 (by rw [fv_one]; omega) (by rw [h2]; omega)
  refine ⟨g2 (by rw [fv_one, h2]; omega), g1.exact (z := 32 - k) (e := 144) (by omega) (by decide) ?_⟩
  rw [fv_one, h2]; omega
theorem mix_fv (hr : RdDr c p b l) (hr2 : RdDr c2 p2 b2 l2) {k : Int} (hk : 0 ≤ k ∧ k ≤ 32) {q : Nat} (hq : q < 16) :
    fin32 (mixF c c2 (sh32 k) q) = true ∧ min (fv (c q)) (fv (c2 q)) ≤ fv (mixF c c2 (sh32 k) q) ∧ fv (mixF c c2 (sh32 k) q) ≤ max (fv (c q)) (fv (c2 q)) := by
  obtain ⟨a, ha, ea⟩ := hr.cars q hq
  obtain ⟨d, hd, ed⟩ := hr2.cars q hq
  have fa := sh32_fv ha
  have fd := sh32_fv hd
  have fk := sh32_fv hk
  have fr := rest_sh hk
  obtain ⟨m1, v1⟩ := mul_g32 fa fr ha (show 0 ≤ 32 - k ∧ 32 - k ≤ 32 by omega)
  obtain ⟨m2, v2⟩ := mul_g32 fd fk hd hk
  have b1 := prod_bd ha (show 0 ≤ 32 - k ∧ 32 - k ≤ 32 by omega)
  have b2 := prod_bd hd hk
  -- between the two
  have lo : min a d * 32 ≤ a * (32 - k) + d * k := by
    have e1 : min a d * (32 - k) ≤ a * (32 - k) := Int.mul_le_mul_of_nonneg_right (by omega) (by omega)
    have e2 : min a d * k ≤ d * k := Int.mul_le_mul_of_nonneg_right (by omega) (by omega)
    have e3 : min a d * (32 - k) = min a d * 32 - min a d * k := Int.mul_sub _ _ _
    omega
  have hi : a * (32 - k) + d * k ≤ max a d * 32 := by
    have e1 : a * (32 - k) ≤ max a d * (32 - k) := Int.mul_le_mul_of_nonneg_right (by omega) (by omega)
    have e2 : d * k ≤ max a d * k := Int.mul_le_mul_of_nonneg_right (by omega) (by omega)
    have e3 : max a d * (32 - k) = max a d * 32 - max a d * k := Int.mul_sub _ _ _
    omega
  unfold mixF
  rw [ea, ed]
  generalize fmul .f32 (sh32 a) (fsub .f32 1065353216 (sh32 k)) = x1 at *
  generalize fmul .f32 (sh32 d) (sh32 k) = x2 at *
  generalize a * (32 - k) = A at *
  generalize d * k = D at *
  obtain ⟨s1, s2⟩ := nn_add m1 m2 (by omega)
  have s3 := s2.exact (z := A + D) (e := 139) (by omega) (by decide) (by rw [v1, v2]; omega)
  have h1 : fin32 1065353216 = true := by decide +kernel
  obtain ⟨l1, l2⟩ := less_fv s1.1 h1
  have hU := U_val
  refine ⟨l1, ?_, ?_⟩
  · rw [l2, s3, fv_one, fa.2, fd.2]; omega
  · rw [l2, s3, fv_one, fa.2, fd.2]; omega
theorem del_fv : fin32 953267991 = true ∧ 0 ≤ fv 953267991 ∧ fv 953267991 ≤ 2 ^ 149 := by decide +kernel
theorem due_lo (hr : RdDr c p b l) (hr2 : RdDr c2 p2 b2 l2) {k : Int} (hk : 0 ≤ k ∧ k ≤ 32) {q : Nat} (hq : q < 16) : flt .f32 (mixF c c2 (sh32 k) q) (fsub .f32 (fminF .f32 (c q) (c2 q)) 953267991) = false := by
  obtain ⟨h1, h2, h3⟩ := mix_fv hr hr2 hk hq
  have g1 := hr.car hq
  have g2 := hr2.car hq
  have n1 := nn_bd g1.1
  have n2 := nn_bd g2.1
  have hU := U_val
  obtain ⟨w1, w2⟩ := fmin_fv g1.1.1 g2.1.1
  obtain ⟨d1, d2, d3⟩ := del_fv
  have r := rnd_sub' w1 d1 (by rw [w2]; omega) (by rw [w2]; omega)
  have r2 := r.le_of w1 (by simp; omega)
  rw [flt_fv h1 r.1]
  exact decide_eq_false (by omega)
theorem due_hi (hr : RdDr c p b l) (hr2 : RdDr c2 p2 b2 l2) {k : Int} (hk : 0 ≤ k ∧ k ≤ 32) {q : Nat} (hq : q < 16) : fgt .f32 (mixF c c2 (sh32 k) q) (fadd .f32 (fmaxF .f32 (c q) (c2 q)) 953267991) = false := by
  obtain ⟨h1, h2, h3⟩ := mix_fv hr hr2 hk hq
  have g1 := hr.car hq
  have g2 := hr2.car hq
  have n1 := nn_bd g1.1
  have n2 := nn_bd g2.1
  have hU := U_val
  obtain ⟨w1, w2⟩ := fmax_fv g1.1.1 g2.1.1
  obtain ⟨d1, d2, d3⟩ := del_fv
  have r := rnd_add' w1 d1 (by rw [w2]; omega) (by rw [w2]; omega)
  have r2 := r.ge_of w1 (by simp; omega)
  rw [fgt_fv h1 r.1]
  exact decide_eq_false (by omega)
/-! ### The densest cell -/
theorem dnK_fv (hc : ∀ q, q < 16 → fin32 (c q) = true) : ∀ i, i ≤ 16 → (∀ j, j < i → fv (c j) ≤ fv (c (dnK c i))) ∧ ∀ j, j < dnK c i → fv (c j) < fv (c (dnK c i))
  | 0, _ => ⟨fun j hj => by omega, fun j hj => by simp [dnK] at hj⟩
  | i + 1, hi => by
    obtain ⟨h1, h2⟩ := dnK_fv hc i (by omega)
    have hl := dnK_le c i
    by_cases hi0 : i = 0
    · subst hi0
      have e : dnK c 1 = 0 := by show (if _ then 0 else 0) = 0; simp
      rw [e]
      exact ⟨fun j hj => by obtain rfl : j = 0 := by omega
                            exact Int.le_refl _, fun j hj => by omega⟩
    · have hl2 := dnK_lt c i (by omega)
      have hg := fgt_fv (hc i (by omega)) (hc (dnK c i) (by omega))
      simp only [dnK]
      by_cases h : fv (c (dnK c i)) < fv (c i)
      · rw [decide_eq_true h] at hg
        rw [if_pos hg]
        refine ⟨fun j hj => ?_, fun j hj => ?_⟩
        · by_cases e : j = i
          · subst e; exact Int.le_refl _
          · have := h1 j (by omega); omega
        · have := h1 j hj; omega
      · rw [decide_eq_false h] at hg
        rw [if_neg (by rw [hg]; simp)]
        refine ⟨fun j hj => ?_, h2⟩
        by_cases e : j = i
        · subst e; omega
        · exact h1 j (by omega)
theorem dn_gt (hr : RdDr c p b l) {i : Nat} (hi : i < 16) : fgt .f32 (c i) (c (dnK c 16)) = false := by
  have hd := dnK_lt c 16 (by omega)
  have h := (dnK_fv (fun q hq => (hr.car hq).1.1) 16 (by omega)).1 i hi
  rw [fgt_fv (hr.car hi).1.1 (hr.car hd).1.1]
  exact decide_eq_false (by omega)
theorem dn_eq (hr : RdDr c p b l) {i : Nat} (hi : i < dnK c 16) : feq .f32 (c i) (c (dnK c 16)) = false := by
  have hd := dnK_lt c 16 (by omega)
  have h := (dnK_fv (fun q hq => (hr.car hq).1.1) 16 (by omega)).2 i hi
  rw [feq_fv (hr.car (show i < 16 by omega)).1.1 (hr.car hd).1.1]
  exact decide_eq_false (by omega)
/-! ### Filled roads -/
theorem fill_sum : ∀ k : Fin 33, sumG (fun _ => sh32 k.val) 15 = fmul .f32 1098907648 (sh32 k.val) := by decide +kernel
theorem fill_near : ∀ (k : Fin 33) (m : Fin 12), fle .f32 (fsub .f32 (fmul .f32 (fmul .f32 1098907648 (sh32 k.val)) (lnw m.val)) (fmul .f32 (fmul .f32 1098907648 (sh32 k.val)) (lnw m.val))) 981668463 = true := by decide +kernel
theorem none_cars : sumG (fun _ => 0) 15 = 0 := by decide +kernel
theorem none_mul : ∀ m : Fin 12, fmul .f32 0 (lnw m.val) = 0 := by decide +kernel
theorem carsF_fill {k m : Int} (hk : 0 ≤ k ∧ k ≤ 32) (hm : 0 ≤ m ∧ m < 12) : carsF (fun _ => sh32 k) (lnw m) = fmul .f32 (fmul .f32 1098907648 (sh32 k)) (lnw m) ∧
    fle .f32 (fsub .f32 (fmul .f32 (fmul .f32 1098907648 (sh32 k)) (lnw m)) (fmul .f32 (fmul .f32 1098907648 (sh32 k)) (lnw m))) 981668463 = true := by
  have h1 := fill_sum ⟨k.toNat, by omega⟩
  have h2 := fill_near ⟨k.toNat, by omega⟩ ⟨m.toNat, by omega⟩
  have e : ((k.toNat : Nat) : Int) = k := Int.toNat_of_nonneg hk.1
  have e' : ((m.toNat : Nat) : Int) = m := Int.toNat_of_nonneg hm.1
  simp only [e, e'] at h1 h2
  exact ⟨by unfold carsF; rw [h1], h2⟩
theorem carsF_none {m : Int} (hm : 0 ≤ m ∧ m < 12) : carsF (fun _ => 0) (lnw m) = 0 := by
  have h2 := none_mul ⟨m.toNat, by omega⟩
  have e' : ((m.toNat : Nat) : Int) = m := Int.toNat_of_nonneg hm.1
  simp only [e'] at h2
  unfold carsF
  rw [none_cars, h2]
end
end Go.Proofs.YtgdpcomemkimhaaGreatDoor
