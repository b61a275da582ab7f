/- Ramps and smoothing: plain facts. -/
import Derived.Test.YtpffdjleonkdoaaDw
import Derived.Test.YtpffdjleonkdoaaRm
namespace Go.Proofs.Ytpffdjleonkdoaa
open Go.RowKit
attribute [local irreducible] AW AOs AO AQ AQW thenA inBlockA postA ACalls Pure
set_option linter.unusedSimpArgs false
set_option linter.unusedVariables false
set_option linter.unusedSectionVars false

theorem nn_nan {a : Nat} (h : nn a) : fnan .f32 a = false := by
  obtain ⟨s, m, p, hd, _⟩ := fin_form h.1
  unfold fnan; rw [hd]; rfl
theorem nn_zero : nn 0 := ⟨by decide, by decide⟩
theorem nn_one : nn 1065353216 := ⟨one_fin, by decide⟩
theorem nn_eq {a b : Nat} (ha : nn a) (hb : nn b) (h : fv a = fv b) : a = b := by
  by_cases h0 : fv a = 0
  · obtain ⟨_, _, _, _, h1⟩ := nn_form ha
    obtain ⟨_, _, _, _, h2⟩ := nn_form hb
    rw [h1 h0, h2 (by omega)]
  · exact fv_inj ha.1 hb.1 h h0 (by have := ha.2; omega) (by have := hb.2; omega)
theorem add_zero32 {a : Nat} (ha : nn a) (h1 : fv a ≤ 2 ^ 160) : fadd .f32 a 0 = a := by
  obtain ⟨h2, h3⟩ := nn_add ha nn_zero (by rw [fv_zero]; omega)
  rw [fv_zero, Int.add_zero] at h3
  refine nn_eq h2 ha (Int.le_antisymm (h3.le_of ha.1 (by simp)) (h3.ge_of ha.1 (by simp)))
theorem less_le {a b : Nat} (ha : nn a) (hb : nn b) : nn (less a b) ∧ fv (less a b) ≤ fv a ∧ fv (less a b) ≤ fv b := by
  have := (less_fv ha.1 hb.1).2
  exact ⟨nn_less ha hb, by omega, by omega⟩
/-- A small number: what is meant by nearly. -/
theorem eps_fv : fin32 953267991 = true ∧ 953267991 < 2147483648 ∧ 2 ^ 135 ≤ fv 953267991 ∧ fv 953267991 ≤ 2 ^ 136 := by decide +kernel
theorem eps_nn : nn 953267991 := ⟨eps_fv.1, eps_fv.2.1⟩
section
variable {c : Nat → Nat} {p b off room : Nat} (hpb : PbOk p b) (hc : ∀ q, q < 16 → nn (c q) ∧ fv (c q) ≤ U) (ho : nn off) (ho1 : fv off ≤ U) (hr : nn room) (hr1 : fv room ≤ U)
include hpb hc
theorem flw_fv {x y : Nat} (hx : nn x) (hx1 : fv x ≤ U) (hy : nn y) (hy1 : fv y ≤ U) : nn (flwF p b x y) ∧ fv (flwF p b x y) ≤ fv (sndF p b x) ∧ fv (flwF p b x y) ≤ fv (tksF p b y) ∧ fv (flwF p b x y) ≤ fv x := by
  obtain ⟨h1, h2, h3, h4⟩ := pb_snd hpb hx hx1
  obtain ⟨h5, h6, h7, h8⟩ := pb_tks hpb hy hy1
  obtain ⟨g1, g2, g3⟩ := less_le h1 h5
  exact ⟨g1, g2, g3, Int.le_trans g2 h3⟩
include ho ho1 hr hr1
theorem fx_nn {q : Nat} (hq : q ≤ 16) : nn (fxF c p b off room q) ∧ fv (fxF c p b off room q) ≤ U := by
  unfold fxF
  by_cases h0 : q = 0
  · rw [if_pos h0]
    obtain ⟨h1, h2⟩ := hc 0 (by omega)
    obtain ⟨g1, g2, _⟩ := less_le ho (pb_tks hpb h1 h2).1
    exact ⟨g1, by omega⟩
  · rw [if_neg h0]
    by_cases h16 : q = 16
    · rw [if_pos h16]
      obtain ⟨h1, h2⟩ := hc 15 (by omega)
      obtain ⟨g1, _, g2⟩ := less_le (pb_snd hpb h1 h2).1 hr
      exact ⟨g1, by omega⟩
    · rw [if_neg h16]
      obtain ⟨h1, h2⟩ := hc (q - 1) (by omega)
      obtain ⟨h3, h4⟩ := hc q (by omega)
      obtain ⟨g1, _, _, g2⟩ := flw_fv hpb hc h1 h2 h3 h4
      exact ⟨g1, by omega⟩
theorem fx_tk {i : Nat} (hi : i < 16) : fv (fxF c p b off room i) ≤ fv (tksF p b (c i)) := by
  unfold fxF
  obtain ⟨h3, h4⟩ := hc i hi
  by_cases h0 : i = 0
  · subst h0
    rw [if_pos rfl]
    exact (less_le ho (pb_tks hpb h3 h4).1).2.2
  · rw [if_neg h0, if_neg (by omega)]
    obtain ⟨h1, h2⟩ := hc (i - 1) (by omega)
    exact (flw_fv hpb hc h1 h2 h3 h4).2.2.1
/-- What joins. -/
theorem rm_J {jn i : Nat} (hi : i < 16) (hj : nn jn) (hj1 : fv jn ≤ U) :
    fin32 (less jn (fsub .f32 (tksF p b (c i)) (fxF c p b off room i))) = true ∧ nn (rmJ (tksF p b (c i)) (fxF c p b off room i) jn) ∧ fv (rmJ (tksF p b (c i)) (fxF c p b off room i) jn) ≤ fv jn ∧
      fgt .f32 (fadd .f32 (fxF c p b off room i) (rmJ (tksF p b (c i)) (fxF c p b off room i) jn)) (fadd .f32 (tksF p b (c i)) 953267991) = false ∧ rmJ (tksF p b (c i)) (fxF c p b off room i) 0 = 0 ∧ fin32 (less 0 (fsub .f32 (tksF p b (c i)) (fxF c p b off room i))) = true := by
  obtain ⟨hci, hci1⟩ := hc i hi
  obtain ⟨h5, h6, h7, h8⟩ := pb_tks hpb hci hci1
  obtain ⟨hg, hg1⟩ := fx_nn hpb hc ho ho1 hr hr1 (show i ≤ 16 by omega)
  have htk := fx_tk hpb hc ho ho1 hr hr1 hi
  have hb1 := hpb.b1
  have hU := U_val
  generalize fxF c p b off room i = g at *
  generalize tksF p b (c i) = tk at *
  have h50 := nn_bd h5
  have hg0 := nn_bd hg
  obtain ⟨r1, r2, r3⟩ := nn_sub h5 hg (by omega) (by omega)
  have hD := r2 (by omega)
  have hn1 := r1.near (e := 126) (by decide) (by omega) (by simp; omega) (by simp; omega)
  obtain ⟨g1, g2, g3⟩ := less_le hj hD
  have hz : ∀ x, nn x → flt .f32 x 0 = false := fun x hx => by
    rw [flt_fv hx.1 nn_zero.1, fv_zero]
    exact decide_eq_false (by have := nn_bd hx; omega)
  have hJ : rmJ tk g jn = less jn (fsub .f32 tk g) := by unfold rmJ; rw [hz _ g1]; rfl
  have hJ0 : rmJ tk g 0 = 0 := by
    have e : less 0 (fsub .f32 tk g) = 0 := by unfold less; rw [hz _ hD]; rfl
    unfold rmJ
    rw [e, hz _ nn_zero]; rfl
  have hl0 : fin32 (less 0 (fsub .f32 tk g)) = true := (nn_less nn_zero hD).1
  refine ⟨g1.1, by rw [hJ]; exact g1, by rw [hJ]; exact g2, ?_, hJ0, hl0⟩
  rw [hJ]
  obtain ⟨e1, e2, e3, e4⟩ := eps_fv
  have g10 := nn_bd g1
  obtain ⟨s1, s2⟩ := nn_add hg g1 (by omega)
  have hn2 := s2.near (e := 127) (by decide) (by omega) (by simp; omega) (by simp; omega)
  obtain ⟨t1, t2⟩ := nn_add h5 eps_nn (by omega)
  have hn3 := t2.near (e := 127) (by decide) (by omega) (by simp; omega) (by simp; omega)
  rw [fgt_fv s1.1 t1.1]
  refine decide_eq_false ?_
  simp at hn1 hn2 hn3
  omega
end
theorem rm_zero {c g : Nat → Nat} {i : Nat} (hg : nn (g i)) (hg1 : fv (g i) ≤ U) : rmF c g i 0 = stF c g := funext fun q => by
  unfold rmF
  by_cases h : q = i
  · subst h
    rw [if_pos rfl, add_zero32 hg (by have := U_val; omega)]; rfl
  · rw [if_neg h]
/-! ### Smoothing -/
theorem half_fv : nn 1056964608 ∧ fv 1056964608 = 2 ^ 148 := ⟨⟨by decide +kernel, by decide⟩, by decide +kernel⟩
theorem quarter_nn : nn 1048576000 := ⟨quarter_fin, by decide⟩
theorem sm_fv {x0 x1 x2 : Int} (h0 : 0 ≤ x0 ∧ x0 ≤ 32) (h1 : 0 ≤ x1 ∧ x1 ≤ 32) (h2 : 0 ≤ x2 ∧ x2 ≤ 32) :
    nn (fadd .f32 (fadd .f32 (fmul .f32 (sh32 x0) 1048576000) (fmul .f32 (sh32 x1) 1056964608)) (fmul .f32 (sh32 x2) 1048576000)) ∧
      fv (fadd .f32 (fadd .f32 (fmul .f32 (sh32 x0) 1048576000) (fmul .f32 (sh32 x1) 1056964608)) (fmul .f32 (sh32 x2) 1048576000)) = (x0 + 2 * x1 + x2) * 2 ^ 142 := by
  obtain ⟨a0, b0⟩ := sh32_fv h0
  obtain ⟨a1, b1⟩ := sh32_fv h1
  obtain ⟨a2, b2⟩ := sh32_fv h2
  have hU := U_val
  have m0 : ∀ {x : Int}, 0 ≤ x ∧ x ≤ 32 → nn (sh32 x) → fv (sh32 x) = x * 2 ^ 144 → nn (fmul .f32 (sh32 x) 1048576000) ∧ fv (fmul .f32 (sh32 x) 1048576000) = x * 2 ^ 142 := fun {x} hx ha hb => by
    obtain ⟨g1, g2⟩ := nn_mul ha quarter_nn (by rw [hb, fv_quarter, hU]; omega)
    refine ⟨g1, g2.exact (by omega) (by omega) ?_⟩
    rw [hb, fv_quarter]
    show x * 2 ^ 144 * 2 ^ 147 = x * 2 ^ 142 * ((2 ^ 149 : Nat) : Int)
    rw [Int.mul_assoc, Int.mul_assoc]
    rfl
  have m1 : nn (fmul .f32 (sh32 x1) 1056964608) ∧ fv (fmul .f32 (sh32 x1) 1056964608) = (2 * x1) * 2 ^ 142 := by
    obtain ⟨g1, g2⟩ := nn_mul a1 half_fv.1 (by rw [b1, half_fv.2, hU]; omega)
    refine ⟨g1, g2.exact (by omega) (by omega) ?_⟩
    rw [b1, half_fv.2]
    show x1 * 2 ^ 144 * 2 ^ 148 = 2 * x1 * 2 ^ 142 * ((2 ^ 149 : Nat) : Int)
    rw [Int.mul_comm 2 x1, Int.mul_assoc, Int.mul_assoc, Int.mul_assoc]
    rfl
  obtain ⟨c0, d0⟩ := m0 h0 a0 b0
  obtain ⟨c2, d2⟩ := m0 h2 a2 b2
  obtain ⟨c1, d1⟩ := m1
  obtain ⟨e0, f0⟩ := nn_add c0 c1 (by rw [d0, d1]; omega)
  have g0 : fv (fadd .f32 (fmul .f32 (sh32 x0) 1048576000) (fmul .f32 (sh32 x1) 1056964608)) = (x0 + 2 * x1) * 2 ^ 142 := f0.exact (by omega) (by omega) (by rw [d0, d1, Int.add_mul]; simp)
  obtain ⟨e2, f2⟩ := nn_add e0 c2 (by rw [g0, d2]; omega)
  exact ⟨e2, f2.exact (by omega) (by omega) (by rw [g0, d2, ← Int.add_mul]; simp)⟩
theorem fmin_fv {a b : Nat} (ha : fin32 a = true) (hb : fin32 b = true) : fin32 (fminF .f32 a b) = true ∧ fv (fminF .f32 a b) = min (fv a) (fv b) := by
  unfold fminF
  rw [flt_fv ha hb, fgt_fv ha hb]
  by_cases h : fv a < fv b
  · rw [decide_eq_true h, if_pos rfl]; exact ⟨ha, by omega⟩
  · rw [decide_eq_false h]
    by_cases h2 : fv b < fv a
    · rw [decide_eq_true h2]; simp; exact ⟨hb, by omega⟩
    · rw [decide_eq_false h2]; simp
      split
      · exact ⟨ha, by omega⟩
      · exact ⟨hb, by omega⟩
theorem fmax_fv {a b : Nat} (ha : fin32 a = true) (hb : fin32 b = true) : fin32 (fmaxF .f32 a b) = true ∧ fv (fmaxF .f32 a b) = max (fv a) (fv b) := by
  unfold fmaxF
  rw [flt_fv ha hb, fgt_fv ha hb]
  by_cases h : fv a < fv b
  · rw [decide_eq_true h, if_pos rfl]; exact ⟨hb, by omega⟩
  · rw [decide_eq_false h]
    by_cases h2 : fv b < fv a
    · rw [decide_eq_true h2]; simp; exact ⟨ha, by omega⟩
    · rw [decide_eq_false h2]; simp
      split
      · exact ⟨hb, by omega⟩
      · exact ⟨ha, by omega⟩
theorem sm_near {x0 x1 x2 : Int} (h0 : 0 ≤ x0 ∧ x0 ≤ 32) (h1 : 0 ≤ x1 ∧ x1 ≤ 32) (h2 : 0 ≤ x2 ∧ x2 ≤ 32) {m : Nat} (hm : nn m) (hmv : fv m = (x0 + 2 * x1 + x2) * 2 ^ 142) :
    flt .f32 m (fsub .f32 (fminF .f32 (fminF .f32 (sh32 x0) (sh32 x1)) (sh32 x2)) 953267991) = false ∧ fgt .f32 m (fadd .f32 (fmaxF .f32 (fmaxF .f32 (sh32 x0) (sh32 x1)) (sh32 x2)) 953267991) = false := by
  obtain ⟨a0, b0⟩ := sh32_fv h0
  obtain ⟨a1, b1⟩ := sh32_fv h1
  obtain ⟨a2, b2⟩ := sh32_fv h2
  obtain ⟨e1, e2, e3, e4⟩ := eps_fv
  obtain ⟨l1, l2⟩ := fmin_fv a0.1 a1.1
  obtain ⟨l3, l4⟩ := fmin_fv l1 a2.1
  obtain ⟨u1, u2⟩ := fmax_fv a0.1 a1.1
  obtain ⟨u3, u4⟩ := fmax_fv u1 a2.1
  have r1 := rnd_sub' l3 e1 (by rw [l4, l2]; omega) (by rw [l4, l2]; omega)
  have r2 := rnd_add' u3 e1 (by rw [u4, u2]; omega) (by rw [u4, u2]; omega)
  have q1 := r1.le_of l3 (by simp; omega)
  have q2 := r2.ge_of u3 (by simp; omega)
  refine ⟨?_, ?_⟩
  · rw [flt_fv hm.1 r1.1]; exact decide_eq_false (by omega)
  · rw [fgt_fv hm.1 r2.1]; exact decide_eq_false (by omega)
end Go.Proofs.Ytpffdjleonkdoaa
