/- Steps of roads: plain facts. -/
import Derived.Test.YtpffdjleonkdoaaRp
import Derived.Test.YtpffdjleonkdoaaSt
namespace Go.Proofs.Ytpffdjleonkdoaa
open Go.RowKit
attribute [local irreducible] AW AOs AO AQ AQW thenA inBlockA postA ACalls Pure
set_option linter.unusedSimpArgs false
set_option linter.unusedVariables false
set_option linter.unusedSectionVars false

/-- Cells that hold shares. -/
def CrOk (c : Nat → Nat) : Prop := ∀ q, q < 16 → nn (c q) ∧ fv (c q) ≤ U
theorem stp_cell {x g g' : Nat} (hx : nn x ∧ fv x ≤ U) (hg : nn g ∧ fv g ≤ U) (hg' : nn g' ∧ fv g' ≤ U) :
    fin32 (fsub .f32 (fadd .f32 x g) g') = true ∧ nn (heldF (fsub .f32 (fadd .f32 x g) g')) ∧ fv (heldF (fsub .f32 (fadd .f32 x g) g')) = max 0 (min (fv (fsub .f32 (fadd .f32 x g) g')) U) ∧
      fv (fsub .f32 (fadd .f32 x g) g') ≤ fv x + fv g - fv g' + 2 ^ 127 ∧ fv x + fv g - fv g' ≤ fv (fsub .f32 (fadd .f32 x g) g') + 2 ^ 127 := by
  have hU := U_val
  have x0 := nn_bd hx.1
  have g0 := nn_bd hg.1
  have g0' := nn_bd hg'.1
  obtain ⟨s1, s2⟩ := nn_add hx.1 hg.1 (by omega)
  have s3 := s2.le (z := 2) (e := 149) (by decide) (by decide) (by simp; omega)
  have s4 := s2.near (e := 126) (by decide) (by decide) (by simp; omega) (by simp; omega)
  have s0 := nn_bd s1
  obtain ⟨r1, r2, r3⟩ := nn_sub s1 hg'.1 (by omega) (by omega)
  have r4 := r1.near (e := 126) (by decide) (by decide) (by simp; omega) (by simp; omega)
  simp at s4 r4
  exact ⟨r1.1, nn_held r1.1 r3, (held_fv r1.1).2, by omega, by omega⟩
section
variable {c : Nat → Nat} {p b : Nat} (hpb : PbOk p b)
include hpb
theorem st_ok {off room : Nat} (hc : CrOk c) (ho : nn off ∧ fv off ≤ U) (hr : nn room ∧ fv room ≤ U) : CrOk (stF c (fxF c p b off room)) := fun q hq => by
  have h1 := fx_nn hpb hc ho.1 ho.2 hr.1 hr.2 (show q ≤ 16 by omega)
  have h2 := fx_nn hpb hc ho.1 ho.2 hr.1 hr.2 (show q + 1 ≤ 16 by omega)
  obtain ⟨_, h3, h4, _⟩ := stp_cell (hc q hq) h1 h2
  have hU := U_val
  refine ⟨h3, ?_⟩
  show fv (heldF _) ≤ U
  rw [h4]; omega
variable {oo rr : Nat → Nat} (ho : ∀ k, nn (oo k) ∧ fv (oo k) ≤ U) (hr : ∀ k, nn (rr k) ∧ fv (rr k) ≤ U)
include ho hr
theorem it_ok (hc : CrOk c) : ∀ k, CrOk (rdIt c p b oo rr k)
  | 0 => hc
  | k + 1 => st_ok hpb (it_ok hc k) (ho k) (hr k)
theorem it_fx (hc : CrOk c) {k e : Nat} (he : e ≤ 16) : nn (fxF (rdIt c p b oo rr k) p b (oo k) (rr k) e) ∧ fv (fxF (rdIt c p b oo rr k) p b (oo k) (rr k) e) ≤ U :=
  fx_nn hpb (it_ok hpb ho hr hc k) (ho k).1 (ho k).2 (hr k).1 (hr k).2 he
theorem sum_ok (hc : CrOk c) {e : Nat} (he : e ≤ 16) : ∀ k, k ≤ 1000 → nn (sumIt c p b oo rr e k) ∧ fv (sumIt c p b oo rr e k) ≤ k * 2 ^ 149
  | 0, _ => ⟨nn_zero, by show fv 0 ≤ _; rw [fv_zero]; omega⟩
  | k + 1, hk => by
    obtain ⟨h1, h2⟩ := sum_ok hc he k (by omega)
    obtain ⟨h3, h4⟩ := it_fx hpb ho hr hc (k := k) he
    have hU := U_val
    obtain ⟨s1, s2⟩ := nn_add h1 h3 (by omega)
    have s3 := s2.le (z := ((k + 1 : Nat) : Int)) (e := 149) (by omega) (by decide) (by simp; omega)
    exact ⟨s1, s3⟩
theorem sum_up (hc : CrOk c) {e : Nat} (he : e ≤ 16) {k : Nat} (hk : k < 1000) : fv (sumIt c p b oo rr e k) ≤ fv (sumIt c p b oo rr e (k + 1)) := by
  obtain ⟨h1, h2⟩ := sum_ok hpb ho hr hc he k (by omega)
  obtain ⟨h3, h4⟩ := it_fx hpb ho hr hc (k := k) he
  have hU := U_val
  obtain ⟨s1, s2⟩ := nn_add h1 h3 (by omega)
  have := nn_bd h3
  exact s2.ge_of h1.1 (by simp; omega)
theorem sum_mono (hc : CrOk c) {e : Nat} (he : e ≤ 16) {n : Nat} : ∀ m, n + m ≤ 1000 → fv (sumIt c p b oo rr e n) ≤ fv (sumIt c p b oo rr e (n + m))
  | 0, _ => Int.le_refl _
  | m + 1, h => Int.le_trans (sum_mono hc he m (by omega)) (sum_up hpb ho hr hc he (by omega))
end
theorem it_add {c : Nat → Nat} {p b off room n : Nat} : ∀ m, rdIt (rdIt c p b (fun _ => off) (fun _ => room) n) p b (fun _ => off) (fun _ => room) m = rdIt c p b (fun _ => off) (fun _ => room) (n + m)
  | 0 => rfl
  | m + 1 => by
    show stF _ _ = stF _ _
    rw [it_add m]; rfl
theorem cr_road {c c' : Nat → Nat} {p b l : Nat} (hr : RdOk c p b l) (hc : CrOk c') : RdOk c' p b l :=
  { cars := fun q hq => nn_sh (hc q hq).1 (hc q hq).2, pace := hr.pace, back := hr.back, paceL := hr.paceL, backL := hr.backL, lanes := hr.lanes, lanesL := hr.lanesL, lanesH := hr.lanesH }

/-! ### What is on a road -/
def sumF (f : Nat → Nat) : Nat → Nat
  | 0 => 0
  | i + 1 => fadd .f32 (sumF f i) (f i)
def sumX (f : Nat → Nat) : Nat → Int
  | 0 => 0
  | i + 1 => sumX f i + fv (f i)
theorem sumF_near {f : Nat → Nat} (hf : CrOk f) : ∀ i, i ≤ 16 → nn (sumF f i) ∧ fv (sumF f i) ≤ i * 2 ^ 149 ∧ fv (sumF f i) ≤ sumX f i + i * 2 ^ 129 ∧ sumX f i ≤ fv (sumF f i) + i * 2 ^ 129
  | 0, _ => ⟨nn_zero, by show fv 0 ≤ _; rw [fv_zero]; omega, by show fv 0 ≤ 0 + _; rw [fv_zero]; omega, by show 0 ≤ fv 0 + _; rw [fv_zero]; omega⟩
  | i + 1, hi => by
    obtain ⟨h1, h2, h3, h4⟩ := sumF_near hf i (by omega)
    obtain ⟨g1, g2⟩ := hf i (by omega)
    have hU := U_val
    have h0 := nn_bd h1
    have g0 := nn_bd g1
    obtain ⟨s1, s2⟩ := nn_add h1 g1 (by omega)
    have s3 := s2.le (z := ((i + 1 : Nat) : Int)) (e := 149) (by omega) (by decide) (by simp; omega)
    have s4 := s2.near (e := 129) (by decide) (by decide) (by simp; omega) (by simp; omega)
    simp at s4
    have e1 : sumX f (i + 1) = sumX f i + fv (f i) := rfl
    refine ⟨s1, s3, ?_, ?_⟩
    · rw [e1]; show fv (fadd .f32 (sumF f i) (f i)) ≤ _; omega
    · rw [e1]; show _ ≤ fv (fadd .f32 (sumF f i) (f i)) + _; omega
/-- A share was held at its ends. -/
def whF (c g : Nat → Nat) (q : Nat) : Nat := fsub .f32 (fadd .f32 (c q) (g q)) (g (q + 1))
def heldK (w : Nat → Nat) : Nat → Bool
  | 0 => false
  | i + 1 => heldK w i || (flt .f32 (w i) 0 || fgt .f32 (w i) 1065353216)
theorem heldK_no {w : Nat → Nat} : ∀ {i : Nat}, heldK w i = false → ∀ q, q < i → flt .f32 (w q) 0 = false ∧ fgt .f32 (w q) 1065353216 = false
  | 0, _, q, h => absurd h (Nat.not_lt_zero q)
  | i + 1, h, q, hq => by
    unfold heldK at h
    simp only [Bool.or_eq_false_iff] at h
    by_cases e : q = i
    · subst e; exact h.2
    · exact heldK_no h.1 q (by omega)
theorem flow_sum {c g : Nat → Nat} (hc : CrOk c) (hg : ∀ q, q ≤ 16 → nn (g q) ∧ fv (g q) ≤ U) : ∀ i, i ≤ 16 → heldK (whF c g) i = false →
    sumX (stF c g) i ≤ sumX c i + fv (g 0) - fv (g i) + i * 2 ^ 127 ∧ sumX c i + fv (g 0) - fv (g i) ≤ sumX (stF c g) i + i * 2 ^ 127
  | 0, _, _ => by show (0 : Int) ≤ 0 + fv (g 0) - fv (g 0) + _ ∧ 0 + fv (g 0) - fv (g 0) ≤ 0 + _; omega
  | i + 1, hi, hh => by
    have hk := heldK_no hh i (by omega)
    have hh' : heldK (whF c g) i = false := by
      unfold heldK at hh
      simp only [Bool.or_eq_false_iff] at hh
      exact hh.1
    obtain ⟨h1, h2⟩ := flow_sum hc hg i (by omega) hh'
    obtain ⟨s1, s2, s3, s4, s5⟩ := stp_cell (hc i (by omega)) (hg i (by omega)) (hg (i + 1) (by omega))
    have e1 : sumX (stF c g) (i + 1) = sumX (stF c g) i + fv (heldF (fsub .f32 (fadd .f32 (c i) (g i)) (g (i + 1)))) := rfl
    have e2 : sumX c (i + 1) = sumX c i + fv (c i) := rfl
    unfold whF at hk
    rw [flt_fv s1 nn_zero.1, fgt_fv s1 one_fin, fv_zero, fv_one, decide_eq_false_iff_not, decide_eq_false_iff_not] at hk
    rw [e1, e2, s3]
    have hU := U_val
    omega
theorem flow_near {c g : Nat → Nat} (hc : CrOk c) (hg : ∀ q, q ≤ 16 → nn (g q) ∧ fv (g q) ≤ U) (hs : CrOk (stF c g)) (hh : heldK (whF c g) 16 = false) :
    fle .f32 (fsub .f32 (sumF (stF c g) 16) (fsub .f32 (fadd .f32 (sumF c 16) (g 0)) (g 16))) 953267991 = true ∧ fle .f32 (fsub .f32 (fsub .f32 (fadd .f32 (sumF c 16) (g 0)) (g 16)) (sumF (stF c g) 16)) 953267991 = true := by
  obtain ⟨a1, a2, a3, a4⟩ := sumF_near hs 16 (by omega)
  obtain ⟨b1, b2, b3, b4⟩ := sumF_near hc 16 (by omega)
  obtain ⟨f1, f2⟩ := flow_sum hc hg 16 (by omega) hh
  obtain ⟨g0, g0'⟩ := hg 0 (by omega)
  obtain ⟨g16, g16'⟩ := hg 16 (by omega)
  obtain ⟨e1, e2, e3, e4⟩ := eps_fv
  have hU := U_val
  have z0 := nn_bd g0
  have z16 := nn_bd g16
  have za := nn_bd a1
  have zb := nn_bd b1
  obtain ⟨s1, s2⟩ := nn_add b1 g0 (by omega)
  have s3 := s2.near (e := 130) (by decide) (by decide) (by simp; omega) (by simp; omega)
  simp at s3
  have zs := nn_bd s1
  have r1 := rnd_sub' s1.1 g16.1 (by omega) (by omega)
  have r2 := r1.near (e := 130) (by decide) (by decide) (by simp; omega) (by simp; omega)
  simp at r2
  have t1 := rnd_sub' a1.1 r1.1 (by omega) (by omega)
  have t2 := rnd_sub' r1.1 a1.1 (by omega) (by omega)
  have q1 := t1.le_of e1 (by simp; omega)
  have q2 := t2.le_of e1 (by simp; omega)
  rw [fle_fv t1.1 e1, fle_fv t2.1 e1]
  exact ⟨decide_eq_true q1, decide_eq_true q2⟩
end Go.Proofs.Ytpffdjleonkdoaa
