/- Delays on roads: plain facts. -/
import Derived.Test.YtpffdjleonkdoaaSq
import Derived.Test.YtpffdjleonkdoaaCs
namespace Go.Proofs.Ytpffdjleonkdoaa
open Go.RowKit
attribute [local irreducible] AW AOs AO AQ AQW thenA inBlockA postA ACalls Pure
set_option linter.unusedSimpArgs false
set_option linter.unusedVariables false
set_option linter.unusedSectionVars false

theorem untR_ok {Q : Nat → Bool} : ∀ k i, (∃ n : Nat, untR Q k i = ((n : Int), 0) ∧ i ≤ n ∧ n < i + k ∧ Q n = true ∧ (i < n → Q (n - 1) = false)) ∨ untR Q k i = (0, 7)
  | 0, _ => .inr rfl
  | k + 1, i => by
    unfold untR
    cases hq : Q i
    · rw [if_neg (by decide)]
      rcases untR_ok (Q := Q) k (i + 1) with ⟨n, h1, h2, h3, h4, h5⟩ | h
      · refine .inl ⟨n, h1, by omega, by omega, h4, fun _ => ?_⟩
        by_cases e : n = i + 1
        · subst e; exact hq
        · exact h5 (by omega)
      · exact .inr h
    · rw [if_pos rfl]
      exact .inl ⟨i, rfl, Nat.le_refl _, by omega, hq, fun h => absurd h (by omega)⟩
section
variable {c : Nat → Nat} {p b off room : Nat} (hpb : PbOk p b) (hp : 2 ^ 145 ≤ fv p)
include hpb
theorem fx_le (hc : CrOk c) (ho : nn off ∧ fv off ≤ U) (hr : nn room ∧ fv room ≤ U) {q : Nat} (hq : q < 16) : fv (fxF c p b off room (q + 1)) ≤ fv (fmul .f32 p (c q)) := by
  obtain ⟨x1, x2⟩ := hc q hq
  have hs := (pb_snd hpb x1 x2).2.1
  unfold fxF
  rw [if_neg (by omega)]
  by_cases h : q + 1 = 16
  · obtain rfl : q = 15 := by omega
    rw [if_pos rfl]
    have := (less_le (pb_snd hpb x1 x2).1 hr.1).2.1
    omega
  · rw [if_neg h]
    obtain ⟨y1, y2⟩ := hc (q + 1) (by omega)
    have := (flw_fv hpb hc x1 x2 y1 y2).2.1
    show fv (flwF p b (c q) (c (q + 1))) ≤ _
    omega
include hp
theorem kp_bd (hc : CrOk c) (ho : nn off ∧ fv off ≤ U) (hr : nn room ∧ fv room ≤ U) {q : Nat} (hq : q < 16) :
    fin32 (kpF c (fxF c p b off room) p q) = true ∧ -(5 * 2 ^ 127) ≤ fv (kpF c (fxF c p b off room) p q) ∧ fv (kpF c (fxF c p b off room) p q) ≤ 2 ^ 149 := by
  have hU := U_val
  obtain ⟨x1, x2⟩ := hc q hq
  obtain ⟨g1, g2⟩ := fx_nn hpb hc ho.1 ho.2 hr.1 hr.2 (show q + 1 ≤ 16 by omega)
  have g3 := fx_le hpb hc ho hr hq
  unfold kpF
  generalize fxF c p b off room (q + 1) = g at *
  generalize c q = x at *
  obtain ⟨m1, m2, m3, m4⟩ := mul_sh hpb hpb.pn hpb.p1 x1 x2
  have hp1 := hpb.p1
  have hp0 := nn_bd hpb.pn
  have hx0 := nn_bd x1
  have hg0 := nn_bd g1
  have e1 : fv p * fv x ≤ U * U := Int.mul_le_mul hp1 x2 hx0 (by decide)
  have e0 : 0 ≤ fv p * fv x := Int.mul_nonneg hp0 hx0
  have n1 := (m2.near (by decide) (e := 125) (by decide) (by
    refine Int.le_trans e1 ?_
    rw [hU]; decide) (by
    refine Int.le_trans ?_ e0
    decide)).1
  have e2 := Int.mul_le_mul_of_nonneg_right g3 (show (0 : Int) ≤ U by decide)
  have e3 : (2 : Int) ^ 125 * ((2 ^ 149 : Nat) : Int) ≤ fv p * 2 ^ 129 := by
    refine Int.le_trans ?_ (Int.mul_le_mul_of_nonneg_right hp (by decide))
    decide
  have eU : ((2 ^ 149 : Nat) : Int) = U := rfl
  have hGU : fv g * U ≤ fv p * (fv x + 2 ^ 129) := by
    rw [Int.mul_add]
    rw [eU] at n1 e3
    omega
  have hG0 : 0 ≤ fv g * U := Int.mul_nonneg hg0 (by decide)
  have hq1 : fv p * (fv x + 2 ^ 129) ≤ fv p * 2 ^ 150 := Int.mul_le_mul_of_nonneg_left (by omega) hp0
  have hq2 : fv p * 2 ^ 150 ≤ fv p * 2 ^ 170 := Int.mul_le_mul_of_nonneg_left (by decide) hp0
  obtain ⟨d1, d2⟩ := nn_div g1 hpb.pn (by omega) (by rw [Int.mul_comm (2 ^ 170)]; omega)
  have hPn : (((fv p).natAbs : Nat) : Int) = fv p := Int.natAbs_of_nonneg hp0
  have n2 := (d2.near (by omega) (e := 126) (by decide) (by
    rw [hPn, Int.mul_comm _ (fv p)]
    refine Int.le_trans hGU (Int.le_trans hq1 ?_)
    exact Int.mul_le_mul_of_nonneg_left (by decide) hp0) (by
    refine Int.le_trans ?_ hG0
    rw [hPn]
    exact Int.neg_nonpos_of_nonneg (Int.mul_nonneg (by decide) hp0))).1
  rw [hPn, Int.mul_comm _ (fv p), Int.mul_comm _ (fv p)] at n2
  have n3 : fv p * fv (fdiv .f32 g p) ≤ fv p * (fv x + 2 ^ 129 + 2 ^ 126) := by
    rw [Int.mul_add]; omega
  have n4 := Int.le_of_mul_le_mul_left n3 (by omega)
  have d0 := nn_bd d1
  obtain ⟨r1, r2, r3⟩ := nn_sub x1 d1 (by omega) (by omega)
  refine ⟨r1.1, ?_, ?_⟩
  · have := r1.ge (z := -5) (e := 127) (by decide) (by decide) (by simp; omega)
    omega
  · have := r1.le_of x1.1 (by simp; omega)
    omega
omit hpb hp in
theorem sumG_bd {f : Nat → Nat} (hf : ∀ q, q < 16 → fin32 (f q) = true ∧ -(5 * 2 ^ 127) ≤ fv (f q) ∧ fv (f q) ≤ 2 ^ 149) : ∀ i, i < 16 → fin32 (sumG f i) = true ∧ -(5 * ((i : Int) + 1)) * 2 ^ 127 ≤ fv (sumG f i) ∧ fv (sumG f i) ≤ ((i : Int) + 1) * 2 ^ 149
  | 0, h => by
    obtain ⟨h1, h2, h3⟩ := hf 0 h
    refine ⟨h1, ?_, ?_⟩
    · show _ ≤ fv (f 0); simp; omega
    · show fv (f 0) ≤ _; simp; omega
  | i + 1, h => by
    obtain ⟨h1, h2, h3⟩ := sumG_bd hf i (by omega)
    obtain ⟨g1, g2, g3⟩ := hf (i + 1) h
    have r := rnd_add' h1 g1 (by omega) (by omega)
    have ra := r.ge (z := -(5 * (((i + 1 : Nat) : Int) + 1))) (e := 127) (by omega) (by decide) (by simp; omega)
    have rb := r.le (z := ((i + 1 : Nat) : Int) + 1) (e := 149) (by omega) (by decide) (by simp; omega)
    exact ⟨r.1, ra, rb⟩
theorem dl_bd (hc : CrOk c) (ho : nn off ∧ fv off ≤ U) (hr : nn room ∧ fv room ≤ U) : ∀ k : Nat, k ≤ 8 → fin32 (dlS c p b off room k) = true ∧ -(80 * (k : Int)) * 2 ^ 127 ≤ fv (dlS c p b off room k) ∧ fv (dlS c p b off room k) ≤ (16 * (k : Int)) * 2 ^ 149
  | 0, _ => ⟨by show fin32 0 = true; decide, by show _ ≤ fv 0; rw [fv_zero]; decide, by show fv 0 ≤ _; rw [fv_zero]; decide⟩
  | k + 1, h => by
    obtain ⟨h1, h2, h3⟩ := dl_bd hc ho hr k (by omega)
    obtain ⟨g1, g2, g3⟩ := sumG_bd (f := kpF (rdIt c p b (fun _ => off) (fun _ => room) k) (fxF (rdIt c p b (fun _ => off) (fun _ => room) k) p b off room) p) (fun q hq => kp_bd hpb hp (it_ok hpb (fun _ => ho) (fun _ => hr) hc k) ho hr hq) 15 (by omega)
    have r := rnd_add' h1 g1 (by omega) (by omega)
    have ra := r.ge (z := -(80 * ((k + 1 : Nat) : Int))) (e := 127) (by omega) (by decide) (by simp; omega)
    have rb := r.le (z := 16 * ((k + 1 : Nat) : Int)) (e := 149) (by omega) (by decide) (by simp; omega)
    exact ⟨r.1, ra, rb⟩
omit hpb hp in
theorem late_lim : fin32 3129152111 = true ∧ fv 3129152111 ≤ -1200 * 2 ^ 127 := by decide +kernel
theorem dl_late {l : Nat} (hc : CrOk c) (ho : nn off ∧ fv off ≤ U) (hr : nn room ∧ fv room ≤ U) (hl : nn l) (hl1 : fv l ≤ 3 * 2 ^ 149) :
    fin32 (fmul .f32 (dlS c p b off room 5) l) = true ∧ fge .f32 (fmul .f32 (dlS c p b off room 5) l) 3129152111 = true := by
  obtain ⟨h1, h2, h3⟩ := dl_bd hpb hp hc ho hr 5 (by omega)
  have l0 := nn_bd hl
  have hU := U_val
  have ea : -400 * 2 ^ 127 * fv l ≤ fv (dlS c p b off room 5) * fv l := Int.mul_le_mul_of_nonneg_right (by simpa using h2) l0
  have eb : fv (dlS c p b off room 5) * fv l ≤ 80 * 2 ^ 149 * fv l := Int.mul_le_mul_of_nonneg_right (by simpa using h3) l0
  have r := rnd_mul' h1 hl.1 (by omega) (by omega)
  have ra := r.ge (z := -1200) (e := 127) (by decide) (by decide) (by
    have : ((2 ^ 149 : Nat) : Int) = 2 ^ 149 := rfl
    rw [this]; omega)
  obtain ⟨t1, t2⟩ := late_lim
  refine ⟨r.1, ?_⟩
  rw [fge_fv r.1 t1]
  exact decide_eq_true (by omega)
/-! ### Nothing on a road -/
omit hp in
theorem fx_zero (hr : nn room) : fxF (fun _ => 0) p b 0 room = fun _ => 0 := funext fun q => by
  obtain ⟨s1, s2, s3, s4⟩ := pb_snd hpb nn_zero (by rw [fv_zero]; decide)
  obtain ⟨t1, t2, t3, t4⟩ := pb_tks hpb nn_zero (by rw [fv_zero]; decide)
  have z : ∀ {a b : Nat}, nn a → nn b → fv a ≤ 0 → less a b = 0 := fun ha hb h => by
    obtain ⟨g1, g2, g3⟩ := less_le ha hb
    have := nn_bd g1
    exact nn_eq g1 nn_zero (by rw [fv_zero]; omega)
  rw [fv_zero] at s3
  unfold fxF
  by_cases h0 : q = 0
  · rw [if_pos h0]; exact z nn_zero t1 (by rw [fv_zero]; decide)
  · rw [if_neg h0]
    by_cases h1 : q = 16
    · rw [if_pos h1]; exact z s1 hr s3
    · rw [if_neg h1]; exact z s1 t1 s3
omit hp in
theorem it_zero (hr : nn room) : ∀ k, rdIt (fun _ => 0) p b (fun _ => 0) (fun _ => room) k = fun _ => 0
  | 0 => rfl
  | k + 1 => by
    show stF _ _ = _
    rw [it_zero hr k]
    show stF (fun _ => 0) (fxF (fun _ => 0) p b 0 room) = _
    rw [fx_zero hpb hr]
    exact funext fun q => by show heldF (fsub .f32 (fadd .f32 0 0) 0) = 0; decide +kernel
omit hp in
theorem dl_zero (hr : nn room) : ∀ k, dlS (fun _ => 0) p b 0 room k = 0
  | 0 => rfl
  | k + 1 => by
    show fadd .f32 (dlS _ _ _ _ _ k) _ = 0
    rw [dl_zero hr k, it_zero hpb hr k, fx_zero hpb hr]
    have hp1 := hpb.p0
    obtain ⟨d1, d2⟩ := nn_div nn_zero hpb.pn (by omega) (by rw [fv_zero]; omega)
    have d3 := d2.le (z := 0) (e := 0) (by decide) (by decide) (by rw [fv_zero]; simp)
    have e : fdiv .f32 0 p = 0 := nn_eq d1 nn_zero (by have := nn_bd d1; rw [fv_zero]; omega)
    have e2 : kpF (fun _ => 0) (fun _ => 0) p = fun _ => 0 := funext fun i => by show fsub .f32 0 (fdiv .f32 0 p) = 0; rw [e]; decide +kernel
    rw [e2]
    decide +kernel
omit hpb hp in
theorem mul_zero32 {l : Nat} (hl : nn l) : fmul .f32 0 l = 0 := by
  obtain ⟨d1, d2⟩ := nn_mul nn_zero hl (by rw [fv_zero]; have := U_val; omega)
  have d3 := d2.le (z := 0) (e := 0) (by decide) (by decide) (by rw [fv_zero]; simp)
  exact nn_eq d1 nn_zero (by have := nn_bd d1; rw [fv_zero]; omega)
end
end Go.Proofs.Ytpffdjleonkdoaa
