/- Shares that stay: plain facts. -/
import Derived.Test.YtpffdjleonkdoaaSi
import Derived.Test.YtpffdjleonkdoaaSq
namespace Go.Proofs.Ytpffdjleonkdoaa
open Go.RowKit
attribute [local irreducible] AW AOs AO AQ AQW thenA inBlockA postA ACalls Pure
set_option linter.unusedSimpArgs false
set_option linter.unusedVariables false
set_option linter.unusedSectionVars false

theorem le_mulU {a b : Int} (h : a * U ≤ b * U) : a ≤ b := Int.le_of_mul_le_mul_right h (by decide)
section
variable {p b : Nat} (hpb : PbOk p b)
include hpb
theorem mul_close {a x y : Nat} {D : Int} (ha : nn a ∧ fv a ≤ U) (hx : nn x ∧ fv x ≤ U) (hy : nn y ∧ fv y ≤ U) (h1 : fv x ≤ fv y + D) (hD : 0 ≤ D) : fv (fmul .f32 a x) ≤ fv (fmul .f32 a y) + D + 2 ^ 126 := by
  obtain ⟨_, m2, _, _⟩ := mul_sh hpb ha.1 ha.2 hx.1 hx.2
  obtain ⟨_, n2, _, _⟩ := mul_sh hpb ha.1 ha.2 hy.1 hy.2
  have a0 := nn_bd ha.1
  have x0 := nn_bd hx.1
  have y0 := nn_bd hy.1
  have eU : ((2 ^ 149 : Nat) : Int) = U := rfl
  have e1 : fv a * fv x ≤ 16777216 * 2 ^ 125 * ((2 ^ 149 : Nat) : Int) := Int.mul_le_mul ha.2 hx.2 x0 (by decide)
  have e2 : fv a * fv y ≤ 16777216 * 2 ^ 125 * ((2 ^ 149 : Nat) : Int) := Int.mul_le_mul ha.2 hy.2 y0 (by decide)
  have z : -(16777216 * 2 ^ 125 * ((2 ^ 149 : Nat) : Int)) ≤ 0 := by decide
  have r1 := (m2.near (by decide) (e := 125) (by decide) e1 (Int.le_trans z (Int.mul_nonneg a0 x0))).1
  have r2 := (n2.near (by decide) (e := 125) (by decide) e2 (Int.le_trans z (Int.mul_nonneg a0 y0))).2
  have e3 : fv a * fv x ≤ fv a * (fv y + D) := Int.mul_le_mul_of_nonneg_left h1 a0
  have e4 : fv a * D ≤ U * D := Int.mul_le_mul_of_nonneg_right ha.2 hD
  rw [Int.mul_add] at e3
  rw [eU] at r1 r2
  refine le_mulU ?_
  rw [Int.add_mul, Int.add_mul, Int.mul_comm D U]
  have e5 : (2 : Int) ^ 126 * U = 2 ^ 125 * U + 2 ^ 125 * U := by decide
  omega
theorem one_close {x y : Nat} {D : Int} (hx : nn x ∧ fv x ≤ U) (hy : nn y ∧ fv y ≤ U) (h1 : fv y ≤ fv x + D) : fv (fsub .f32 1065353216 x) ≤ fv (fsub .f32 1065353216 y) + D + 2 ^ 126 := by
  obtain ⟨_, m2, _⟩ := sub_one hpb hx.1 hx.2
  obtain ⟨_, n2, _⟩ := sub_one hpb hy.1 hy.2
  have hU := U_val
  have x0 := nn_bd hx.1
  have y0 := nn_bd hy.1
  have r1 := (m2.near (by decide) (e := 125) (by decide) (by simp; omega) (by simp; omega)).1
  have r2 := (n2.near (by decide) (e := 125) (by decide) (by simp; omega) (by simp; omega)).2
  simp at r1 r2
  omega
variable {f lo : Nat} {D : Int} (hD : 0 ≤ D) (hf : nn f ∧ fv f ≤ fv (mostF2 p b)) (hlo : nn lo ∧ fv lo ≤ U) (h4 : fv (fmul .f32 p lo) ≤ fv f + 2 ^ 127) (h5 : fv f ≤ fv (fmul .f32 p lo) + 2 ^ 127) (h6 : fv f ≤ fv (fmul .f32 b (fsub .f32 1065353216 lo)) + 2 ^ 131)
include hD hf hlo h4 h5 h6
theorem snd_close {x : Nat} (hx : nn x ∧ fv x ≤ U) (g1 : fv lo ≤ fv x + D) (g2 : fv x ≤ fv lo + D) : fv f ≤ fv (sndF p b x) + D + 2 ^ 128 ∧ fv (sndF p b x) ≤ fv f + D + 2 ^ 128 := by
  have c1 := mul_close hpb ⟨hpb.pn, hpb.p1⟩ hx hlo g2 hD
  have c2 := mul_close hpb ⟨hpb.pn, hpb.p1⟩ hlo hx g1 hD
  have := (pb_snd hpb hx.1 hx.2).2.1
  omega
theorem tks_close {x : Nat} (hx : nn x ∧ fv x ≤ U) (g2 : fv x ≤ fv lo + D) : fv f ≤ fv (tksF p b x) + D + 2 ^ 132 := by
  obtain ⟨s1, _, s3⟩ := sub_one hpb hx.1 hx.2
  obtain ⟨t1, _, t3⟩ := sub_one hpb hlo.1 hlo.2
  have c1 := one_close hpb hlo hx g2
  have c2 := mul_close hpb (D := D + 2 ^ 126) ⟨hpb.bn, hpb.b1⟩ ⟨t1, t3⟩ ⟨s1, s3⟩ (by omega) (by omega)
  have := (pb_tks hpb hx.1 hx.2).2.1
  omega
variable {c : Nat → Nat} (hc : CrOk c) (hn : ∀ q, q < 16 → fv lo ≤ fv (c q) + D ∧ fv (c q) ≤ fv lo + D)
include hc hn
theorem fx_close {q : Nat} (hq : q ≤ 16) : fv f ≤ fv (fxF c p b f 1065353216 q) + D + 2 ^ 132 ∧ fv (fxF c p b f 1065353216 q) ≤ fv f + D + 2 ^ 132 := by
  have hm := (pb_most hpb).2.2.1
  have hp1 := hpb.p1
  unfold fxF
  by_cases h0 : q = 0
  · rw [if_pos h0]
    obtain ⟨x1, x2⟩ := hc 0 (by omega)
    have t := tks_close hpb hD hf hlo h4 h5 h6 ⟨x1, x2⟩ (hn 0 (by omega)).2
    have := (less_fv hf.1.1 (pb_tks hpb x1 x2).1.1).2
    omega
  · rw [if_neg h0]
    by_cases h16 : q = 16
    · rw [if_pos h16]
      obtain ⟨x1, x2⟩ := hc 15 (by omega)
      have s := snd_close hpb hD hf hlo h4 h5 h6 ⟨x1, x2⟩ (hn 15 (by omega)).1 (hn 15 (by omega)).2
      have := (less_fv (pb_snd hpb x1 x2).1.1 one_fin).2
      rw [fv_one] at this
      omega
    · rw [if_neg h16]
      obtain ⟨x1, x2⟩ := hc (q - 1) (by omega)
      obtain ⟨y1, y2⟩ := hc q (by omega)
      have s := snd_close hpb hD hf hlo h4 h5 h6 ⟨x1, x2⟩ (hn (q - 1) (by omega)).1 (hn (q - 1) (by omega)).2
      have t := tks_close hpb hD hf hlo h4 h5 h6 ⟨y1, y2⟩ (hn q (by omega)).2
      have := (less_fv (pb_snd hpb x1 x2).1.1 (pb_tks hpb y1 y2).1.1).2
      show fv f ≤ fv (less _ _) + D + 2 ^ 132 ∧ fv (less _ _) ≤ fv f + D + 2 ^ 132
      omega
theorem st_close {q : Nat} (hq : q < 16) : fv lo ≤ fv (stF c (fxF c p b f 1065353216) q) + (3 * D + 2 ^ 134) ∧ fv (stF c (fxF c p b f 1065353216) q) ≤ fv lo + (3 * D + 2 ^ 134) := by
  have hm := (pb_most hpb).2.2.1
  have hp1 := hpb.p1
  have hfU : fv f ≤ U := by omega
  have h11 : fv 1065353216 ≤ U := by rw [fv_one]; exact Int.le_refl _
  have a1 := fx_close hpb hD hf hlo h4 h5 h6 hc hn (show q ≤ 16 by omega)
  have a2 := fx_close hpb hD hf hlo h4 h5 h6 hc hn (show q + 1 ≤ 16 by omega)
  have n1 := fx_nn hpb hc hf.1 hfU nn_one h11 (show q ≤ 16 by omega)
  have n2 := fx_nn hpb hc hf.1 hfU nn_one h11 (show q + 1 ≤ 16 by omega)
  obtain ⟨_, _, s3, s4, s5⟩ := stp_cell (hc q hq) n1 n2
  have e : fv (stF c (fxF c p b f 1065353216) q) = fv (heldF (fsub .f32 (fadd .f32 (c q) (fxF c p b f 1065353216 q)) (fxF c p b f 1065353216 (q + 1)))) := rfl
  have g := hn q hq
  have l0 := nn_bd hlo.1
  have l1 := hlo.2
  have hU := U_val
  rw [e, s3]
  omega
end
section
variable {p b : Nat} (hpb : PbOk p b)
variable {f lo : Nat} (hf : nn f ∧ fv f ≤ fv (mostF2 p b)) (hlo : nn lo ∧ fv lo ≤ U) (h4 : fv (fmul .f32 p lo) ≤ fv f + 2 ^ 127) (h5 : fv f ≤ fv (fmul .f32 p lo) + 2 ^ 127) (h6 : fv f ≤ fv (fmul .f32 b (fsub .f32 1065353216 lo)) + 2 ^ 131)
include hpb hf hlo h4 h5 h6
def dK : Nat → Int
  | 0 => 0
  | k + 1 => 3 * dK k + 2 ^ 134
omit hpb hf hlo h4 h5 h6 in
theorem dK_pos : ∀ k, 0 ≤ dK k
  | 0 => Int.le_refl _
  | k + 1 => by have := dK_pos k; show 0 ≤ 3 * dK k + 2 ^ 134; omega
omit hpb hf hlo h4 h5 h6 in
theorem dK_le : ∀ k : Nat, k ≤ 2 → dK k ≤ 4 * 2 ^ 134
  | 0, _ => by show (0 : Int) ≤ _; omega
  | 1, _ => by show 3 * 0 + 2 ^ 134 ≤ (_ : Int); omega
  | 2, _ => by show 3 * (3 * 0 + 2 ^ 134) + 2 ^ 134 ≤ (_ : Int); omega
theorem it_close : ∀ k : Nat, CrOk (rdIt (fun _ => lo) p b (fun _ => f) (fun _ => 1065353216) k) ∧ ∀ q, q < 16 → fv lo ≤ fv (rdIt (fun _ => lo) p b (fun _ => f) (fun _ => 1065353216) k q) + dK k ∧ fv (rdIt (fun _ => lo) p b (fun _ => f) (fun _ => 1065353216) k q) ≤ fv lo + dK k
  | 0 => ⟨fun q hq => hlo, fun q hq => by show fv lo ≤ fv lo + 0 ∧ fv lo ≤ fv lo + 0; omega⟩
  | k + 1 => by
    obtain ⟨i1, i2⟩ := it_close k
    have hm := (pb_most hpb).2.2.1
    have hp1 := hpb.p1
    have h11 : fv 1065353216 ≤ U := by rw [fv_one]; exact Int.le_refl _
    exact ⟨st_ok hpb i1 ⟨hf.1, (by omega : fv f ≤ U)⟩ ⟨nn_one, h11⟩, fun q hq => st_close hpb (dK_pos k) hf hlo h4 h5 h6 i1 i2 hq⟩
theorem in_close {e : Nat} (he : e ≤ 16) : ∀ k : Nat, k ≤ 3 → nn (sumIt (fun _ => lo) p b (fun _ => f) (fun _ => 1065353216) e k) ∧ (k : Int) * fv f ≤ fv (sumIt (fun _ => lo) p b (fun _ => f) (fun _ => 1065353216) e k) + k * (2 ^ 133 + 4 * 2 ^ 134) ∧ fv (sumIt (fun _ => lo) p b (fun _ => f) (fun _ => 1065353216) e k) ≤ k * fv f + k * (2 ^ 133 + 4 * 2 ^ 134)
  | 0, _ => ⟨nn_zero, by show (0 : Nat) * fv f ≤ fv 0 + _; rw [fv_zero]; simp, by show fv 0 ≤ _; rw [fv_zero]; simp⟩
  | k + 1, hk => by
    obtain ⟨s1, s2, s3⟩ := in_close he k (by omega)
    obtain ⟨i1, i2⟩ := it_close hpb hf hlo h4 h5 h6 k
    have hm := (pb_most hpb).2.2.1
    have hp1 := hpb.p1
    have h11 : fv 1065353216 ≤ U := by rw [fv_one]; exact Int.le_refl _
    have a1 := fx_close hpb (dK_pos k) hf hlo h4 h5 h6 i1 i2 he
    have n1 := fx_nn hpb i1 hf.1 (by omega) nn_one h11 he
    have dk := dK_le k (by omega)
    have hU := U_val
    have f0 := nn_bd hf.1
    have s0 := nn_bd s1
    have n0 := nn_bd n1.1
    have hfU : fv f ≤ U := by omega
    have hb := (sum_ok hpb (fun _ => ⟨hf.1, hfU⟩) (fun _ => ⟨nn_one, h11⟩) (fun q _ => hlo) he k (by omega)).2
    have hk2 : (k : Int) ≤ 2 := by omega
    generalize hS : sumIt (fun _ => lo) p b (fun _ => f) (fun _ => 1065353216) e k = S at *
    generalize hG : fxF (rdIt (fun _ => lo) p b (fun _ => f) (fun _ => 1065353216) k) p b f 1065353216 e = G at *
    obtain ⟨t1, t2⟩ := nn_add s1 n1.1 (by omega)
    have t3 := t2.near (e := 127) (by decide) (by decide) (by simp; omega) (by simp; omega)
    simp at t3
    have ee : sumIt (fun _ => lo) p b (fun _ => f) (fun _ => 1065353216) e (k + 1) = fadd .f32 (sumIt (fun _ => lo) p b (fun _ => f) (fun _ => 1065353216) e k) (fxF (rdIt (fun _ => lo) p b (fun _ => f) (fun _ => 1065353216) k) p b f 1065353216 e) := rfl
    rw [ee, hS, hG]
    clear hS hG ee i2 h4 h5 h6
    refine ⟨t1, ?_, ?_⟩
    · rw [Int.natCast_add, Int.add_mul, Int.add_mul]; omega
    · rw [Int.natCast_add, Int.add_mul, Int.add_mul]; omega
end
theorem dK_3 : dK 3 ≤ 2 ^ 138 := by show 3 * (3 * (3 * 0 + 2 ^ 134) + 2 ^ 134) + 2 ^ 134 ≤ (_ : Int); omega
theorem eps3_fv : fin32 981668463 = true ∧ 2 ^ 139 ≤ fv 981668463 ∧ fv 981668463 ≤ 2 ^ 140 := by decide +kernel
theorem near_of {x y : Nat} (hx : fin32 x = true) (hy : fin32 y = true) (h1 : fv x ≤ fv y + 2 ^ 138) (h2 : fv y ≤ fv x + 2 ^ 138) : fle .f32 (fsub .f32 x y) 981668463 = true ∧ fle .f32 (fsub .f32 y x) 981668463 = true := by
  obtain ⟨e1, e2, e3⟩ := eps3_fv
  have r1 := rnd_sub' hx hy (by omega) (by omega)
  have r2 := rnd_sub' hy hx (by omega) (by omega)
  rw [fle_fv r1.1 e1, fle_fv r2.1 e1]
  exact ⟨decide_eq_true (r1.le_of e1 (by simp; omega)), decide_eq_true (r2.le_of e1 (by simp; omega))⟩
theorem three_fv : nn 1077936128 ∧ fv 1077936128 = 3 * 2 ^ 149 := ⟨⟨by decide +kernel, by decide⟩, by decide +kernel⟩
theorem thrice {f : Nat} (hf : nn f) (h1 : fv f ≤ U) : nn (fmul .f32 1077936128 f) ∧ fv (fmul .f32 1077936128 f) ≤ 3 * fv f + 2 ^ 127 ∧ 3 * fv f ≤ fv (fmul .f32 1077936128 f) + 2 ^ 127 := by
  have f0 := nn_bd hf
  have hU := U_val
  have eU : ((2 ^ 149 : Nat) : Int) = 2 ^ 149 := rfl
  obtain ⟨m1, m2⟩ := nn_mul three_fv.1 hf (by rw [three_fv.2, hU]; omega)
  rw [three_fv.2] at m2
  have r := m2.near (e := 127) (by decide) (by decide) (by rw [eU]; omega) (by rw [eU]; omega)
  rw [eU] at r
  exact ⟨m1, by omega, by omega⟩
/-! ### Words and their opposites -/
theorem w32_form {c : Nat} (hc : fin32 c = true) (hcl : c < 4294967296) : ∃ s q, c = FloatKind.f32.format.word s q ∧ q < 2139095040 ∧ fv c = sg s (rv q) := by
  have e1 : FloatKind.f32.format.signWeight = 2147483648 := rfl
  have hw : c = FloatKind.f32.format.word (decide (2147483648 ≤ c)) (c % 2147483648) := by
    unfold Ieee.Format.word
    rw [e1]
    by_cases h : 2147483648 ≤ c
    · rw [decide_eq_true h]; simp; omega
    · rw [decide_eq_false h]; simp; omega
  have hq : c % 2147483648 < 2139095040 := by
    refine Nat.lt_of_not_le fun h => ?_
    have e2 : FloatKind.f32.format.binade = 8388608 := rfl
    have e3 : FloatKind.f32.format.infRung = 2139095040 := rfl
    have hd : FloatKind.f32.decode c = FloatKind.f32.format.read c := rfl
    unfold Ieee.Format.read at hd
    simp only [e1, e2, e3] at hd
    rw [if_neg (by omega), if_neg (by omega)] at hd
    unfold fin32 at hc
    split at hd <;> rw [hd] at hc <;> cases hc
  have h2 := fin_word (s := decide (2147483648 ≤ c)) hq
  rw [← hw] at h2
  exact ⟨_, _, hw, hq, h2.2⟩
theorem word_dec (q : Nat) (hq : q < 2139095040) : ∃ m e, ∀ s, FloatKind.f32.decode (FloatKind.f32.format.word s q) = .number s m e := by
  have e3 : FloatKind.f32.format.infRung = 2139095040 := rfl
  by_cases h : q < FloatKind.f32.format.binade
  · exact ⟨_, _, fun s => by rw [read_word (by omega), if_pos h]⟩
  · exact ⟨_, _, fun s => by rw [read_word (by omega), if_neg h, if_pos (by omega)]⟩
theorem opp_word {a a' : Nat} (ha : fin32 a = true) (hal : a < 4294967296) (ha' : fin32 a' = true) (hal' : a' < 4294967296) (hv : fv a' = -fv a) (h0 : fv a ≠ 0) : ∃ s m e, FloatKind.f32.decode a = .number s m e ∧ FloatKind.f32.decode a' = .number (!s) m e := by
  obtain ⟨s, q, e1, hq, v1⟩ := w32_form ha hal
  have e : a' = FloatKind.f32.format.word (!s) q := by
    obtain ⟨w1, w2⟩ := fin_word (s := !s) hq
    refine fv_inj ha' w1 ?_ (by omega) hal' ?_
    · rw [w2, hv, v1, sg_not]
    · unfold Ieee.Format.word
      have e1 : FloatKind.f32.format.signWeight = 2147483648 := rfl
      rw [e1]
      cases s <;> simp <;> omega
  obtain ⟨m, x, hd⟩ := word_dec q hq
  exact ⟨s, m, x, by rw [e1]; exact hd s, by rw [e]; exact hd (!s)⟩
theorem div_odd {a a' b b' : Nat} (ha : fin32 a = true) (hal : a < 4294967296) (ha' : fin32 a' = true) (hal' : a' < 4294967296) (hv : fv a' = -fv a) (h0 : fv a ≠ 0)
    (hb : fin32 b = true) (hbl : b < 4294967296) (hb' : fin32 b' = true) (hbl' : b' < 4294967296) (hvb : fv b' = -fv b) (hb0 : fv b ≠ 0) : fdiv .f32 a' b' = fdiv .f32 a b := by
  obtain ⟨s, m, e, d1, d2⟩ := opp_word ha hal ha' hal' hv h0
  obtain ⟨t, n, x, d3, d4⟩ := opp_word hb hbl hb' hbl' hvb hb0
  unfold fdiv
  have : FloatKind.f32.format.div a' b' = FloatKind.f32.format.div a b := by
    show ((FloatKind.f32.decode a').quotient 25 (FloatKind.f32.decode b')).map _ = ((FloatKind.f32.decode a).quotient 25 (FloatKind.f32.decode b)).map _
    rw [d1, d2, d3, d4]
    unfold Ieee.Datum.quotient
    simp only [Bool.not_bne_not, bne_iff_ne, ne_eq]
    all_goals (cases s <;> cases t <;> rfl)
  rw [this]
theorem cf_lt {a : Nat} (h : a < 4294967296) : cf .f32 a < 4294967296 := by
  cases hn : fnan .f32 a
  · rw [cf_of_not hn]; exact h
  · rw [cf_of_nan hn]; exact nanOf_lt .f32
theorem fsub_lt (a b : Nat) : fsub .f32 a b < 4294967296 := by
  unfold fsub
  cases h : FloatKind.f32.format.sub a b with
  | none => exact nanOf_lt .f32
  | some r => exact cf_lt (fmt_lt (k := .f32) (x := (FloatKind.f32.decode a).sum (FloatKind.f32.decode b).opposite) h)
end Go.Proofs.Ytpffdjleonkdoaa
