/- Fillings: what a round keeps. No program in sight. -/
import Derived.Test.YtjghdagcmombnaaHp

namespace Go.Proofs.Ytjghdagcmombnaa
open Ieee
open Go.RowKit
attribute [local irreducible] AW AOs AO AQ AQW thenA inBlockA postA ACalls Pure
set_option linter.unusedSimpArgs false
set_option linter.unusedVariables false
set_option linter.unusedSectionVars false

theorem inf_dec : FloatKind.f32.decode (fconv .f64 .f32 9218868437227405312) = .infinity false := by
  have e : fconv .f64 .f32 9218868437227405312 = 2139095040 := by decide +kernel
  rw [e]
  decide +kernel
theorem less_inf {x : Nat} (hx : fin32 x = true) : less (fconv .f64 .f32 9218868437227405312) x = x := by
  obtain ⟨s, m, p, hd, _⟩ := fin_form hx
  have : flt .f32 x (fconv .f64 .f32 9218868437227405312) = true := by
    unfold flt
    show ((FloatKind.f32.decode x).order (FloatKind.f32.decode (fconv .f64 .f32 9218868437227405312)) == some .lt) = true
    rw [hd, inf_dec]; rfl
  unfold less
  rw [this]; rfl
/-- The least time. -/
def lst (h s t : Nat → Nat) (S : FSt) : Nat := lsO t (rtI h S) S (lsI h s S 4) 4
section
variable {h s t : Nat → Nat} {n o : Nat} {W : Nat → Nat → Int} {V p : Nat → Int} {m : Int} {S : FSt}
theorem ls_in (hd : Fd h s t n o W V p) (hv : Iv s t n W V m S) : ∀ i, i ≤ 4 → ((∀ q, q < i → S.g q = false) ∧ lsI h s S i = fconv .f64 .f32 9218868437227405312) ∨ (nn (lsI h s S i) ∧ (∀ q, q < i → S.g q = true → fv (lsI h s S i) ≤ fv (inI h s S q)) ∧ ∃ q, q < i ∧ S.g q = true ∧ lsI h s S i = inI h s S q)
  | 0, _ => .inl ⟨fun q hq => by omega, rfl⟩
  | i + 1, hi => by
    have ih := ls_in hd hv i (by omega)
    cases hg : S.g i
    · have e : lsI h s S (i + 1) = lsI h s S i := by show (if _ then _ else _) = _; rw [hg]; rfl
      rw [e]
      refine ih.imp (fun ⟨h1, h2⟩ => ⟨fun q hq => ?_, h2⟩) fun ⟨h1, h2, q0, h3, h4, h5⟩ => ⟨h1, fun q hq hqg => ?_, q0, by omega, h4, h5⟩
      · by_cases e : q = i
        · rw [e]; exact hg
        · exact h1 q (by omega)
      · by_cases e : q = i
        · rw [e, hg] at hqg; cases hqg
        · exact h2 q (by omega) hqg
    · have e : lsI h s S (i + 1) = less (lsI h s S i) (inI h s S i) := by show (if _ then _ else _) = _; rw [hg]; rfl
      rw [e]
      have hx := (in_fv hd hv (by omega) hg).2.2.2.1
      refine .inr ?_
      rcases ih with ⟨h1, h2⟩ | ⟨h1, h2, q0, h3, h4, h5⟩
      · rw [h2, less_inf hx.1]
        refine ⟨hx, fun q hq hqg => ?_, i, by omega, hg, rfl⟩
        by_cases e : q = i
        · rw [e]; exact Int.le_refl _
        · rw [h1 q (by omega)] at hqg; cases hqg
      · obtain ⟨l1, l2, l3⟩ := less_le h1 hx
        refine ⟨l1, fun q hq hqg => ?_, ?_⟩
        · by_cases e : q = i
          · rw [e]; exact l3
          · exact Int.le_trans l2 (h2 q (by omega) hqg)
        · rcases less_cases (lsI h s S i) (inI h s S i) with e | e
          · rw [e]; exact ⟨q0, by omega, h4, h5⟩
          · rw [e]; exact ⟨i, by omega, hg, rfl⟩
theorem ls_out (hd : Fd h s t n o W V p) (hv : Iv s t n W V m S) {a : Nat} (ha : nn a) : ∀ k, k ≤ 4 → nn (lsO t (rtI h S) S a k) ∧ fv (lsO t (rtI h S) S a k) ≤ fv a ∧ (∀ q, q < k → 0 < rk p W S q → fv (lsO t (rtI h S) S a k) ≤ fv (outI t (rtI h S) S q)) ∧ (lsO t (rtI h S) S a k = a ∨ ∃ q, q < k ∧ 0 < rk p W S q ∧ lsO t (rtI h S) S a k = outI t (rtI h S) S q)
  | 0, _ => ⟨ha, Int.le_refl _, fun q hq => by omega, .inl rfl⟩
  | k + 1, hk => by
    obtain ⟨h1, h2, h3, h4⟩ := ls_out hd hv ha k (by omega)
    have hr := rt_pos (k := k) hd hv (by omega)
    by_cases hc : 0 < rk p W S k
    · rw [decide_eq_true hc] at hr
      have e : lsO t (rtI h S) S a (k + 1) = less (lsO t (rtI h S) S a k) (outI t (rtI h S) S k) := by show (if _ then _ else _) = _; rw [hr]; rfl
      have hx := (out_fv hd hv (by omega) hc).1
      obtain ⟨l1, l2, l3⟩ := less_le h1 hx
      rw [e]
      refine ⟨l1, by omega, fun q hq hq0 => ?_, ?_⟩
      · by_cases e : q = k
        · rw [e]; exact l3
        · exact Int.le_trans l2 (h3 q (by omega) hq0)
      · rcases less_cases (lsO t (rtI h S) S a k) (outI t (rtI h S) S k) with e | e
        · rw [e]
          rcases h4 with h4 | ⟨q, q1, q2, q3⟩
          · exact .inl h4
          · exact .inr ⟨q, by omega, q2, q3⟩
        · rw [e]; exact .inr ⟨k, by omega, hc, rfl⟩
    · rw [decide_eq_false hc] at hr
      have e : lsO t (rtI h S) S a (k + 1) = lsO t (rtI h S) S a k := by show (if _ then _ else _) = _; rw [hr]; rfl
      rw [e]
      refine ⟨h1, h2, fun q hq hq0 => ?_, ?_⟩
      · by_cases e : q = k
        · exact absurd (e ▸ hq0) hc
        · exact h3 q (by omega) hq0
      · rcases h4 with h4 | ⟨q, q1, q2, q3⟩
        · exact .inl h4
        · exact .inr ⟨q, by omega, q2, q3⟩
/-- What is told of the least time. -/
structure Lk (h s t : Nat → Nat) (W : Nat → Nat → Int) (p : Nat → Int) (S : FSt) (L : Nat) : Prop where
  nn : nn L
  le : ∀ q, q < 4 → S.g q = true → fv L ≤ fv (inI h s S q)
  lo : ∀ k, k < 4 → 0 < rk p W S k → fv L ≤ fv (outI t (rtI h S) S k)
  eq : (∃ q, q < 4 ∧ S.g q = true ∧ L = inI h s S q) ∨ ∃ k, k < 4 ∧ 0 < rk p W S k ∧ L = outI t (rtI h S) S k
  bd : fv L ≤ 2 ^ 152
theorem lst_ok (hd : Fd h s t n o W V p) (hv : Iv s t n W V m S) (hg : ∃ i, i < 4 ∧ S.g i = true) : Lk h s t W p S (lst h s t S) := by
  obtain ⟨i, hi, hg⟩ := hg
  rcases ls_in hd hv 4 (Nat.le_refl _) with ⟨h1, _⟩ | ⟨h1, h2, h3⟩
  · rw [h1 i hi] at hg; cases hg
  · obtain ⟨l1, l2, l3, l4⟩ := ls_out hd hv h1 4 (Nat.le_refl _)
    refine ⟨l1, fun q hq hqg => Int.le_trans l2 (h2 q hq hqg), l3, ?_, ?_⟩
    · rcases l4 with e | e
      · obtain ⟨q, q1, q2, q3⟩ := h3
        exact .inl ⟨q, q1, q2, e.trans q3⟩
      · exact .inr e
    · exact Int.le_trans (Int.le_trans l2 (h2 i hi hg)) (in_fv hd hv hi hg).2.2.2.2.2
/-! ### What flows -/
theorem flS_fe (L : Nat) {i : Nat} (hi : i < 4) : (flS h s L S 4).f i = if S.g i then (if feq .f32 (inI h s S i) L then s i else fadd .f32 (S.f i) (fmul .f32 (h (18 + i)) L)) else S.f i := by
  show (if decide (i < 4) && S.g i then (if feq .f32 (insF h s S i) L then s i else fadd .f32 (S.f i) (fmul .f32 (h (18 + i)) L)) else S.f i) = _
  rw [decide_eq_true hi, Bool.true_and]
  cases hg : S.g i
  · rfl
  · unfold insF; rw [hg]; rfl
theorem flS_ge (L : Nat) {i : Nat} (hi : i < 4) : (flS h s L S 4).g i = (S.g i && !(feq .f32 (inI h s S i) L)) := by
  show (if decide (i < 4) && (S.g i && feq .f32 (insF h s S i) L) then false else S.g i) = _
  rw [decide_eq_true hi, Bool.true_and]
  cases hg : S.g i
  · rfl
  · unfold insF; rw [hg]
    show (if feq .f32 (inI h s S i) L then false else true) = _
    cases feq .f32 (inI h s S i) L <;> rfl
/-- What flows after a round: no more than is sent, and nearly as much as is told. -/
theorem fl_ok (hd : Fd h s t n o W V p) (hv : Iv s t n W V m S) {L : Nat} (hL : Lk h s t W p S L) {i : Nat} (hi : i < 4) :
    (nn ((flS h s L S 4).f i) ∧ fv ((flS h s L S 4).f i) ≤ fv (s i)) ∧ 4 * fv ((flS h s L S 4).f i) ≤ 4 * fv (S.f i) + (if S.g i then p i * fv L else 0) + 12 * 2 ^ 132 ∧ 4 * fv (S.f i) + (if S.g i then p i * fv L else 0) ≤ 4 * fv ((flS h s L S 4).f i) + 12 * 2 ^ 132 := by
  obtain ⟨f1, f2⟩ := hv.f i hi
  rw [flS_fe L hi]
  cases hg : S.g i
  · simp only [Bool.false_eq_true, if_false]
    exact ⟨⟨f1, f2⟩, by omega, by omega⟩
  simp only [if_true]
  obtain ⟨x1, x2, x3, d1, d2, d3⟩ := in_fv hd hv hi hg
  have hLi := hL.le i hi hg
  have hLn := hL.nn
  have hLb := hL.bd
  obtain ⟨s1, s2⟩ := hd.s i hi
  obtain ⟨p1, p2⟩ := hd.pr i (hv.go i hi hg).1
  have pb := hd.pb i
  have vb := hd.v i
  have v0 := (hv.go i hi hg).2.1
  have f0 := nn_bd f1
  have x0 := nn_bd x1
  have L0 := nn_bd hLn
  have ea : ((fv (h (18 + i))).natAbs : Int) = fv (h (18 + i)) := Int.natAbs_of_nonneg (by omega)
  have da : 0 < (fv (h (18 + i))).natAbs := by omega
  have xn := x2.near (by decide) (e := 132) (by decide) (by simp; omega) (by simp; omega)
  simp only [Int.natCast_one, Int.mul_one] at xn
  have hpL : fv (h (18 + i)) * fv L = p i * fv L * 2 ^ 147 := by rw [p2, Int.mul_right_comm]
  have pl0 : 0 ≤ p i * fv L := Int.mul_nonneg (by omega) L0
  have pl1 : p i * fv L ≤ 8 * fv L := Int.mul_le_mul_of_nonneg_right pb.2 L0
  cases hq : feq .f32 (inI h s S i) L
  · simp only [Bool.false_eq_true, if_false]
    rw [feq_fv d1.1 hLn.1] at hq
    have hlt : fv L < fv (inI h s S i) := by have := of_decide_eq_false hq; omega
    -- less than what is left
    have hlt2 : fv (h (18 + i)) * fv L < fv (fsub .f32 (s i) (S.f i)) * 2 ^ 149 := by
      refine Int.not_le.1 fun hle => ?_
      have := d2.le_of hLn.1 (by rw [ea, Int.mul_comm (fv L)]; exact hle)
      omega
    obtain ⟨y1, y2⟩ := nn_mul p1 hLn (by rw [hpL, U_val]; omega)
    have y3 : fv (fmul .f32 (h (18 + i)) L) ≤ fv (fsub .f32 (s i) (S.f i)) := y2.le_of x1.1 (by
      have : ((2 ^ 149 : Nat) : Int) = 2 ^ 149 := Int.natCast_pow 2 149
      rw [this]; omega)
    have y0 := nn_bd y1
    obtain ⟨z1, z2⟩ := nn_add f1 y1 (by omega)
    obtain ⟨c, K, e1, e2, e3, e4, e5⟩ := even_form (V := V i) (by omega)
    have hsub := sub_half (K := K) s1.1 f1.1 (by omega) (by rw [s2]; omega) e4
    have z3 : fv (fadd .f32 (S.f i) (fmul .f32 (h (18 + i)) L)) ≤ (c : Int) * 2 ^ K := add_even f1.1 y1.1 (by omega) e2 e3 e4 (by rw [← e1, ← s2]; omega)
    have yn := y2.near (by decide) (e := 132) (by decide) (by rw [hpL]; have : ((2 ^ 149 : Nat) : Int) = 2 ^ 149 := Int.natCast_pow 2 149; rw [this]; omega) (by rw [hpL]; have : ((2 ^ 149 : Nat) : Int) = 2 ^ 149 := Int.natCast_pow 2 149; rw [this]; omega)
    have zn := z2.near (by decide) (e := 132) (by decide) (by simp; omega) (by simp; omega)
    simp only [Int.natCast_one, Int.mul_one] at zn
    have e149 : ((2 ^ 149 : Nat) : Int) = 2 ^ 149 := Int.natCast_pow 2 149
    rw [hpL, e149] at yn
    refine ⟨⟨z1, by rw [s2, e1]; exact z3⟩, ?_, ?_⟩ <;> omega
  · simp only [if_true]
    rw [feq_fv d1.1 hLn.1] at hq
    have heq := of_decide_eq_true hq
    have dn := d2.near da (e := 132) (by decide) (by rw [ea, p2]; omega) (by rw [ea, p2]; omega)
    rw [ea, heq, p2] at dn
    have e1 : fv L * (p i * 2 ^ 147) = p i * fv L * 2 ^ 147 := by rw [← Int.mul_assoc, Int.mul_comm (fv L)]
    rw [e1] at dn
    refine ⟨⟨s1, Int.le_refl _⟩, ?_, ?_⟩ <;> omega
/-! ### What comes -/
theorem stI_c (L : Nat) (r : Nat → Nat) (S0 S1 : FSt) (k : Nat) : ∀ K, (stI h t L r S0 S1 K).c k = if k < K then fadd .f32 (S1.c k) (fmul .f32 (r k) L) else S1.c k
  | 0 => by rw [if_neg (by omega)]; rfl
  | K + 1 => by
    have ih := stI_c L r S0 S1 k K
    have e : (stI h t L r S0 S1 (K + 1)).c = (cmS L r (stI h t L r S0 S1 K) K).c := by
      show (if _ then _ else _ : FSt).c = _
      split <;> rfl
    rw [e]
    show upd (stI h t L r S0 S1 K).c K (fadd .f32 ((stI h t L r S0 S1 K).c K) (fmul .f32 (r K) L)) k = _
    by_cases hk : k = K
    · subst hk
      rw [upd_eq, if_pos (by omega), ih, if_neg (by omega)]
    · rw [upd_ne hk, ih]
      by_cases h2 : k < K
      · rw [if_pos h2, if_pos (by omega)]
      · rw [if_neg h2, if_neg (by omega)]
theorem stI_f (L : Nat) (r : Nat → Nat) (S0 S1 : FSt) : ∀ K, (stI h t L r S0 S1 K).f = S1.f
  | 0 => rfl
  | K + 1 => by
    rw [← stI_f L r S0 S1 K]
    show (if _ then _ else _ : FSt).f = _
    split <;> rfl
/-- Ways that a round stops. -/
theorem stI_g (L : Nat) (r : Nat → Nat) (S0 S1 : FSt) {i : Nat} (hi : i < 4) : ∀ K, ((stI h t L r S0 S1 K).g i = S1.g i ∧ (stI h t L r S0 S1 K).b i = S1.b i) ∨ (S1.g i = true ∧ (stI h t L r S0 S1 K).g i = false ∧ ∃ k, k < K ∧ hitB t L r S0 k = true ∧ fgt .f32 (jA h i k) 0 = true ∧ (stI h t L r S0 S1 K).b i = (k : Int))
  | 0 => .inl ⟨rfl, rfl⟩
  | K + 1 => by
    have ih := stI_g L r S0 S1 hi K
    cases hh : hitB t L r S0 K
    · have e : stI h t L r S0 S1 (K + 1) = cmS L r (stI h t L r S0 S1 K) K := by show (if _ then _ else _) = _; rw [hh]; rfl
      rw [e]
      show ((stI h t L r S0 S1 K).g i = _ ∧ (stI h t L r S0 S1 K).b i = _) ∨ (_ ∧ (stI h t L r S0 S1 K).g i = false ∧ ∃ k, _ ∧ _ ∧ _ ∧ (stI h t L r S0 S1 K).b i = _)
      exact ih.imp id fun ⟨h1, h2, k, h3, h4⟩ => ⟨h1, h2, k, by omega, h4⟩
    · have e : stI h t L r S0 S1 (K + 1) = stpS h (cmS L r (stI h t L r S0 S1 K) K) K 4 := by show (if _ then _ else _) = _; rw [hh]; rfl
      rw [e]
      have eg : (stpS h (cmS L r (stI h t L r S0 S1 K) K) K 4).g i = if (stI h t L r S0 S1 K).g i && fgt .f32 (jA h i K) 0 then false else (stI h t L r S0 S1 K).g i := by
        show (if decide (i < 4) && stpC h (cmS L r (stI h t L r S0 S1 K) K) K i then false else (stI h t L r S0 S1 K).g i) = _
        rw [decide_eq_true hi, Bool.true_and]; rfl
      have eb : (stpS h (cmS L r (stI h t L r S0 S1 K) K) K 4).b i = if (stI h t L r S0 S1 K).g i && fgt .f32 (jA h i K) 0 then (K : Int) else (stI h t L r S0 S1 K).b i := by
        show (if decide (i < 4) && stpC h (cmS L r (stI h t L r S0 S1 K) K) K i then (K : Int) else (stI h t L r S0 S1 K).b i) = _
        rw [decide_eq_true hi, Bool.true_and]; rfl
      rw [eg, eb]
      cases hc : (stI h t L r S0 S1 K).g i && fgt .f32 (jA h i K) 0
      · simp only [Bool.false_eq_true, if_false]
        exact ih.imp id fun ⟨h1, h2, k, h3, h4⟩ => ⟨h1, h2, k, by omega, h4⟩
      · simp only [if_true]
        rw [Bool.and_eq_true] at hc
        rcases ih with ⟨h1, h2⟩ | ⟨h1, h2, _⟩
        · exact .inr ⟨h1.symm.trans hc.1, by first | rfl | trivial, K, by omega, hh, hc.2, by first | rfl | trivial⟩
        · rw [h2] at hc; cases hc.1
theorem stI_hit (L : Nat) (r : Nat → Nat) (S0 S1 : FSt) {i k : Nat} (hi : i < 4) (hh : hitB t L r S0 k = true) (hA : fgt .f32 (jA h i k) 0 = true) : ∀ K, k < K → (stI h t L r S0 S1 K).g i = false
  | 0, hk => by omega
  | K + 1, hk => by
    by_cases e : k = K
    · subst e
      have e : stI h t L r S0 S1 (k + 1) = stpS h (cmS L r (stI h t L r S0 S1 k) k) k 4 := by show (if _ then _ else _) = _; rw [hh]; rfl
      rw [e]
      show (if decide (i < 4) && stpC h (cmS L r (stI h t L r S0 S1 k) k) k i then false else (stI h t L r S0 S1 k).g i) = false
      rw [decide_eq_true hi, Bool.true_and]
      show (if (stI h t L r S0 S1 k).g i && fgt .f32 (jA h i k) 0 then false else (stI h t L r S0 S1 k).g i) = false
      rw [hA]
      cases (stI h t L r S0 S1 k).g i <;> rfl
    · have ih := stI_hit L r S0 S1 hi hh hA K (by omega)
      show (if _ then _ else _ : FSt).g i = false
      split
      · show (if decide (i < 4) && stpC h (cmS L r (stI h t L r S0 S1 K) K) K i then false else (stI h t L r S0 S1 K).g i) = false
        rw [ih]; split <;> rfl
      · exact ih
/-- A product and a sum of a round. -/
theorem cm_ok (hd : Fd h s t n o W V p) (hv : Iv s t n W V m S) {L : Nat} (hL : Lk h s t W p S L) {k : Nat} (hk : k < 4) :
    nn (fadd .f32 (S.c k) (fmul .f32 (rtI h S k) L)) ∧ fv (S.c k) ≤ fv (fadd .f32 (S.c k) (fmul .f32 (rtI h S k) L)) ∧ 64 * fv (fadd .f32 (S.c k) (fmul .f32 (rtI h S k) L)) ≤ 64 * fv (S.c k) + rk p W S k * fv L + 128 * 2 ^ 132 ∧ 64 * fv (S.c k) + rk p W S k * fv L ≤ 64 * fv (fadd .f32 (S.c k) (fmul .f32 (rtI h S k) L)) + 128 * 2 ^ 132 ∧
      (rk p W S k * fv L = 0 → fadd .f32 (S.c k) (fmul .f32 (rtI h S k) L) = S.c k) := by
  obtain ⟨r1, r2⟩ := rt_fv hd hv hk
  have rb := rk_bd (S := S) hd k
  have c1 := hv.c k hk
  have c2 := c_bd hd hv hk
  have hLn := hL.nn
  have hLb := hL.bd
  have L0 := nn_bd hLn
  have hrL : fv (rtI h S k) * fv L = rk p W S k * fv L * 2 ^ 143 := by rw [r2, Int.mul_right_comm]
  have rl0 : 0 ≤ rk p W S k * fv L := Int.mul_nonneg rb.1 L0
  have rl1 : rk p W S k * fv L ≤ 512 * fv L := Int.mul_le_mul_of_nonneg_right rb.2 L0
  have e149 : ((2 ^ 149 : Nat) : Int) = 2 ^ 149 := Int.natCast_pow 2 149
  obtain ⟨z1, z2⟩ := nn_mul r1 hLn (by rw [hrL, U_val]; omega)
  have zn := z2.near (by decide) (e := 132) (by decide) (by rw [hrL, e149]; omega) (by rw [hrL, e149]; omega)
  rw [hrL, e149] at zn
  have z0 := nn_bd z1
  obtain ⟨a1, a2⟩ := nn_add c1 z1 (by omega)
  have an := a2.near (by decide) (e := 132) (by decide) (by simp; omega) (by simp; omega)
  simp only [Int.natCast_one, Int.mul_one] at an
  refine ⟨a1, a2.ge_of c1.1 (by simp; omega), by omega, by omega, fun h0 => ?_⟩
  rw [hrL, h0, Int.zero_mul] at z2
  have ez : fv (fmul .f32 (rtI h S k) L) = 0 * 2 ^ 0 := z2.exact (by decide) (by decide) (by simp)
  have e0 : fmul .f32 (rtI h S k) L = 0 := nn_eq z1 nn_zero (by rw [ez, fv_zero]; rfl)
  rw [e0]
  exact add_zero32 c1 (by omega)
/-! ### A round -/
theorem rnd_f (i : Nat) : (rndI h s t S).f i = (flS h s (lst h s t S) S 4).f i := congrFun (stI_f _ _ _ _ 4) i
theorem rnd_c {k : Nat} (hk : k < 4) : (rndI h s t S).c k = fadd .f32 (S.c k) (fmul .f32 (rtI h S k) (lst h s t S)) := by
  have := stI_c (h := h) (t := t) (lst h s t S) (rtI h S) S (flS h s (lst h s t S) S 4) k 4
  rw [if_pos hk] at this
  exact this
theorem rnd_g {i : Nat} (hi : i < 4) : ((rndI h s t S).g i = (flS h s (lst h s t S) S 4).g i ∧ (rndI h s t S).b i = S.b i) ∨ ((flS h s (lst h s t S) S 4).g i = true ∧ (rndI h s t S).g i = false ∧ ∃ k, k < 4 ∧ hitB t (lst h s t S) (rtI h S) S k = true ∧ fgt .f32 (jA h i k) 0 = true ∧ (rndI h s t S).b i = (k : Int)) := stI_g (h := h) (t := t) (lst h s t S) (rtI h S) S (flS h s (lst h s t S) S 4) hi 4
theorem rnd_go {i : Nat} (hi : i < 4) (hg : (rndI h s t S).g i = true) : S.g i = true := by
  have h1 := flS_ge (h := h) (s := s) (S := S) (lst h s t S) hi
  rcases rnd_g (h := h) (s := s) (t := t) (S := S) hi with ⟨h2, _⟩ | ⟨_, h2, _⟩
  · rw [h2, h1, Bool.and_eq_true] at hg; exact hg.1
  · rw [h2] at hg; cases hg
/-- A round stops a way. -/
theorem rnd_stop (hd : Fd h s t n o W V p) (hv : Iv s t n W V m S) (hg : ∃ i, i < 4 ∧ S.g i = true) : ∃ i, i < 4 ∧ S.g i = true ∧ (rndI h s t S).g i = false := by
  have hL := lst_ok hd hv hg
  rcases hL.eq with ⟨q, q1, q2, q3⟩ | ⟨k, k1, k2, k3⟩
  · refine ⟨q, q1, q2, ?_⟩
    have h1 := flS_ge (h := h) (s := s) (S := S) (lst h s t S) q1
    have d1 := (in_fv hd hv q1 q2).2.2.2.1
    rw [q2, Bool.true_and] at h1
    have h2 : feq .f32 (inI h s S q) (lst h s t S) = true := by rw [feq_fv d1.1 hL.nn.1]; exact decide_eq_true (by rw [q3])
    rw [h2] at h1
    rcases rnd_g (h := h) (s := s) (t := t) (S := S) q1 with ⟨h3, _⟩ | ⟨_, h3, _⟩
    · rw [h3, h1]; rfl
    · exact h3
  · obtain ⟨⟨q, q1, q2, q3⟩, _⟩ := rk_ex hd hv k1 k2
    refine ⟨q, q1, q2, ?_⟩
    have hr := rt_pos hd hv k1
    rw [decide_eq_true k2] at hr
    have d1 := (out_fv hd hv k1 k2).1
    have hh : hitB t (lst h s t S) (rtI h S) S k = true := by
      unfold hitB outsF
      rw [hr]
      show feq .f32 (outI t (rtI h S) S k) (lst h s t S) = true
      rw [feq_fv d1.1 hL.nn.1]; exact decide_eq_true (by rw [k3])
    have ha := hd.a q k q1 k1
    exact stI_hit (h := h) (t := t) (lst h s t S) (rtI h S) S (flS h s (lst h s t S) S 4) q1 hh (by rw [fgt_fv ha.1.1 nn_zero.1, fv_zero, ha.2]; exact decide_eq_true (by omega)) 4 k1
/-- What is kept by a round. -/
theorem iv_round (hd : Fd h s t n o W V p) (hv : Iv s t n W V m S) (hg : ∃ i, i < 4 ∧ S.g i = true) (hm : m + 1 ≤ 8) : Iv s t n W V (m + 1) (rndI h s t S) := by
  have hL := lst_ok hd hv hg
  have hF := fun i (hi : i < 4) => fl_ok hd hv hL hi
  have hmb := hv.mb
  refine ⟨fun i hi hgi => hv.go i hi (rnd_go hi hgi), fun i hi => ?_, fun k hk => ?_, by omega, fun k hk => ?_⟩
  · rw [rnd_f]; exact (hF i hi).1
  · rw [rnd_c hk]; exact (cm_ok hd hv hL hk).1
  · rw [rnd_c hk]
    have hC := cm_ok hd hv hL hk
    have hE := hv.e k hk
    have hw := fun i => hd.w i k
    unfold smW at *
    rw [rnd_f, rnd_f, rnd_f, rnd_f]
    -- a way's part
    have part : ∀ i, i < 4 → 4 * (fv ((flS h s (lst h s t S) S 4).f i) * W i k) ≤ 4 * (fv (S.f i) * W i k) + (if S.g i then p i * W i k else 0) * fv (lst h s t S) + 192 * 2 ^ 132 ∧ 4 * (fv (S.f i) * W i k) + (if S.g i then p i * W i k else 0) * fv (lst h s t S) ≤ 4 * (fv ((flS h s (lst h s t S) S 4).f i) * W i k) + 192 * 2 ^ 132 := fun i hi => by
      obtain ⟨_, h1, h2⟩ := hF i hi
      have h3 := hw i
      have h4 := Int.mul_le_mul_of_nonneg_right h1 h3.1
      have h5 := Int.mul_le_mul_of_nonneg_right h2 h3.1
      have e1 : (if S.g i then p i * W i k else 0) * fv (lst h s t S) = (if S.g i then p i * fv (lst h s t S) else 0) * W i k := by
        split
        · rw [Int.mul_right_comm]
        · rw [Int.zero_mul, Int.zero_mul]
      rw [e1]
      generalize (if S.g i then p i * fv (lst h s t S) else 0) = y at *
      generalize fv ((flS h s (lst h s t S) S 4).f i) = a at *
      generalize fv (S.f i) = b at *
      rw [Int.add_mul, Int.add_mul, Int.mul_assoc, Int.mul_assoc] at h4
      rw [Int.add_mul, Int.add_mul, Int.mul_assoc, Int.mul_assoc] at h5
      constructor <;> omega
    have p0 := part 0 (by omega)
    have p1 := part 1 (by omega)
    have p2 := part 2 (by omega)
    have p3 := part 3 (by omega)
    have er : rk p W S k * fv (lst h s t S) = (if S.g 0 then p 0 * W 0 k else 0) * fv (lst h s t S) + (if S.g 1 then p 1 * W 1 k else 0) * fv (lst h s t S) + (if S.g 2 then p 2 * W 2 k else 0) * fv (lst h s t S) + (if S.g 3 then p 3 * W 3 k else 0) * fv (lst h s t S) := by
      rw [← Int.add_mul, ← Int.add_mul, ← Int.add_mul]
      show (((0 + _) + _) + _ + _) * _ = _
      rw [Int.zero_add]
    rw [er] at hC
    have em : (m + 1) * (224 * 2 ^ 132) = m * (224 * 2 ^ 132) + 224 * 2 ^ 132 := by rw [Int.add_mul, Int.one_mul]
    rw [em]
    generalize m * (224 * 2 ^ 132) = mE at *
    obtain ⟨_, _, c3, c4, _⟩ := hC
    constructor <;> omega
end
end Go.Proofs.Ytjghdagcmombnaa
