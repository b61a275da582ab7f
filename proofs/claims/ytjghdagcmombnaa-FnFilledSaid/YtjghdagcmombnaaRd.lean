/- Fillings: the reference's words, and that they are the program's where numbers are drawn. No program in sight. -/
import Derived.Test.YtjghdagcmombnaaHg
import Derived.Test.YtjghdagcmombnaaDr2

namespace Go.Proofs.Ytjghdagcmombnaa
open Ieee
open Go.RowKit
attribute [local irreducible] AW AOs AO AQ AQW thenA inBlockA postA ACalls Pure
set_option linter.unusedSimpArgs false
set_option linter.unusedVariables false
set_option linter.unusedSectionVars false

section
variable (h s t : Nat → Nat)
def lsR (S : FSt) : Nat → Nat
  | 0 => 3212836864
  | i + 1 => if S.g i then (if flt .f32 (lsR S i) 0 || flt .f32 (inI h s S i) (lsR S i) then inI h s S i else lsR S i) else lsR S i
def rrR (S : FSt) (k : Nat) : Nat → Nat
  | 0 => 0
  | i + 1 => if S.g i then fadd .f32 (rrR S k i) (fmul .f32 (h (18 + i)) (jA h i k)) else rrR S k i
def grR (x : Nat) : Nat := if flt .f32 x 0 then 0 else x
def outR (r : Nat → Nat) (S : FSt) (k : Nat) : Nat := grR (fdiv .f32 (fsub .f32 (t k) (S.c k)) (r k))
def outsR (r : Nat → Nat) (S : FSt) (k : Nat) : Nat := if fgt .f32 (r k) 0 then outR t r S k else 0
def lsRO (r : Nat → Nat) (S : FSt) (a : Nat) : Nat → Nat
  | 0 => a
  | k + 1 => if fgt .f32 (r k) 0 then less (lsRO r S a k) (outR t r S k) else lsRO r S a k
def flR (L : Nat) (S : FSt) (i : Nat) : FSt := ⟨fun q => if q < i && S.g q then fadd .f32 (S.f q) (fmul .f32 (h (18 + q)) L) else S.f q, S.c, S.g, S.b⟩
def cmR (L : Nat) (r : Nat → Nat) (S : FSt) : Nat → FSt
  | 0 => S
  | k + 1 => if fgt .f32 (r k) 0 then cmS L r (cmR L r S k) k else cmR L r S k
def enR (L : Nat) (S0 S : FSt) (i : Nat) : FSt := ⟨fun q => if q < i && (S.g q && feq .f32 (insF h s S0 q) L) then s q else S.f q, S.c, fun q => if q < i && (S.g q && feq .f32 (insF h s S0 q) L) then false else S.g q, S.b⟩
def hitR (L : Nat) (r : Nat → Nat) (S0 : FSt) (k : Nat) : Bool := fgt .f32 (r k) 0 && feq .f32 (outsR t r S0 k) L
def stR (L : Nat) (r : Nat → Nat) (S0 S : FSt) : Nat → FSt
  | 0 => S
  | k + 1 => if hitR t L r S0 k then stpS h (stR L r S0 S k) k 4 else stR L r S0 S k
def rtR (S : FSt) (k : Nat) : Nat := rrR h S k 4
def lstR (S : FSt) : Nat := lsRO t (rtR h S) S (lsR h s S 4) 4
def rndR (S : FSt) : FSt := stR h t (lstR h s t S) (rtR h S) S (enR h s (lstR h s t S) S (cmR (lstR h s t S) (rtR h S) (flR h (lstR h s t S) S 4) 4) 4) 4
def itR : Nat → FSt → FSt
  | 0, S => S
  | m + 1, S => if anyG S then itR m (rndR h s t S) else S
/-- The begin. -/
def brC (i k : Nat) (g : Bool) : Bool := g && fgt .f32 (jA h i k) 0 && !(fgt .f32 (t k) 0)
def brG (i : Nat) : Nat → Bool
  | 0 => true
  | k + 1 => if brC h t i k (brG i k) then false else brG i k
def brB (i : Nat) : Nat → Int
  | 0 => -1
  | k + 1 => if brC h t i k (brG h t i k) then (k : Int) else brB i k
def rGo (n o i : Nat) : Bool := if decide (n ≤ i) || !(fgt .f32 (s i) 0) then false else brG h t i o
def rBy (n o i : Nat) : Int := if decide (n ≤ i) || !(fgt .f32 (s i) 0) then -1 else brB h t i o
def oR (n o : Nat) (S : FSt) (i : Nat) : FSt := ⟨S.f, S.c, fun q => if q < i then rGo h s t n o q else S.g q, fun q => if q < i then rBy h s t n o q else S.b q⟩
def filR (n o : Nat) : FSt := itR h s t 8 (oR h s t n o S00 4)
end
section
variable {h s t : Nat → Nat} {n o : Nat} {W : Nat → Nat → Int} {V p : Nat → Int} {m : Int} {S : FSt}
theorem rr_fv (hd : Fd h s t n o W V p) (hv : Iv s t n W V m S) {k : Nat} (hk : k < 4) : ∀ i, i ≤ 4 → nn (rrR h S k i) ∧ fv (rrR h S k i) = rkN p W S k i * 2 ^ 143
  | 0, _ => ⟨nn_zero, by show fv 0 = 0 * 2 ^ 143; rw [fv_zero, Int.zero_mul]⟩
  | i + 1, hi => by
    have ih := rr_fv hd hv hk i (by omega)
    have hb := rkN_bd (S := S) hd k i
    show nn (if S.g i then fadd .f32 (rrR h S k i) (fmul .f32 (h (18 + i)) (jA h i k)) else rrR h S k i) ∧ fv (if S.g i then fadd .f32 (rrR h S k i) (fmul .f32 (h (18 + i)) (jA h i k)) else rrR h S k i) = (rkN p W S k i + (if S.g i then p i * W i k else 0)) * 2 ^ 143
    cases hg : S.g i
    · simp only [Bool.false_eq_true, if_false, Int.add_zero]
      exact ih
    · simp only [if_true]
      have hp := pw_fv (k := k) hd (hv.go i (by omega) hg).1 (by omega) hk
      have h3 := hd.pb i
      have h4 := hd.w i k
      have h5 : 0 ≤ p i * W i k := Int.mul_nonneg (by omega) h4.1
      have h6 : p i * W i k ≤ 8 * W i k := Int.mul_le_mul_of_nonneg_right h3.2 h4.1
      exact add_unit (e := 143) ih hp (by decide) (by omega)
theorem rt_eq (hd : Fd h s t n o W V p) (hv : Iv s t n W V m S) {k : Nat} (hk : k < 4) : rtR h S k = rtI h S k := by
  have h1 := rr_fv hd hv hk 4 (Nat.le_refl _)
  have h2 := rt_fv hd hv hk
  exact nn_eq h1.1 h2.1 (by rw [show fv (rtR h S k) = _ from h1.2, h2.2])
theorem minus_one : flt .f32 3212836864 0 = true := by decide +kernel
theorem lsR_eq (hd : Fd h s t n o W V p) (hv : Iv s t n W V m S) : ∀ i, i ≤ 4 → ((∀ q, q < i → S.g q = false) ∧ lsR h s S i = 3212836864) ∨ lsR h s S i = lsI h s S i ∧ ∃ q, q < i ∧ S.g q = true
  | 0, _ => .inl ⟨fun q hq => by omega, rfl⟩
  | i + 1, hi => by
    have ih := lsR_eq hd hv i (by omega)
    have ej := ls_in hd hv i (by omega)
    have e1 : lsR h s S (i + 1) = if S.g i then (if flt .f32 (lsR h s S i) 0 || flt .f32 (inI h s S i) (lsR h s S i) then inI h s S i else lsR h s S i) else lsR h s S i := rfl
    have e2 : lsI h s S (i + 1) = if S.g i then less (lsI h s S i) (inI h s S i) else lsI h s S i := rfl
    rw [e1, e2]
    cases hg : S.g i
    · simp only [Bool.false_eq_true, if_false]
      rcases ih with ⟨h1, h2⟩ | ⟨h1, q, h2, h3⟩
      · refine .inl ⟨fun q hq => ?_, h2⟩
        by_cases e : q = i
        · rw [e]; exact hg
        · exact h1 q (by omega)
      · exact .inr ⟨h1, q, by omega, h3⟩
    · simp only [if_true]
      have hx := (in_fv hd hv (by omega) hg).2.2.2.1
      refine .inr ⟨?_, i, by omega, hg⟩
      rcases ih with ⟨h1, h2⟩ | ⟨h1, q, h2, h3⟩
      · rw [h2, minus_one, Bool.true_or, if_pos rfl]
        rcases ej with ⟨_, e⟩ | ⟨_, _, q, q1, q2, _⟩
        · rw [e, less_inf hx.1]
        · rw [h1 q q1] at q2; cases q2
      · rw [h1]
        rcases ej with ⟨e, _⟩ | ⟨e, _⟩
        · rw [e q h2] at h3; cases h3
        · have := nn_bd e
          rw [flt_fv e.1 nn_zero.1, fv_zero, decide_eq_false (by omega), Bool.false_or]
          rfl
theorem grR_eq {x : Nat} (hx : fin32 x = true) : grR x = grz x := by
  unfold grR grz
  rw [flt_fv hx nn_zero.1, fgt_fv nn_zero.1 hx]
theorem outR_eq (hd : Fd h s t n o W V p) (hv : Iv s t n W V m S) {k : Nat} (hk : k < 4) (h0 : 0 < rk p W S k) : outR t (rtR h S) S k = outI t (rtI h S) S k := by
  unfold outR outI
  rw [rt_eq hd hv hk]
  exact grR_eq (out_fv hd hv hk h0).2.2.2
theorem lsRO_eq (hd : Fd h s t n o W V p) (hv : Iv s t n W V m S) {a : Nat} : ∀ k, k ≤ 4 → lsRO t (rtR h S) S a k = lsO t (rtI h S) S a k
  | 0, _ => rfl
  | k + 1, hk => by
    show (if fgt .f32 (rtR h S k) 0 then less (lsRO t (rtR h S) S a k) (outR t (rtR h S) S k) else lsRO t (rtR h S) S a k) = if fgt .f32 (rtI h S k) 0 then less (lsO t (rtI h S) S a k) (outI t (rtI h S) S k) else lsO t (rtI h S) S a k
    rw [lsRO_eq hd hv k (by omega), rt_eq hd hv (by omega), rt_pos hd hv (by omega)]
    by_cases h0 : 0 < rk p W S k
    · rw [decide_eq_true h0, outR_eq hd hv (by omega) h0]
    · rw [decide_eq_false h0]; rfl
theorem lst_eq (hd : Fd h s t n o W V p) (hv : Iv s t n W V m S) (hg : ∃ i, i < 4 ∧ S.g i = true) : lstR h s t S = lst h s t S := by
  unfold lstR lst
  rw [lsRO_eq hd hv 4 (Nat.le_refl _)]
  rcases lsR_eq hd hv 4 (Nat.le_refl _) with ⟨h1, _⟩ | ⟨h1, _⟩
  · obtain ⟨i, hi, hg⟩ := hg
    rw [h1 i hi] at hg; cases hg
  · rw [h1]
theorem cmR_c (L : Nat) (r : Nat → Nat) (S1 : FSt) (k : Nat) : ∀ K, (cmR L r S1 K).c k = if k < K ∧ fgt .f32 (r k) 0 = true then fadd .f32 (S1.c k) (fmul .f32 (r k) L) else S1.c k
  | 0 => by rw [if_neg (by omega)]; rfl
  | K + 1 => by
    have ih := cmR_c L r S1 k K
    show (if fgt .f32 (r K) 0 then cmS L r (cmR L r S1 K) K else cmR L r S1 K).c k = _
    cases hr : fgt .f32 (r K) 0
    · simp only [Bool.false_eq_true, if_false]
      rw [ih]
      by_cases hk : k = K
      · subst hk; rw [if_neg (by omega), if_neg (by rw [hr]; simp)]
      · by_cases h2 : k < K ∧ fgt .f32 (r k) 0 = true
        · rw [if_pos h2, if_pos ⟨by omega, h2.2⟩]
        · rw [if_neg h2, if_neg fun h3 => h2 ⟨by omega, h3.2⟩]
    · simp only [if_true]
      show upd (cmR L r S1 K).c K (fadd .f32 ((cmR L r S1 K).c K) (fmul .f32 (r K) L)) k = _
      by_cases hk : k = K
      · subst hk
        rw [upd_eq, if_pos ⟨by omega, hr⟩, ih, if_neg (by omega)]
      · rw [upd_ne hk, ih]
        by_cases h2 : k < K ∧ fgt .f32 (r k) 0 = true
        · rw [if_pos h2, if_pos ⟨by omega, h2.2⟩]
        · rw [if_neg h2, if_neg fun h3 => h2 ⟨by omega, h3.2⟩]
theorem cmR_o (L : Nat) (r : Nat → Nat) (S1 : FSt) : ∀ K, (cmR L r S1 K).f = S1.f ∧ (cmR L r S1 K).g = S1.g ∧ (cmR L r S1 K).b = S1.b
  | 0 => ⟨rfl, rfl, rfl⟩
  | K + 1 => by
    have ih := cmR_o L r S1 K
    show (if fgt .f32 (r K) 0 then cmS L r (cmR L r S1 K) K else cmR L r S1 K).f = _ ∧ (if fgt .f32 (r K) 0 then cmS L r (cmR L r S1 K) K else cmR L r S1 K).g = _ ∧ (if fgt .f32 (r K) 0 then cmS L r (cmR L r S1 K) K else cmR L r S1 K).b = _
    cases fgt .f32 (r K) 0 <;> exact ih
theorem stR_fc (L : Nat) (r : Nat → Nat) (S0 S1 : FSt) : ∀ K, (stR h t L r S0 S1 K).f = S1.f ∧ (stR h t L r S0 S1 K).c = S1.c
  | 0 => ⟨rfl, rfl⟩
  | K + 1 => by
    have ih := stR_fc L r S0 S1 K
    show (if hitR t L r S0 K then stpS h (stR h t L r S0 S1 K) K 4 else stR h t L r S0 S1 K).f = _ ∧ (if hitR t L r S0 K then stpS h (stR h t L r S0 S1 K) K 4 else stR h t L r S0 S1 K).c = _
    cases hitR t L r S0 K <;> exact ih
theorem stp_gb {S1 S2 : FSt} (hg : S1.g = S2.g) (hb : S1.b = S2.b) (k i : Nat) : (stpS h S1 k i).g = (stpS h S2 k i).g ∧ (stpS h S1 k i).b = (stpS h S2 k i).b := by
  unfold stpS stpC
  simp only [hg, hb, and_self]
theorem hitR_eq (hd : Fd h s t n o W V p) (hv : Iv s t n W V m S) {k : Nat} (hk : k < 4) (L : Nat) : hitR t L (rtR h S) S k = hitB t L (rtI h S) S k := by
  unfold hitR hitB outsR outsF
  rw [rt_eq hd hv hk, rt_pos hd hv hk]
  by_cases h0 : 0 < rk p W S k
  · rw [decide_eq_true h0, outR_eq hd hv hk h0]
  · rw [decide_eq_false h0]; rfl
theorem stR_gb (hd : Fd h s t n o W V p) (hv : Iv s t n W V m S) (L : Nat) {S1 S2 : FSt} (hg : S1.g = S2.g) (hb : S1.b = S2.b) : ∀ K, K ≤ 4 → (stR h t L (rtR h S) S S1 K).g = (stI h t L (rtI h S) S S2 K).g ∧ (stR h t L (rtR h S) S S1 K).b = (stI h t L (rtI h S) S S2 K).b
  | 0, _ => ⟨hg, hb⟩
  | K + 1, hK => by
    have ih := stR_gb hd hv L hg hb K (by omega)
    have e1 : stR h t L (rtR h S) S S1 (K + 1) = if hitR t L (rtR h S) S K then stpS h (stR h t L (rtR h S) S S1 K) K 4 else stR h t L (rtR h S) S S1 K := rfl
    have e2 : stI h t L (rtI h S) S S2 (K + 1) = if hitB t L (rtI h S) S K then stpS h (cmS L (rtI h S) (stI h t L (rtI h S) S S2 K) K) K 4 else cmS L (rtI h S) (stI h t L (rtI h S) S S2 K) K := rfl
    rw [e1, e2, hitR_eq hd hv (by omega)]
    cases hitB t L (rtI h S) S K
    · exact ih
    · exact stp_gb (h := h) (S2 := cmS L (rtI h S) (stI h t L (rtI h S) S S2 K) K) ih.1 ih.2 K 4
theorem fst_ext {S1 S2 : FSt} (h1 : S1.f = S2.f) (h2 : S1.c = S2.c) (h3 : S1.g = S2.g) (h4 : S1.b = S2.b) : S1 = S2 := by
  cases S1; cases S2; simp only at h1 h2 h3 h4; subst h1 h2 h3 h4; rfl
/-- A round of the reference is one of the program. -/
theorem rnd_eq (hd : Fd h s t n o W V p) (hv : Iv s t n W V m S) (hg : ∃ i, i < 4 ∧ S.g i = true) : rndR h s t S = rndI h s t S := by
  have hL := lst_ok hd hv hg
  have eL := lst_eq hd hv hg
  unfold rndR
  rw [eL]
  have e1 : rndI h s t S = stI h t (lst h s t S) (rtI h S) S (flS h s (lst h s t S) S 4) 4 := rfl
  rw [e1]
  generalize hLL : lst h s t S = L at *
  obtain ⟨o1, o2, o3⟩ := cmR_o L (rtR h S) (flR h L S 4) 4
  have oc := cmR_c L (rtR h S) (flR h L S 4)
  have egf : (enR h s L S (cmR L (rtR h S) (flR h L S 4) 4) 4).f = (flS h s L S 4).f := by
    funext q
    show (if decide (q < 4) && ((cmR L (rtR h S) (flR h L S 4) 4).g q && feq .f32 (insF h s S q) L) then s q else (cmR L (rtR h S) (flR h L S 4) 4).f q) = (if decide (q < 4) && S.g q then (if feq .f32 (insF h s S q) L then s q else fadd .f32 (S.f q) (fmul .f32 (h (18 + q)) L)) else S.f q)
    rw [o1, o2]
    show (if decide (q < 4) && (S.g q && feq .f32 (insF h s S q) L) then s q else (if decide (q < 4) && S.g q then fadd .f32 (S.f q) (fmul .f32 (h (18 + q)) L) else S.f q)) = _
    cases decide (q < 4) <;> cases S.g q <;> cases feq .f32 (insF h s S q) L <;> rfl
  have egg : (enR h s L S (cmR L (rtR h S) (flR h L S 4) 4) 4).g = (flS h s L S 4).g := by
    funext q
    show (if decide (q < 4) && ((cmR L (rtR h S) (flR h L S 4) 4).g q && feq .f32 (insF h s S q) L) then false else (cmR L (rtR h S) (flR h L S 4) 4).g q) = (if decide (q < 4) && (S.g q && feq .f32 (insF h s S q) L) then false else S.g q)
    rw [o2]; rfl
  have egb : (enR h s L S (cmR L (rtR h S) (flR h L S 4) 4) 4).b = (flS h s L S 4).b := o3
  have hgb := stR_gb hd hv L egg egb 4 (Nat.le_refl _)
  refine fst_ext ?_ ?_ hgb.1 hgb.2
  · rw [(stR_fc L (rtR h S) S _ 4).1, egf, stI_f L (rtI h S) S _ 4]
  · rw [(stR_fc L (rtR h S) S _ 4).2]
    funext q
    rw [stI_c L (rtI h S) S _ q 4]
    show (cmR L (rtR h S) (flR h L S 4) 4).c q = _
    rw [oc q 4]
    show (if _ then fadd .f32 (S.c q) (fmul .f32 (rtR h S q) L) else S.c q) = if q < 4 then fadd .f32 (S.c q) (fmul .f32 (rtI h S q) L) else S.c q
    by_cases hq : q < 4
    · rw [if_pos hq, rt_eq hd hv hq, rt_pos hd hv hq]
      by_cases h0 : 0 < rk p W S q
      · rw [if_pos ⟨hq, decide_eq_true h0⟩]
      · rw [if_neg fun hc => h0 (of_decide_eq_true hc.2)]
        have rb := rk_bd (S := S) hd q
        exact ((cm_ok hd hv hL hq).2.2.2.2 (by rw [show rk p W S q = 0 by omega, Int.zero_mul])).symm
    · rw [if_neg hq, if_neg fun hc => hq hc.1]
theorem it_eq (hd : Fd h s t n o W V p) : ∀ (k : Nat) (m : Int) (S : FSt), Iv s t n W V m S → m + k ≤ 8 → itR h s t k S = itI h s t k S
  | 0, _, _, _, _ => rfl
  | k + 1, m, S, hv, hm => by
    show (if anyG S then itR h s t k (rndR h s t S) else S) = if anyG S then itI h s t k (rndI h s t S) else S
    cases hg : anyG S
    · rfl
    · have he := any_ex hg
      simp only [if_true]
      rw [rnd_eq hd hv he]
      exact it_eq hd k (m + 1) _ (iv_round hd hv he (by omega)) (by omega)
theorem br_eq (hd : Fd h s t n o W V p) (ho : o ≤ 4) {i : Nat} (hi : i < 4) (hV : 0 < V i) : ∀ k, k ≤ 4 → bgG h s t i k = brG h t i (min k o) ∧ bgB h s t i k = brB h t i (min k o)
  | 0, _ => by
    obtain ⟨s1, s2⟩ := hd.s i hi
    rw [Nat.zero_min]
    show fgt .f32 (s i) 0 = true ∧ (-1 : Int) = -1
    rw [fgt_fv s1.1 nn_zero.1, fv_zero, s2]
    exact ⟨decide_eq_true (by omega), rfl⟩
  | k + 1, hk => by
    obtain ⟨ih1, ih2⟩ := br_eq hd ho hi hV k (by omega)
    obtain ⟨s1, s2⟩ := hd.s i hi
    obtain ⟨a1, a2⟩ := hd.a i k hi (by omega)
    obtain ⟨t1, t2, _⟩ := hd.t k (by omega)
    have t0 := nn_bd t1
    have eg : bgG h s t i (k + 1) = if bgC h s t i k (bgB h s t i k) then false else bgG h s t i k := rfl
    have eb : bgB h s t i (k + 1) = if bgC h s t i k (bgB h s t i k) then (k : Int) else bgB h s t i k := rfl
    have hc : bgC h s t i k (bgB h s t i k) = (decide (0 < W i k) && decide (fv (t k) = 0) && decide (bgB h s t i k < 0)) := by
      unfold bgC
      rw [fgt_fv s1.1 nn_zero.1, fgt_fv a1.1 nn_zero.1, feq_fv t1.1 nn_zero.1, fv_zero, s2, a2, decide_eq_true (show 0 < V i * 2 ^ 145 by omega), decide_eq_decide.2 (show 0 < W i k * 2 ^ 145 ↔ 0 < W i k by omega), Bool.true_and]
    by_cases hko : k < o
    · have m1 : min (k + 1) o = k + 1 := by omega
      have m2 : min k o = k := by omega
      rw [m2] at ih1 ih2
      rw [m1, eg, eb]
      show _ = (if brC h t i k (brG h t i k) then false else brG h t i k) ∧ _ = (if brC h t i k (brG h t i k) then (k : Int) else brB h t i k)
      have hr : brC h t i k (brG h t i k) = bgC h s t i k (bgB h s t i k) := by
        unfold brC
        rw [hc, ← ih1, fgt_fv a1.1 nn_zero.1, fgt_fv t1.1 nn_zero.1, fv_zero, a2, decide_eq_decide.2 (show 0 < W i k * 2 ^ 145 ↔ 0 < W i k by omega)]
        have e2 : (!decide (0 < fv (t k))) = decide (fv (t k) = 0) := by
          by_cases h0 : fv (t k) = 0
          · rw [decide_eq_true h0, decide_eq_false (by omega)]; rfl
          · rw [decide_eq_false h0, decide_eq_true (by omega)]; rfl
        rw [e2]
        rcases bg_ok hd hi k (by omega) with ⟨h1, _⟩ | ⟨h1, h2, h3, h4⟩ | ⟨h1, h2, q, h3, h4, h5⟩
        · omega
        · rw [h2, h3, Bool.true_and, decide_eq_true (show (-1 : Int) < 0 by omega), Bool.and_true]
        · rw [h2, h4, decide_eq_false (show ¬ ((q : Int) < 0) by omega), Bool.false_and, Bool.false_and, Bool.and_false]
      rw [hr, ih1, ih2]
      exact ⟨rfl, rfl⟩
    · have m1 : min (k + 1) o = o := by omega
      have m2 : min k o = o := by omega
      rw [m2] at ih1 ih2
      have hz := hd.z i k (by omega)
      rw [m1, eg, eb, hc, hz]
      exact ⟨ih1, ih2⟩
theorem beg_eq (hd : Fd h s t n o W V p) (ho : o ≤ 4) : oR h s t n o S00 4 = oS h s t S00 4 := by
  have key : ∀ i, i < 4 → rGo h s t n o i = bgG h s t i 4 ∧ rBy h s t n o i = bgB h s t i 4 := fun i hi => by
    obtain ⟨s1, s2⟩ := hd.s i hi
    have hs : fgt .f32 (s i) 0 = decide (0 < V i) := by rw [fgt_fv s1.1 nn_zero.1, fv_zero, s2]; exact decide_eq_decide.2 (by omega)
    have hvb := hd.v i
    unfold rGo rBy
    rw [hs]
    by_cases h0 : V i = 0
    · rw [decide_eq_false (show ¬ 0 < V i by omega), Bool.not_false, Bool.or_true]
      rcases bg_ok hd hi 4 (Nat.le_refl _) with ⟨h1, h2, h3⟩ | ⟨h1, _⟩ | ⟨h1, _⟩
      · rw [h2, h3]; exact ⟨rfl, rfl⟩
      · omega
      · omega
    · have hni : ¬ n ≤ i := fun hn => h0 (hd.vn i hn)
      rw [decide_eq_true (show 0 < V i by omega), decide_eq_false hni]
      obtain ⟨b1, b2⟩ := br_eq hd ho hi (by omega) 4 (Nat.le_refl _)
      rw [Nat.min_eq_right ho] at b1 b2
      exact ⟨b1.symm, b2.symm⟩
  refine fst_ext rfl rfl ?_ ?_
  · funext q
    show (if q < 4 then rGo h s t n o q else false) = if q < 4 then bgG h s t q 4 else false
    by_cases hq : q < 4
    · rw [if_pos hq, if_pos hq, (key q hq).1]
    · rw [if_neg hq, if_neg hq]
  · funext q
    show (if q < 4 then rBy h s t n o q else 0) = if q < 4 then bgB h s t q 4 else 0
    by_cases hq : q < 4
    · rw [if_pos hq, if_pos hq, (key q hq).2]
    · rw [if_neg hq, if_neg hq]
/-- Both fillings are one. -/
theorem fil_eq (hd : Fd h s t n o W V p) (ho : o ≤ 4) : filR h s t n o = filI h s t := by
  unfold filR filI
  rw [beg_eq hd ho]
  exact it_eq hd 8 0 _ (iv_beg hd) (by omega)
end
end Go.Proofs.Ytjghdagcmombnaa

/- The rounds of a function's loops, by number: so that a round can be proved by itself. No program in sight. -/
namespace Go.Proofs.Ytjghdagcmombnaa
open Go.RowKit

def loopsOf : Code → List Code
  | .seq a b => loopsOf a ++ loopsOf b
  | .cond _ a b => loopsOf a ++ loopsOf b
  | .block _ a => loopsOf a
  | .loop a => a :: loopsOf a
  | _ => []
/-- The body of a function's loop with a number. -/
def roundOf (fn : Func) (k : Nat) : Code := match fn.body with
  | some c => (loopsOf c)[k]?.getD .skip
  | none => .skip
end Go.Proofs.Ytjghdagcmombnaa
