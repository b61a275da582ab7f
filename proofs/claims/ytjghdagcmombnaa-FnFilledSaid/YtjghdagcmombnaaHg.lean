/- Fillings: what stops, and the end. No program in sight. -/
import Derived.Test.YtjghdagcmombnaaHq
import Derived.Test.YtjghdagcmombnaaOpW
import Derived.DeepKeys
import Derived.Test.YtjghdagcmombnaaHf
import Derived.Test.YtjghdagcmombnaaGe
import Derived.Test.YtjghdagcmombnaaGa
import Derived.Test.YtjghdagcmombnaaDr2

namespace Go.Proofs.Ytjghdagcmombnaa
open Ieee
open Go.RowKit
attribute [local irreducible] AW AOs AO AQ AQW thenA inBlockA postA ACalls Pure
set_option linter.unusedSimpArgs false
set_option linter.unusedVariables false
set_option linter.unusedSectionVars false

def anyG (S : FSt) : Bool := S.g 0 || S.g 1 || S.g 2 || S.g 3
def cntG (S : FSt) : Nat := (S.g 0).toNat + (S.g 1).toNat + (S.g 2).toNat + (S.g 3).toNat
def itI (h s t : Nat → Nat) : Nat → FSt → FSt
  | 0, S => S
  | m + 1, S => if anyG S then itI h s t m (rndI h s t S) else S
def S00 : FSt := ⟨fun _ => 0, fun _ => 0, fun _ => false, fun _ => 0⟩
def filI (h s t : Nat → Nat) : FSt := itI h s t 8 (oS h s t S00 4)
theorem any_ex {S : FSt} (hg : anyG S = true) : ∃ i, i < 4 ∧ S.g i = true := by
  unfold anyG at hg
  simp only [Bool.or_eq_true] at hg
  rcases hg with ((h | h) | h) | h
  · exact ⟨0, by omega, h⟩
  · exact ⟨1, by omega, h⟩
  · exact ⟨2, by omega, h⟩
  · exact ⟨3, by omega, h⟩
theorem any_no {S : FSt} (hg : anyG S = false) : ∀ i, i < 4 → S.g i = false := by
  unfold anyG at hg
  simp only [Bool.or_eq_false_iff] at hg
  obtain ⟨⟨⟨h0, h1⟩, h2⟩, h3⟩ := hg
  intro i hi
  obtain rfl | rfl | rfl | rfl : i = 0 ∨ i = 1 ∨ i = 2 ∨ i = 3 := by omega
  · exact h0
  · exact h1
  · exact h2
  · exact h3
theorem toNat_le {a b : Bool} (h : b = true → a = true) : b.toNat ≤ a.toNat := by
  cases a <;> cases b <;> simp_all
theorem cnt_lt {S S' : FSt} (h1 : ∀ i, i < 4 → S'.g i = true → S.g i = true) (h2 : ∃ i, i < 4 ∧ S.g i = true ∧ S'.g i = false) : cntG S' < cntG S := by
  have k0 := toNat_le (h1 0 (by omega))
  have k1 := toNat_le (h1 1 (by omega))
  have k2 := toNat_le (h1 2 (by omega))
  have k3 := toNat_le (h1 3 (by omega))
  have t1 : true.toNat = 1 := rfl
  have t0 : false.toNat = 0 := rfl
  obtain ⟨i, hi, g1, g2⟩ := h2
  unfold cntG
  obtain rfl | rfl | rfl | rfl : i = 0 ∨ i = 1 ∨ i = 2 ∨ i = 3 := by omega
  all_goals rw [g1, g2] at *
  all_goals omega
theorem cnt_any {S : FSt} (h : cntG S ≤ 0) : anyG S = false := by
  unfold cntG at h
  unfold anyG
  cases h0 : S.g 0 <;> cases h1 : S.g 1 <;> cases h2 : S.g 2 <;> cases h3 : S.g 3 <;> simp_all
section
variable {h s t : Nat → Nat} {n o : Nat} {W : Nat → Nat → Int} {V p : Nat → Int} {m : Int} {S : FSt}
theorem it_ok (hd : Fd h s t n o W V p) {Q : FSt → Prop} (hQ : ∀ m S, Iv s t n W V m S → (∃ i, i < 4 ∧ S.g i = true) → Q S → Q (rndI h s t S)) : ∀ (k : Nat) (m : Int) (S : FSt), Iv s t n W V m S → Q S → cntG S ≤ k → m + k ≤ 8 → (∃ m', Iv s t n W V m' (itI h s t k S)) ∧ Q (itI h s t k S) ∧ anyG (itI h s t k S) = false
  | 0, m, S, hv, hq, hc, _ => ⟨⟨m, hv⟩, hq, cnt_any hc⟩
  | k + 1, m, S, hv, hq, hc, hm => by
    show (∃ m', Iv s t n W V m' (if anyG S then itI h s t k (rndI h s t S) else S)) ∧ Q (if anyG S then itI h s t k (rndI h s t S) else S) ∧ anyG (if anyG S then itI h s t k (rndI h s t S) else S) = false
    cases hg : anyG S
    · exact ⟨⟨m, hv⟩, hq, hg⟩
    · have he := any_ex hg
      have hl := cnt_lt (fun i hi hgi => rnd_go hi hgi) (rnd_stop hd hv he)
      exact it_ok hd hQ k (m + 1) _ (iv_round hd hv he (by omega)) (hQ m S hv he hq) (by omega) (by omega)
/-! ### The begin -/
theorem bg_ok (hd : Fd h s t n o W V p) {i : Nat} (hi : i < 4) : ∀ K, K ≤ 4 → (V i = 0 ∧ bgG h s t i K = false ∧ bgB h s t i K = -1) ∨ (0 < V i ∧ bgG h s t i K = true ∧ bgB h s t i K = -1 ∧ ∀ k, k < K → 0 < W i k → fv (t k) ≠ 0) ∨ (0 < V i ∧ bgG h s t i K = false ∧ ∃ k, k < K ∧ bgB h s t i K = (k : Int) ∧ 0 < W i k ∧ fv (t k) = 0)
  | 0, _ => by
    obtain ⟨s1, s2⟩ := hd.s i hi
    have hv := hd.v i
    show (_ ∧ fgt .f32 (s i) 0 = false ∧ (-1 : Int) = -1) ∨ (_ ∧ fgt .f32 (s i) 0 = true ∧ (-1 : Int) = -1 ∧ _) ∨ _
    rw [fgt_fv s1.1 nn_zero.1, fv_zero, s2]
    by_cases h0 : V i = 0
    · exact .inl ⟨h0, decide_eq_false (by omega), rfl⟩
    · exact .inr (.inl ⟨by omega, decide_eq_true (by omega), rfl, fun k hk => by omega⟩)
  | k + 1, hK => by
    have ih := bg_ok hd hi k (by omega)
    obtain ⟨s1, s2⟩ := hd.s i hi
    obtain ⟨a1, a2⟩ := hd.a i k hi (by omega)
    obtain ⟨t1, t2, _⟩ := hd.t k (by omega)
    have hb : bgC h s t i k (bgB h s t i k) = (decide (0 < V i) && decide (0 < W i k) && decide (fv (t k) = 0) && decide (bgB h s t i k < 0)) := by
      unfold bgC
      rw [fgt_fv s1.1 nn_zero.1, fgt_fv a1.1 nn_zero.1, feq_fv t1.1 nn_zero.1, fv_zero, s2, a2, decide_eq_decide.2 (show 0 < V i * 2 ^ 145 ↔ 0 < V i by omega), decide_eq_decide.2 (show 0 < W i k * 2 ^ 145 ↔ 0 < W i k by omega)]
    have eg : bgG h s t i (k + 1) = if bgC h s t i k (bgB h s t i k) then false else bgG h s t i k := rfl
    have eb : bgB h s t i (k + 1) = if bgC h s t i k (bgB h s t i k) then (k : Int) else bgB h s t i k := rfl
    rw [eg, eb, hb]
    rcases ih with ⟨h1, h2, h3⟩ | ⟨h1, h2, h3, h4⟩ | ⟨h1, h2, q, h3, h4, h5⟩
    · rw [decide_eq_false (show ¬ 0 < V i by omega)]
      simp only [Bool.false_and, Bool.false_eq_true, if_false]
      exact .inl ⟨h1, h2, h3⟩
    · rw [h3, decide_eq_true h1]
      by_cases hw : 0 < W i k
      · by_cases ht : fv (t k) = 0
        · rw [decide_eq_true hw, decide_eq_true ht]
          exact .inr (.inr ⟨h1, rfl, k, by omega, rfl, hw, ht⟩)
        · rw [decide_eq_false ht]
          simp only [Bool.and_false, Bool.false_and, Bool.false_eq_true, if_false]
          refine .inr (.inl ⟨h1, h2, by first | rfl | trivial, fun q hq hq0 => ?_⟩)
          by_cases e : q = k
          · rw [e]; exact ht
          · exact h4 q (by omega) hq0
      · rw [decide_eq_false hw]
        simp only [Bool.and_false, Bool.false_and, Bool.false_eq_true, if_false]
        refine .inr (.inl ⟨h1, h2, by first | rfl | trivial, fun q hq hq0 => ?_⟩)
        by_cases e : q = k
        · rw [e] at hq0; exact absurd hq0 hw
        · exact h4 q (by omega) hq0
    · rw [h4, decide_eq_false (show ¬ ((q : Int) < 0) by omega)]
      simp only [Bool.and_false, Bool.false_eq_true, if_false]
      exact .inr (.inr ⟨h1, h2, q, by omega, rfl, h5⟩)
theorem beg_g {i : Nat} (hi : i < 4) : (oS h s t S00 4).g i = bgG h s t i 4 ∧ (oS h s t S00 4).b i = bgB h s t i 4 := ⟨if_pos hi, if_pos hi⟩
theorem iv_beg (hd : Fd h s t n o W V p) : Iv s t n W V 0 (oS h s t S00 4) := by
  refine ⟨fun i hi hg => ?_, fun i hi => ⟨nn_zero, ?_⟩, fun k hk => nn_zero, by omega, fun k hk => ?_⟩
  · rw [(beg_g hi).1] at hg
    rcases bg_ok hd hi 4 (Nat.le_refl _) with ⟨h1, h2, h3⟩ | ⟨h1, h2, h3, h4⟩ | ⟨h1, h2, _⟩
    · rw [h2] at hg; cases hg
    · refine ⟨Nat.lt_of_not_le fun hni => ?_, h1, fun k hk hw => ?_⟩
      · have := hd.vn i hni; omega
      · exact ((hd.t k hk).2.2).resolve_left (h4 k hk hw)
    · rw [h2] at hg; cases hg
  · have := nn_bd (hd.s i hi).1
    show fv 0 ≤ _
    rw [fv_zero]; omega
  · show 16 * fv 0 ≤ (fv 0 * W 0 k + fv 0 * W 1 k + fv 0 * W 2 k + fv 0 * W 3 k) + _ ∧ (fv 0 * W 0 k + fv 0 * W 1 k + fv 0 * W 2 k + fv 0 * W 3 k) ≤ 16 * fv 0 + _
    rw [fv_zero]
    simp
/-! ### What is taken -/
/-- What comes to an out is at most what it takes, nearly; an out that stops is full, nearly. -/
theorem come_ok (hd : Fd h s t n o W V p) (hv : Iv s t n W V m S) {L : Nat} (hL : Lk h s t W p S L) {k : Nat} (hk : k < 4) (ht : fv (t k) ≤ 2 ^ 150) :
    (fv (S.c k) ≤ fv (t k) + 11 * 2 ^ 132 → fv (fadd .f32 (S.c k) (fmul .f32 (rtI h S k) L)) ≤ fv (t k) + 11 * 2 ^ 132) ∧ (hitB t L (rtI h S) S k = true → fv (t k) ≤ fv (fadd .f32 (S.c k) (fmul .f32 (rtI h S k) L)) + 11 * 2 ^ 132) := by
  obtain ⟨a1, a2, a3, a4, a5⟩ := cm_ok hd hv hL hk
  have rb := rk_bd (S := S) hd k
  have L0 := nn_bd hL.nn
  by_cases h0 : 0 < rk p W S k
  · obtain ⟨o1, x1, o2, _⟩ := out_fv hd hv hk h0
    obtain ⟨r1, r2⟩ := rt_fv hd hv hk
    obtain ⟨t1, t2, t3⟩ := hd.t k hk
    have c2 := c_bd hd hv hk
    have t0 := nn_bd t1
    have hlo := hL.lo k hk h0
    have hh : hitB t L (rtI h S) S k = decide (fv (outI t (rtI h S) S k) = fv L) := by
      unfold hitB outsF
      rw [rt_pos hd hv hk, decide_eq_true h0]
      show feq .f32 (outI t (rtI h S) S k) L = _
      rw [feq_fv o1.1 hL.nn.1]
    rw [hh]
    have ea : ((fv (rtI h S k)).natAbs : Int) = fv (rtI h S k) := Int.natAbs_of_nonneg (by omega)
    have da : 0 < (fv (rtI h S k)).natAbs := by omega
    have o0 := nn_bd o1
    rcases o2 with ⟨x0, d2⟩ | ⟨hc, e0⟩
    · have xn := x1.near (by decide) (e := 132) (by decide) (by simp; omega) (by simp; omega)
      simp only [Int.natCast_one, Int.mul_one] at xn
      have xb : fv (fsub .f32 (t k) (S.c k)) ≤ fv (t k) := x1.le_of t1.1 (by simp; omega)
      have dn := d2.near da (e := 132) (by decide) (by rw [ea, r2]; omega) (by rw [ea, r2]; omega)
      rw [ea, r2] at dn
      have e1 : fv (outI t (rtI h S) S k) * (rk p W S k * 2 ^ 143) = rk p W S k * fv (outI t (rtI h S) S k) * 2 ^ 143 := by rw [← Int.mul_assoc, Int.mul_comm (fv (outI t (rtI h S) S k))]
      rw [e1] at dn
      have hm1 := Int.mul_le_mul_of_nonneg_left hlo rb.1
      refine ⟨fun _ => by omega, fun he => ?_⟩
      rw [of_decide_eq_true he] at dn
      omega
    · refine ⟨fun hup => ?_, fun _ => by omega⟩
      rw [e0, fv_zero] at hlo
      rw [a5 (by rw [show fv L = 0 by omega, Int.mul_zero])]
      exact hup
  · refine ⟨fun hup => ?_, fun hh => ?_⟩
    · rw [a5 (by rw [show rk p W S k = 0 by omega, Int.zero_mul])]
      exact hup
    · unfold hitB at hh
      rw [rt_pos hd hv hk, decide_eq_false h0] at hh
      cases hh
/-- What is told of the ways and outs, where outs take little. -/
structure Sv (s t : Nat → Nat) (W : Nat → Nat → Int) (S : FSt) : Prop where
  st : ∀ i, i < 4 → (S.g i = true ∧ S.b i = -1) ∨ (S.g i = false ∧ S.b i = -1 ∧ S.f i = s i) ∨ (S.g i = false ∧ ∃ k, k < 4 ∧ S.b i = ((k : Nat) : Int) ∧ 0 < W i k ∧ fv (t k) ≤ fv (S.c k) + 11 * 2 ^ 132)
  up : ∀ k, k < 4 → fv (S.c k) ≤ fv (t k) + 11 * 2 ^ 132
theorem sv_beg (hd : Fd h s t n o W V p) : Sv s t W (oS h s t S00 4) := by
  refine ⟨fun i hi => ?_, fun k hk => ?_⟩
  · rw [(beg_g hi).1, (beg_g hi).2]
    rcases bg_ok hd hi 4 (Nat.le_refl _) with ⟨h1, h2, h3⟩ | ⟨h1, h2, h3, h4⟩ | ⟨h1, h2, k, h3, h4, h5, h6⟩
    · refine .inr (.inl ⟨h2, h3, ?_⟩)
      obtain ⟨s1, s2⟩ := hd.s i hi
      show 0 = s i
      exact nn_eq nn_zero s1 (by rw [fv_zero, s2, h1, Int.zero_mul])
    · exact .inl ⟨h2, h3⟩
    · refine .inr (.inr ⟨h2, k, h3, h4, h5, ?_⟩)
      show fv (t k) ≤ fv 0 + _
      rw [h6, fv_zero]; omega
  · have := nn_bd (hd.t k hk).1
    show fv 0 ≤ _
    rw [fv_zero]; omega
theorem sv_round (hd : Fd h s t n o W V p) (hv : Iv s t n W V m S) (hg : ∃ i, i < 4 ∧ S.g i = true) (ht : ∀ k, k < 4 → fv (t k) ≤ 2 ^ 150) (hs : Sv s t W S) : Sv s t W (rndI h s t S) := by
  have hL := lst_ok hd hv hg
  refine ⟨fun i hi => ?_, fun k hk => ?_⟩
  · rcases rnd_g (h := h) (s := s) (t := t) (S := S) hi with ⟨g1, g2⟩ | ⟨g1, g2, k, k1, k2, k3, k4⟩
    · rw [g1, g2, flS_ge _ hi, rnd_f, flS_fe _ hi]
      rcases hs.st i hi with ⟨h1, h2⟩ | ⟨h1, h2, h3⟩ | ⟨h1, k, k1, k2, k3, k4⟩
      · rw [h1, h2]
        cases hq : feq .f32 (inI h s S i) (lst h s t S)
        · exact .inl ⟨rfl, rfl⟩
        · exact .inr (.inl ⟨rfl, rfl, rfl⟩)
      · rw [h1]
        exact .inr (.inl ⟨rfl, h2, h3⟩)
      · rw [h1]
        refine .inr (.inr ⟨rfl, k, k1, k2, k3, ?_⟩)
        rw [rnd_c k1]
        have := (cm_ok hd hv hL k1).2.1
        omega
    · rw [g2, k4]
      refine .inr (.inr ⟨rfl, k, k1, rfl, ?_, ?_⟩)
      · obtain ⟨a1, a2⟩ := hd.a i k hi k1
        rw [fgt_fv a1.1 nn_zero.1, fv_zero, a2] at k3
        have := of_decide_eq_true k3
        omega
      · rw [rnd_c k1]
        exact (come_ok hd hv hL k1 (ht k k1)).2 k2
  · rw [rnd_c hk]
    exact (come_ok hd hv hL hk (ht k hk)).1 (hs.up k hk)
/-- Where outs take much, none stops a way. -/
structure Wv (s : Nat → Nat) (S : FSt) : Prop where
  st : ∀ i, i < 4 → S.b i = -1 ∧ (S.g i = false → S.f i = s i)
theorem wv_beg (hd : Fd h s t n o W V p) (hw : ∀ i k, i < 4 → k < 4 → 0 < W i k → 100 * 2 ^ 149 ≤ fv (t k)) : Wv s (oS h s t S00 4) := ⟨fun i hi => by
  rw [(beg_g hi).1, (beg_g hi).2]
  rcases bg_ok hd hi 4 (Nat.le_refl _) with ⟨h1, h2, h3⟩ | ⟨h1, h2, h3, h4⟩ | ⟨h1, h2, k, h3, h4, h5, h6⟩
  · refine ⟨h3, fun _ => ?_⟩
    obtain ⟨s1, s2⟩ := hd.s i hi
    show 0 = s i
    exact nn_eq nn_zero s1 (by rw [fv_zero, s2, h1, Int.zero_mul])
  · exact ⟨h3, fun hc => by rw [h2] at hc; cases hc⟩
  · have := hw i k hi h3 h5
    omega⟩
theorem wv_hit (hd : Fd h s t n o W V p) (hv : Iv s t n W V m S) {L : Nat} (hL : Lk h s t W p S L) (hg : ∃ i, i < 4 ∧ S.g i = true) (hw : ∀ i k, i < 4 → k < 4 → 0 < W i k → 100 * 2 ^ 149 ≤ fv (t k)) {k : Nat} (hk : k < 4) : hitB t L (rtI h S) S k = false := by
  have rb := rk_bd (S := S) hd k
  by_cases h0 : 0 < rk p W S k
  · obtain ⟨o1, x1, o2, _⟩ := out_fv hd hv hk h0
    obtain ⟨⟨q, q1, q2, q3⟩, _⟩ := rk_ex hd hv hk h0
    have h100 := hw q k q1 hk q3
    obtain ⟨r1, r2⟩ := rt_fv hd hv hk
    have c2 := c_bd hd hv hk
    unfold hitB outsF
    rw [rt_pos hd hv hk, decide_eq_true h0]
    show feq .f32 (outI t (rtI h S) S k) L = false
    rw [feq_fv o1.1 hL.nn.1]
    refine decide_eq_false fun he => ?_
    have hLb := hL.bd
    have ea : ((fv (rtI h S k)).natAbs : Int) = fv (rtI h S k) := Int.natAbs_of_nonneg (by omega)
    rcases o2 with ⟨x0, d2⟩ | ⟨hc, e0⟩
    · have xg : 80 * 2 ^ 149 ≤ fv (fsub .f32 (t k) (S.c k)) := x1.ge (by decide) (by decide) (by simp; omega)
      have dg : 9 * 2 ^ 149 ≤ fv (outI t (rtI h S) S k) := d2.ge (by decide) (by decide) (by rw [ea, r2]; omega)
      omega
    · omega
  · unfold hitB
    rw [rt_pos hd hv hk, decide_eq_false h0]; rfl
theorem wv_round (hd : Fd h s t n o W V p) (hv : Iv s t n W V m S) (hg : ∃ i, i < 4 ∧ S.g i = true) (hw : ∀ i k, i < 4 → k < 4 → 0 < W i k → 100 * 2 ^ 149 ≤ fv (t k)) (hs : Wv s S) : Wv s (rndI h s t S) := by
  have hL := lst_ok hd hv hg
  refine ⟨fun i hi => ?_⟩
  rcases rnd_g (h := h) (s := s) (t := t) (S := S) hi with ⟨g1, g2⟩ | ⟨g1, g2, k, k1, k2, k3, k4⟩
  · rw [g1, g2, flS_ge _ hi, rnd_f, flS_fe _ hi]
    obtain ⟨h1, h2⟩ := hs.st i hi
    refine ⟨h1, fun hf => ?_⟩
    cases hq : S.g i
    · exact h2 hq
    · rw [hq, Bool.true_and] at hf
      cases hqq : feq .f32 (inI h s S i) (lst h s t S)
      · rw [hqq] at hf; cases hf
      · rfl
  · rw [wv_hit hd hv hL hg hw k1] at k2; cases k2
/-! ### The end -/
theorem cnt_4 (S : FSt) : cntG S ≤ 4 := by
  have hb : ∀ b : Bool, b.toNat ≤ 1 := fun b => by cases b <;> decide
  have h0 := hb (S.g 0)
  have h1 := hb (S.g 1)
  have h2 := hb (S.g 2)
  have h3 := hb (S.g 3)
  unfold cntG
  omega
theorem fil_ok (hd : Fd h s t n o W V p) (ht : ∀ k, k < 4 → fv (t k) ≤ 2 ^ 150) : (∃ m', Iv s t n W V m' (filI h s t)) ∧ Sv s t W (filI h s t) ∧ anyG (filI h s t) = false :=
  it_ok hd (Q := Sv s t W) (fun m S hv hg hq => sv_round hd hv hg ht hq) 8 0 _ (iv_beg hd) (sv_beg hd) (by have := cnt_4 (oS h s t S00 4); omega) (by omega)
theorem fil_wide (hd : Fd h s t n o W V p) (hw : ∀ i k, i < 4 → k < 4 → 0 < W i k → 100 * 2 ^ 149 ≤ fv (t k)) : ∀ i, i < 4 → (filI h s t).b i = -1 ∧ (filI h s t).f i = s i := fun i hi => by
  obtain ⟨_, h1, h2⟩ := it_ok hd (Q := Wv s) (fun m S hv hg hq => wv_round hd hv hg hw hq) 8 0 _ (iv_beg hd) (wv_beg hd hw) (by have := cnt_4 (oS h s t S00 4); omega) (by omega)
  obtain ⟨h3, h4⟩ := h1.st i hi
  exact ⟨h3, h4 (any_no h2 i hi)⟩
end
end Go.Proofs.Ytjghdagcmombnaa

/- Equality of a struct of eight truth values and a whole number. No program in sight. -/
namespace Go.Proofs.Ytjghdagcmombnaa
open Go.RowKit
attribute [local irreducible] AW AOs AO AQ AQW thenA inBlockA postA ACalls Pure
set_option linter.unusedSimpArgs false
set_option linter.unusedVariables false
set_option linter.unusedSectionVars false

theorem rig_flat {xs : List Value} (h : ∀ c ∈ xs, ∀ r y, VR r c y → y = c) : ∀ r y, VR r (.agg xs.toArray) y → y = .agg xs.toArray := fun r y hv => by
  obtain ⟨ys, rfl, hl, hx⟩ := hv.agg_inv
  have : ys = xs := List.ext_getElem? fun i => by
    simp only at hl hx
    by_cases hi : i < xs.length
    · have h1 : xs[i]? = some xs[i] := List.getElem?_eq_getElem hi
      have h2 : ys[i]? = some (ys[i]'(by omega)) := List.getElem?_eq_getElem _
      rw [h1, h2, h _ (List.getElem_mem hi) r _ (hx i _ _ h1 h2)]
    · rw [List.getElem?_eq_none (by omega), List.getElem?_eq_none (by omega)]
  rw [this]
section
variable {P : Program} {ops l : List Oper} {K : St → Prop} {n d : Nat} {t : Env} {m : Mem} {ty : Nat} {pos : String}
end
end Go.Proofs.Ytjghdagcmombnaa

/- Equality of an array of truth values with itself. No program in sight. -/
namespace Go.Proofs.Ytjghdagcmombnaa
open Go.RowKit
attribute [local irreducible] AW AOs AO AQ AQW thenA inBlockA postA ACalls Pure
set_option linter.unusedSimpArgs false
set_option linter.unusedVariables false
set_option linter.unusedSectionVars false

theorem rig_bools {cs : List Value} (hb : ∀ c ∈ cs, ∃ b, c = .bool b) : ∀ r y, VR r (.agg cs.toArray) y → y = .agg cs.toArray :=
  rig_flat fun c hc => by obtain ⟨b, rfl⟩ := hb c hc; exact rig_bool _
theorem tab_bools {n : Nat} {p : Nat → Bool} : ∀ c ∈ tab n (fun i => Value.bool (p i)), ∃ b, c = .bool b := fun c hc => by
  obtain ⟨i, _, rfl⟩ := List.mem_map.1 hc
  exact ⟨_, rfl⟩
section
variable {P : Program} {ops l : List Oper} {K : St → Prop} {n d : Nat} {t : Env} {m : Mem} {ty : Nat} {pos : String}
end
end Go.Proofs.Ytjghdagcmombnaa

/- Equality of arrays of four: truth values against none, integers against themselves. No program in sight. -/
namespace Go.Proofs.Ytjghdagcmombnaa
open Go.RowKit
attribute [local irreducible] AW AOs AO AQ AQW thenA inBlockA postA ACalls Pure
set_option linter.unusedSimpArgs false
set_option linter.unusedVariables false
set_option linter.unusedSectionVars false

def arr4B (P : Program) (t : TypeId) : Bool := match P.underlying t with
  | some (.array n e) => decide (n = 4) && (decide (P.cellsOf t = 4) && (decide (P.cellsOf e = 1) && (match P.underlying e with | some .bool => true | _ => false)))
  | _ => false
def arr4I (P : Program) (t : TypeId) : Bool := match P.underlying t with
  | some (.array n e) => decide (n = 4) && (decide (P.cellsOf t = 4) && (decide (P.cellsOf e = 1) && (match P.underlying e with | some (.int q) => decide (q = .i64) | _ => false)))
  | _ => false
theorem formed4 {P : Program} {t e : TypeId} {n : Nat} {cs : List Value} (hu : P.underlying t = some (.array n e)) (hc : cs.length = P.cellsOf t) : (Value.agg cs.toArray).formed P t = true := by
  show (match P.underlying t with | some (.struct _) | some (.array _ _) => cs.toArray.size == P.cellsOf t | _ => false) = true
  rw [hu]
  simp [hc]
theorem lits4B {P : Program} {t : TypeId} (h : arr4B P t = true) (a b c d : Bool) : P.keyLits 3 t [.bool a, .bool b, .bool c, .bool d] = some [.bool a, .bool b, .bool c, .bool d] ∧ (Value.agg [Value.bool a, .bool b, .bool c, .bool d].toArray).formed P t = true := by
  unfold arr4B at h
  split at h
  · rename_i n e hu
    simp only [Bool.and_eq_true, decide_eq_true_eq] at h
    obtain ⟨h1, h2, h3, h4⟩ := h
    refine ⟨?_, formed4 hu (by rw [h2]; rfl)⟩
    subst h1
    split at h4
    · rename_i hue
      have key : ∀ x : Bool, P.keyLits 2 e [.bool x] = some [.bool x] := fun x => by unfold Program.keyLits; rw [hue]
      unfold Program.keyLits
      rw [hu]
      simp only [h2, h3]
      simp [show List.range 4 = [0, 1, 2, 3] from rfl, List.mapM_cons, key]
    · cases h4
  · cases h
theorem eq4B_run {P : Program} {t : TypeId} (h : arr4B P t = true) (hk : P.keyTypeAt 3 t = true) (p : Nat → Bool) (w : World) :
    (Op.equalIn 10000 t (.agg (tab 4 fun i => .bool (p i)).toArray) (.agg (tab 4 fun _ => .bool false).toArray)).run P w = .ok (!(p 0 || p 1 || p 2 || p 3)) w := by
  obtain ⟨x1, x2⟩ := lits4B h (p 0) (p 1) (p 2) (p 3)
  obtain ⟨y1, y2⟩ := lits4B h false false false false
  obtain ⟨r, h2, h3⟩ := run_equalIn_deep 9997 3 t hk w 3 3 (.agg [Value.bool (p 0), .bool (p 1), .bool (p 2), .bool (p 3)].toArray) (.agg [Value.bool false, .bool false, .bool false, .bool false].toArray) _ _ x2 y2 x1 y1
  have e : r = !(p 0 || p 1 || p 2 || p 3) := by
    clear h2 x1 x2 y1 y2
    revert h3
    cases r <;> cases p 0 <;> cases p 1 <;> cases p 2 <;> cases p 3 <;> simp
  rw [← e]; exact h2
theorem lits4I {P : Program} {t : TypeId} (h : arr4I P t = true) {a b c d : Int} (ha : (Lit.int .i64 a).wf = true) (hb : (Lit.int .i64 b).wf = true) (hc : (Lit.int .i64 c).wf = true) (hd : (Lit.int .i64 d).wf = true) : P.keyLits 3 t [.int .i64 a, .int .i64 b, .int .i64 c, .int .i64 d] = some [.int .i64 a, .int .i64 b, .int .i64 c, .int .i64 d] ∧ (Value.agg [Value.int .i64 a, .int .i64 b, .int .i64 c, .int .i64 d].toArray).formed P t = true := by
  unfold arr4I at h
  split at h
  · rename_i n e hu
    simp only [Bool.and_eq_true, decide_eq_true_eq] at h
    obtain ⟨h1, h2, h3, h4⟩ := h
    refine ⟨?_, formed4 hu (by rw [h2]; rfl)⟩
    subst h1
    split at h4
    · rename_i q hue
      rw [decide_eq_true_eq] at h4
      subst h4
      have key : ∀ x : Int, (Lit.int .i64 x).wf = true → P.keyLits 2 e [.int .i64 x] = some [.int .i64 x] := fun x hx => by
        unfold Program.keyLits; rw [hue]
        simp [hx]
      unfold Program.keyLits
      rw [hu]
      simp only [h2, h3]
      simp [show List.range 4 = [0, 1, 2, 3] from rfl, List.mapM_cons, key a ha, key b hb, key c hc, key d hd]
    · cases h4
  · cases h
theorem eq4I_run {P : Program} {t : TypeId} (h : arr4I P t = true) (hk : P.keyTypeAt 3 t = true) (p : Nat → Int) (hp : ∀ i, i < 4 → (Lit.int .i64 (p i)).wf = true) (w : World) :
    (Op.equalIn 10000 t (.agg (tab 4 fun i => .int .i64 (p i)).toArray) (.agg (tab 4 fun i => .int .i64 (p i)).toArray)).run P w = .ok true w := by
  obtain ⟨x1, x2⟩ := lits4I h (hp 0 (by omega)) (hp 1 (by omega)) (hp 2 (by omega)) (hp 3 (by omega))
  obtain ⟨r, h2, h3⟩ := run_equalIn_deep 9997 3 t hk w 3 3 (.agg [Value.int .i64 (p 0), .int .i64 (p 1), .int .i64 (p 2), .int .i64 (p 3)].toArray) (.agg [Value.int .i64 (p 0), .int .i64 (p 1), .int .i64 (p 2), .int .i64 (p 3)].toArray) _ _ x2 x2 x1 x1
  have e : r = true := h3.2 rfl
  rw [← e]; exact h2
theorem tab_ints {n : Nat} {p : Nat → Int} : ∀ r y, VR r (.agg (tab n fun i => Value.int .i64 (p i)).toArray) y → y = .agg (tab n fun i => Value.int .i64 (p i)).toArray :=
  rig_flat fun c hc => by
    obtain ⟨i, hi, rfl⟩ := List.mem_map.1 hc
    exact rig_int _ _
section
variable {P : Program} {ops l : List Oper} {K : St → Prop} {n d : Nat} {t : Env} {m : Mem} {ty : Nat} {pos : String}
theorem o_eqB4 {xt yt : TypeId} {x y : Operand} {p : Nat → Bool} {b : Bool} {af : _} (hb : (p 0 || p 1 || p 2 || p 3) = b) (hx : evalA t x = .agg (tab 4 fun i => .bool (p i)).toArray := by (conv => (lhs; whnf)); first | done | rfl) (hy : evalA t y = .agg (tab 4 fun _ => .bool false).toArray := by (conv => (lhs; whnf)); first | done | rfl)
    (ht : arr4B P xt = true := by decide +kernel) (hk : P.keyTypeAt 3 xt = true := by decide +kernel) (hg : P.eqGuardType P.depth xt = false := by decide +kernel) (hd : Nat.blt d n = true := by rfl) (h : AOs P ops l K ⟨n, (d, .bool (!b)) :: t, m⟩) :
    AOs P ops (⟨some d, .binOp .eql xt x y yt, ty, pos, af, none⟩ :: l) K ⟨n, t, m⟩ :=
  o_bin hx hy (rig_bools tab_bools) (rig_bools tab_bools) (fun w => by
    rw [Sem.run_bind, run_eqGuard_agg w .eql xt x y _ _ hg]
    show (binOp .eql xt _ _).run P w = _
    rw [run_eql_struct, eq4B_run ht hk p w, hb]
    rfl) (fun r => VR.bool r _) hd h
theorem o_neI4 {xt yt : TypeId} {x y : Operand} {p : Nat → Int} {af : _} (hp : ∀ i, i < 4 → (Lit.int .i64 (p i)).wf = true) (hx : evalA t x = .agg (tab 4 fun i => .int .i64 (p i)).toArray := by (conv => (lhs; whnf)); first | done | rfl) (hy : evalA t y = .agg (tab 4 fun i => .int .i64 (p i)).toArray := by (conv => (lhs; whnf)); first | done | rfl)
    (ht : arr4I P xt = true := by decide +kernel) (hk : P.keyTypeAt 3 xt = true := by decide +kernel) (hg : P.eqGuardType P.depth xt = false := by decide +kernel) (hd : Nat.blt d n = true := by rfl) (h : AOs P ops l K ⟨n, (d, .bool false) :: t, m⟩) :
    AOs P ops (⟨some d, .binOp .neq xt x y yt, ty, pos, af, none⟩ :: l) K ⟨n, t, m⟩ :=
  o_bin hx hy tab_ints tab_ints (fun w => by
    rw [Sem.run_bind, run_eqGuard_agg w .neq xt x y _ _ hg]
    show (binOp .neq xt _ _).run P w = _
    rw [run_neq_struct, eq4I_run ht hk p hp w]
    rfl) (fun r => VR.bool r _) hd h
end
end Go.Proofs.Ytjghdagcmombnaa

/- A filling: the program's, whole. -/
namespace Go.Proofs.Ytjghdagcmombnaa
open Go.RowKit
attribute [local irreducible] AW AOs AO AQ AQW thenA inBlockA postA ACalls Pure
set_option linter.unusedSimpArgs false
set_option linter.unusedVariables false
set_option linter.unusedSectionVars false

abbrev foB (g : Nat → Nat) : Blk := ⟨tab 4 fun q => .float .f32 (g q), none, true⟩
abbrev flB (g : Nat → Nat) : Blk := ⟨tab 16 fun q => .float .f32 (g q), none, true⟩
abbrev byV (b : Nat → Int) : Value := .agg (tab 4 fun q => .int .i64 (b q)).toArray
section
variable {n o : Nat} {h s t : Nat → Nat} (hP : jnP (n : Int) (o : Int) h) (hn : 1 ≤ n ∧ n ≤ 4) (ho : 1 ≤ o ∧ o ≤ 4) (hs : SnOk n s) (ht : SnOk o t)
include hP hn ho hs ht
set_option maxHeartbeats 4000000 in
theorem imeetCodeT (M : Mem) : Pure Try.prog 19 [jnV (n : Int) (o : Int) h, foV s, foV t] M (.int .i64 0) := by
  refine pure_of Try.func19 Try.ntmps19 rfl rfl (by repeat' (first | exact Flat.int _ _ | fail)) ?_
  have hV := fun M' => iValidJunction (n : Int) (o : Int) h M'
  rw [decide_eq_true hP] at hV
  have h1 := fun M' => jareOf s n hn M' hs.am hs.zero
  have h2 := fun M' => jareOf t o ho M' ht.am ht.zero
  simp only [envOf, Nat.zero_add, Nat.reduceAdd]
  repeat' (first | (refine d_AOs (h := ?_) ; first | refine o_move (h := ?_) | refine o_assign (h := ?_) | refine AOs.nil (h := ?_) | (refine d_grd (h := ?_) ; first | refine g_yes (h := ?_)) | refine o_load (hv := jn_ld0) (h := ?_) | refine o_load (hv := jn_ld1) (h := ?_) | refine o_call (hc := (hV _)) (h := ?_) | refine o_call (hc := (h1 _)) (h := ?_) | refine o_call (hc := (h2 _)) (h := ?_) | refine o_call (hc := (icodeIfF _ _)) (h := ?_) | refine o_load (h := ?_) | refine o_field (h := ?_) | refine o_pick (h := ?_) | refine o_not (h := ?_) | refine o_box (h := ?_)) | (refine d_AW (h := ?_) ; first | refine AW.seq (h := ?_) | refine AW.region (h := ?_) | (refine AW.cond (ht := (fun hc => ?_)) (hf := (fun hc => ?_)) <;> (try (with_reducible first | exact absurd hc Bool.false_ne_true | exact absurd hc.symm Bool.false_ne_true)) <;> (try simp only [decide_eq_true_eq, decide_eq_false_iff_not, Int.ofNat_inj, Bool.not_eq_true', Bool.not_eq_false', Int.not_lt, Int.not_le] at hc) <;> (try (exfalso; omega)) <;> (try (exact absurd hc (by decide)))) | refine AW.ret (h := ?_) | refine AW.skip (h := ?_)) | (first | refine t_normal ?_) | (refine d_post (h := ?_) ; first | refine p_ret1 rfl (h := ?_)) | fail)
  all_goals first | rfl | (exfalso; simp at hc; done)
end
section
variable (n o : Int) (h s t : Nat → Nat)
theorem iroundE (S : FSt) (hg : ∃ i, i < 4 ∧ S.g i = true) (M : Mem) (x y z : Blk) :
    Mut Try.prog 41 [.pointer (some ⟨M.length + 3, 0, none⟩)] (M ++ [x, y, z, fiB n o h s t S]) (.tuple #[]) (M ++ [x, y, z, fiB n o h s t (rndI h s t S)]) := by
  have := iround n o h s t S hg (M.length + 3) (M ++ [x, y, z, fiB n o h s t S]) (by simp)
  rw [set_tail, set_tail] at this
  exact this
theorem ibeginE (S : FSt) (M : Mem) (x y z : Blk) :
    Mut Try.prog 40 [.pointer (some ⟨M.length + 3, 0, none⟩)] (M ++ [x, y, z, fiB n o h s t S]) (.tuple #[]) (M ++ [x, y, z, fiB n o h s t (oS h s t S 4)]) := by
  have := ibegin n o h s t S (M.length + 3) (M ++ [x, y, z, fiB n o h s t S]) (by simp)
  rw [set_tail, set_tail] at this
  exact this
set_option maxHeartbeats 16000000 in
theorem ifill (M : Mem) : Alloc Try.prog 23 [jnV n o h, foV s, foV t] M (.pointer (some ⟨M.length, 0, none⟩)) [fiB n o h s t (filI h s t)] := by
  refine alloc_of [3] Try.func23 Try.ntmps23 rfl rfl rfl (by decide) ?_
  have hb := fun x y z => ibeginE n o h s t S00 M x y z
  simp only [envOf, Nat.zero_add, Nat.reduceAdd]
  repeat' (first | (refine d_AOs (h := ?_) ; first | refine o_move (h := ?_) | refine o_assign (h := ?_) | refine AOs.nil (h := ?_) | refine o_callM (hc := (hb _ _ _)) (h := ?_) | refine o_build (cs := tab 46 (fiV n o h s t S00)) (hf := by rfl) (h := ?_) | refine o_load (h := ?_) | refine o_box (h := ?_)) | (refine d_AW (h := ?_) ; first | refine AW.seq (h := ?_) | refine AW.region (h := ?_) | refine AW.block (h := ?_)) | (first | refine t_normal ?_) | fail)
  refine AW.loopN [7, 15] (fun kk st => ∃ (r : Nat) (S : FSt), r + kk = 8 ∧ itI h s t kk S = filI h s t ∧ st = ⟨27, [(7, .pointer (some ⟨M.length + 3, 0, none⟩)), (15, .int .i64 (r : Int))], M ++ [jnB n o h, foB s, foB t, fiB n o h s t S]⟩) 8 ⟨0, oS h s t S00 4, by omega, rfl, rfl⟩ ?_
  clear hb
  rintro kk st ⟨r, S, hr, hS, rfl⟩
  by_cases hr8 : r < 8
  · obtain ⟨k', rfl⟩ : ∃ k', kk = k' + 1 := ⟨kk - 1, by omega⟩
    have hG := fld_G (d := 22) (N := 46) (X := jnJ n o h) (s := s) (t := t) (S := S) rfl
    cases hA : anyG S
    · have e : itI h s t (k' + 1) S = S := by show (if anyG S then _ else _) = _; rw [hA]; rfl
      rw [e] at hS
      rw [hS] at hG
      have hA2 : ((filI h s t).g 0 || (filI h s t).g 1 || (filI h s t).g 2 || (filI h s t).g 3) = false := by rw [← hS]; exact hA
      rw [hS]
      clear hS hA e
      generalize filI h s t = F at *
      repeat' (first | (refine d_AOs (h := ?_) ; first | refine o_move (h := ?_) | refine o_assign (h := ?_) | refine AOs.nil (h := ?_) | (refine d_bin (h := ?_) ; first | refine o_eqB4 (hb := hA2) (h := ?_) | refine o_lss (h := ?_)) | refine o_load (hv := hG) (h := ?_) | refine o_build (cs := tab 4 fun _ => .bool false) (hf := by rfl) (h := ?_) | refine o_field (h := ?_) | refine o_nil (h := ?_)) | (refine d_AW (h := ?_) ; first | refine AW.seq (h := ?_) | refine AW.region (h := ?_) | (refine AW.cond (ht := (fun hc => ?_)) (hf := (fun hc => ?_)) <;> (try (with_reducible first | exact absurd hc Bool.false_ne_true | exact absurd hc.symm Bool.false_ne_true)) <;> (try simp only [decide_eq_true_eq, decide_eq_false_iff_not, Int.ofNat_inj, Bool.not_eq_true', Bool.not_eq_false', Int.not_lt, Int.not_le] at hc) <;> (try (exfalso; omega)) <;> (try (exact absurd hc (by decide)))) | refine AW.block (h := ?_) | refine AW.ret (h := ?_) | refine AW.skip (h := ?_) | refine AW.exit (h := ?_)) | (first | refine t_normal ?_ | refine t_exit ?_ | refine b_exit ?_ | refine b_exit' (by decide) ?_) | fail)
      all_goals first | exact p_allocP rfl (by rfl) (by rfl) rfl rfl (fun c hc => Bel.flat (fi_flat c hc)) | (exfalso; simp at hc; done)
    · have e : itI h s t (k' + 1) S = itI h s t k' (rndI h s t S) := by show (if anyG S then _ else _) = _; rw [hA]; rfl
      rw [e] at hS
      have hm := fun x y z => iroundE n o h s t S (any_ex hA) M x y z
      have hA2 : (S.g 0 || S.g 1 || S.g 2 || S.g 3) = true := hA
      clear e hA
      generalize rndI h s t S = S' at *
      repeat' (first | (refine d_AOs (h := ?_) ; first | refine o_move (h := ?_) | refine AOs.nil (h := ?_) | (refine d_bin (h := ?_) ; first | refine o_eqB4 (hb := hA2) (h := ?_) | refine o_addS (h := ?_) | refine o_lss (h := ?_)) | refine o_load (hv := hG) (h := ?_) | refine o_callM (hc := (hm _ _ _)) (h := ?_) | refine o_build (cs := tab 4 fun _ => .bool false) (hf := by rfl) (h := ?_) | refine o_field (h := ?_) | refine o_nil (h := ?_)) | (refine d_AW (h := ?_) ; first | refine AW.seq (h := ?_) | refine AW.region (h := ?_) | (refine AW.cond (ht := (fun hc => ?_)) (hf := (fun hc => ?_)) <;> (try (with_reducible first | exact absurd hc Bool.false_ne_true | exact absurd hc.symm Bool.false_ne_true)) <;> (try simp only [decide_eq_true_eq, decide_eq_false_iff_not, Int.ofNat_inj, Bool.not_eq_true', Bool.not_eq_false', Int.not_lt, Int.not_le] at hc) <;> (try (exfalso; omega)) <;> (try (exact absurd hc (by decide)))) | refine AW.block (h := ?_) | refine AW.skip (h := ?_)) | (first | refine t_normal ?_ | refine b_normal ?_) | fail)
      all_goals first | exact ⟨k', by omega, r + 1, S', by omega, hS, rfl⟩ | (exfalso; simp at hc; done)
  · obtain rfl : kk = 0 := by omega
    have e : S = filI h s t := hS
    subst e
    generalize filI h s t = F at *
    repeat' (first | (refine d_AOs (h := ?_) ; first | refine o_move (h := ?_) | refine o_assign (h := ?_) | refine AOs.nil (h := ?_) | (refine d_bin (h := ?_) ; first | refine o_lss (h := ?_))) | (refine d_AW (h := ?_) ; first | refine AW.seq (h := ?_) | refine AW.region (h := ?_) | (refine AW.cond (ht := (fun hc => ?_)) (hf := (fun hc => ?_)) <;> (try (with_reducible first | exact absurd hc Bool.false_ne_true | exact absurd hc.symm Bool.false_ne_true)) <;> (try simp only [decide_eq_true_eq, decide_eq_false_iff_not, Int.ofNat_inj, Bool.not_eq_true', Bool.not_eq_false', Int.not_lt, Int.not_le] at hc) <;> (try (exfalso; omega)) <;> (try (exact absurd hc (by decide)))) | refine AW.ret (h := ?_) | refine AW.exit (h := ?_)) | (first | refine t_normal ?_ | refine t_exit ?_ | refine b_exit ?_) | fail)
    all_goals first | exact p_allocP rfl (by rfl) (by rfl) rfl rfl (fun c hc => Bel.flat (fi_flat c hc)) | (exfalso; omega)
end
end Go.Proofs.Ytjghdagcmombnaa
