/- Numbers of roads: plain facts. No program in sight. -/
import Derived.Test.YtafakhhcgbkfoaaDoorRw
namespace Go.Proofs.YtafakhhcgbkfoaaDoor
open Go.RowKit
attribute [local irreducible] AW AOs AO AQ AQW thenA inBlockA postA ACalls Pure
set_option linter.unusedSimpArgs false
set_option linter.unusedVariables false
set_option linter.unusedSectionVars false
open Ieee

theorem one_fin : fin32 1065353216 = true := by decide +kernel
/-- One. -/
def U : Int := 2 ^ 149
theorem fin_ffin {a : Nat} : ffin .f32 a = fin32 a := by
  unfold ffin fin32
  cases FloatKind.f32.decode a <;> rfl
theorem fin_lit (a : Nat) (h : fin32 a = true := by decide +kernel) : fin32 a = true := h
theorem fv_zero : fv 0 = 0 := by decide +kernel
theorem fv_one : fv 1065353216 = U := by decide +kernel
theorem fv_lp : fv 1015021568 = 2 ^ 143 := by decide +kernel
theorem fv_quarter : fv 1048576000 = 2 ^ 147 := by decide +kernel
theorem fv_eight : fv 1090519040 = 2 ^ 152 := by decide +kernel
theorem U_pos : 0 < U := by decide
/-- An amount. -/
theorem isAm_iff {a : Nat} : isAm a = true ↔ fin32 a = true ∧ (0 < fv a ∨ a = 0) := by
  unfold isAm
  rw [fin_ffin]
  cases hf : fin32 a
  · simp
  · rw [fgt_fv hf (by decide), fv_zero]
    simp
theorem am_nonneg {a : Nat} (h : isAm a = true) : 0 ≤ fv a := by
  rcases (isAm_iff.1 h).2 with h | h
  · omega
  · subst h; rw [fv_zero]; omega
theorem isSh_iff {a : Nat} : isSh a = true ↔ fin32 a = true ∧ (0 < fv a ∨ a = 0) ∧ fv a ≤ U := by
  unfold isSh
  rw [Bool.and_eq_true, isAm_iff]
  constructor
  · rintro ⟨⟨h1, h2⟩, h3⟩
    rw [fle_fv h1 (by decide +kernel), fv_one] at h3
    exact ⟨h1, h2, of_decide_eq_true h3⟩
  · rintro ⟨h1, h2, h3⟩
    refine ⟨⟨h1, h2⟩, ?_⟩
    rw [fle_fv h1 (by decide +kernel), fv_one]
    exact decide_eq_true h3
/-- A share: finite, from nothing to one. -/
theorem sh_bd {a : Nat} (h : isSh a = true) : fin32 a = true ∧ 0 ≤ fv a ∧ fv a ≤ U := by
  obtain ⟨h1, h2, h3⟩ := isSh_iff.1 h
  refine ⟨h1, ?_, h3⟩
  rcases h2 with h2 | h2
  · omega
  · subst h2; rw [fv_zero]; omega
theorem less_cases (a b : Nat) : less a b = a ∨ less a b = b := by
  unfold less; split
  · exact .inr rfl
  · exact .inl rfl
theorem less_fv {a b : Nat} (ha : fin32 a = true) (hb : fin32 b = true) : fin32 (less a b) = true ∧ fv (less a b) = min (fv a) (fv b) := by
  unfold less
  rw [flt_fv hb ha]
  by_cases h : fv b < fv a
  · rw [decide_eq_true h, if_pos rfl]; exact ⟨hb, by omega⟩
  · rw [decide_eq_false h]; exact ⟨ha, by simp; omega⟩
theorem held_fv {a : Nat} (ha : fin32 a = true) : fin32 (heldF a) = true ∧ fv (heldF a) = max 0 (min (fv a) U) := by
  unfold heldF
  rw [flt_fv ha (by decide), fgt_fv ha (by decide +kernel), fv_zero, fv_one]
  have := U_pos
  by_cases h : fv a < 0
  · rw [decide_eq_true h, if_pos rfl]; exact ⟨by decide, by rw [fv_zero]; omega⟩
  · rw [decide_eq_false h]
    by_cases h2 : U < fv a
    · rw [decide_eq_true h2]; exact ⟨one_fin, by simp only [Bool.false_eq_true, if_false, if_true]; rw [fv_one]; omega⟩
    · rw [decide_eq_false h2]; exact ⟨ha, by simp only [Bool.false_eq_true, if_false]; omega⟩
/-- What is small enough for all sums and products here. -/
theorem fm_big : (2 : Int) ^ 170 ≤ (FM : Int) := by decide +kernel
theorem fm_ok {x : Int} (h : -(2 ^ 170) ≤ x) (h2 : x ≤ 2 ^ 170) : x.natAbs ≤ FM := by
  have := fm_big
  omega
theorem rnd_add' {a b : Nat} (ha : fin32 a = true) (hb : fin32 b = true) (h : -(2 ^ 170) ≤ fv a + fv b) (h2 : fv a + fv b ≤ 2 ^ 170) : Rnd (fadd .f32 a b) (fv a + fv b) 1 := rnd_add ha hb (fm_ok h h2)
theorem rnd_sub' {a b : Nat} (ha : fin32 a = true) (hb : fin32 b = true) (h : -(2 ^ 170) ≤ fv a - fv b) (h2 : fv a - fv b ≤ 2 ^ 170) : Rnd (fsub .f32 a b) (fv a - fv b) 1 := rnd_sub ha hb (fm_ok h h2)
theorem rnd_mul' {a b : Nat} (ha : fin32 a = true) (hb : fin32 b = true) (h : -(2 ^ 170 * U) ≤ fv a * fv b) (h2 : fv a * fv b ≤ 2 ^ 170 * U) : Rnd (fmul .f32 a b) (fv a * fv b) (2 ^ 149) := by
  refine rnd_mul ha hb ?_
  have h3 : (2 : Int) ^ 170 * U ≤ ((FM * 2 ^ 149 : Nat) : Int) := by decide +kernel
  omega
theorem rnd_div' {a b : Nat} (ha : fin32 a = true) (hb : fin32 b = true) (hb0 : 0 < fv b) (h : -(2 ^ 170 * fv b) ≤ fv a * U) (h2 : fv a * U ≤ 2 ^ 170 * fv b) : Rnd (fdiv .f32 a b) (fv a * U) (fv b).natAbs := by
  have hm : (fv a).natAbs * 2 ^ 149 ≤ FM * (fv b).natAbs := by
    have h3 := Int.mul_le_mul_of_nonneg_right fm_big (Int.le_of_lt hb0)
    have e1 : (((fv a).natAbs * 2 ^ 149 : Nat) : Int) = ((fv a).natAbs : Int) * U := by rw [Int.natCast_mul]; rfl
    have e2 : ((FM * (fv b).natAbs : Nat) : Int) = (FM : Int) * fv b := by rw [Int.natCast_mul, Int.natAbs_of_nonneg (Int.le_of_lt hb0)]
    have e3 : ((fv a).natAbs : Int) * U = (fv a * U).natAbs := by rw [Int.natAbs_mul, Int.natCast_mul]; rfl
    omega
  have h := rnd_div ha hb (by omega) hm
  rw [if_neg (by omega)] at h
  exact h
theorem Rnd.fin {r : Nat} {num : Int} {den : Nat} (h : Rnd r num den) : fin32 r = true := h.1

/-! ### Not below nothing, and no negative nothing -/
def nn (a : Nat) : Prop := fin32 a = true ∧ a < 2147483648
theorem word_false {q : Nat} : FloatKind.f32.format.word false q = q := rfl
theorem nearest_small {m : Nat} {e : Int} : FloatKind.f32.format.nearest false m e < 2147483648 := by
  obtain ⟨q, hq, hl⟩ := nearest_word FloatKind.f32.format false m e
  have e3 : FloatKind.f32.format.infRung = 2139095040 := rfl
  rw [hq, word_false]; omega
theorem nn_form {a : Nat} (h : nn a) : ∃ m p : Nat, FloatKind.f32.decode a = .number false m ((p : Int) - 149) ∧ fv a = ((m * 2 ^ p : Nat) : Int) ∧ (fv a = 0 → a = 0) := by
  obtain ⟨s, m, p, hd, hv, q, hq, hrq, hm⟩ := fin_form h.1
  have e1 : FloatKind.f32.format.signWeight = 2147483648 := rfl
  have hs : s = false := by
    have hd' : FloatKind.f32.decode a = FloatKind.f32.format.read a := rfl
    unfold Ieee.Format.read at hd'
    simp only [e1] at hd'
    have h0 : a / 2147483648 = 0 := Nat.div_eq_of_lt h.2
    rw [h0] at hd'
    rw [hd] at hd'
    split at hd'
    · injection hd' 
    · split at hd'
      · injection hd'
      · split at hd' <;> cases hd'
  subst hs
  refine ⟨m, p, hd, hv, fun h0 => ?_⟩
  have h2 := fin_word (s := false) (q := a % 2147483648) (by
    refine Nat.lt_of_not_le fun hle => ?_
    have hd' : FloatKind.f32.decode a = FloatKind.f32.format.read a := rfl
    have e2 : FloatKind.f32.format.binade = 8388608 := rfl
    have e3 : FloatKind.f32.format.infRung = 2139095040 := rfl
    unfold Ieee.Format.read at hd'
    simp only [e1, e2, e3] at hd'
    rw [if_neg (by omega), if_neg (by omega), hd] at hd'
    split at hd' <;> cases hd')
  rw [word_false, Nat.mod_eq_of_lt h.2] at h2
  have h3 : rv a = 0 := by
    have := h2.2
    rw [h0] at this
    simp only [sg, Bool.false_eq_true, if_false] at this
    omega
  refine Nat.eq_zero_of_not_pos fun hp => ?_
  have := rv_lt hp
  omega
theorem nn_bd {a : Nat} (h : nn a) : 0 ≤ fv a := by
  obtain ⟨m, p, _, hv, _⟩ := nn_form h
  rw [hv]; omega
theorem nn_am {a : Nat} (h : nn a) : isAm a = true := by
  refine isAm_iff.2 ⟨h.1, ?_⟩
  obtain ⟨m, p, _, hv, h0⟩ := nn_form h
  by_cases e : fv a = 0
  · exact .inr (h0 e)
  · left; omega
theorem nn_sh {a : Nat} (h : nn a) (h1 : fv a ≤ U) : isSh a = true := by
  have := nn_am h
  unfold isSh
  rw [this, fle_fv h.1 (by decide +kernel), fv_one]
  exact decide_eq_true h1
theorem am_nn {a : Nat} (h : isAm a = true) (hl : a < 4294967296) : nn a := by
  obtain ⟨h1, h2⟩ := isAm_iff.1 h
  refine ⟨h1, ?_⟩
  rcases h2 with h2 | h2
  · refine Nat.lt_of_not_le fun hle => ?_
    obtain ⟨s, m, p, hd, hv, _⟩ := fin_form h1
    have e1 : FloatKind.f32.format.signWeight = 2147483648 := rfl
    have hd' : FloatKind.f32.decode a = FloatKind.f32.format.read a := rfl
    unfold Ieee.Format.read at hd'
    simp only [e1] at hd'
    have h0 : (a / 2147483648 % 2 == 1) = true := by
      have : a / 2147483648 = 1 := by omega
      rw [this]; rfl
    rw [h0, hd] at hd'
    have hs : s = true := by
      split at hd'
      · injection hd'
      · split at hd'
        · injection hd'
        · split at hd' <;> cases hd'
    rw [hv, hs] at h2
    simp only [sg, if_true] at h2
    omega
  · subst h2; decide
theorem nn_less {a b : Nat} (ha : nn a) (hb : nn b) : nn (less a b) := by
  rcases less_cases a b with h | h <;> rw [h] <;> assumption
theorem cf_small {a : Nat} (h : fin32 (cf .f32 a) = true) (ha : a < 2147483648) : cf .f32 a < 2147483648 := by
  by_cases hn : fnan .f32 a = true
  · rw [cf_of_nan hn] at h ⊢; exact absurd h (by decide)
  · rw [cf_of_not (by simpa using hn)]; exact ha
theorem nn_add {a b : Nat} (ha : nn a) (hb : nn b) (h2 : fv a + fv b ≤ 2 ^ 170) : nn (fadd .f32 a b) ∧ Rnd (fadd .f32 a b) (fv a + fv b) 1 := by
  have hr := rnd_add' ha.1 hb.1 (by have := nn_bd ha; have := nn_bd hb; omega) h2
  refine ⟨⟨hr.1, ?_⟩, hr⟩
  obtain ⟨m, p, hd, hv, _⟩ := nn_form ha
  obtain ⟨n, q, hd', hv', _⟩ := nn_form hb
  have hf := hr.1
  unfold fadd at hf ⊢
  have e : FloatKind.f32.format.add a b = (((FloatKind.f32.decode a).sum (FloatKind.f32.decode b)).map FloatKind.f32.format.write) := rfl
  rw [hd, hd'] at e
  rw [e] at hf ⊢
  simp only [Ieee.Datum.sum, Option.map_some, fres] at hf ⊢
  refine cf_small hf ?_
  generalize hbase : min ((p : Int) - 149) ((q : Int) - 149) = base at *
  have hs : (if signed false m ((p : Int) - 149 - base).toNat + signed false n ((q : Int) - 149 - base).toNat = 0 then (false && false) else decide (signed false m ((p : Int) - 149 - base).toNat + signed false n ((q : Int) - 149 - base).toNat < 0)) = false := by
    rw [signed_sg, signed_sg]
    simp only [sg, Bool.false_eq_true, if_false]
    split
    · rfl
    · exact decide_eq_false (by omega)
  show FloatKind.f32.format.nearest _ _ _ < _
  rw [hs]
  exact nearest_small
theorem nn_mul {a b : Nat} (ha : nn a) (hb : nn b) (h2 : fv a * fv b ≤ 2 ^ 170 * U) : nn (fmul .f32 a b) ∧ Rnd (fmul .f32 a b) (fv a * fv b) (2 ^ 149) := by
  have h0 : 0 ≤ fv a * fv b := Int.mul_nonneg (nn_bd ha) (nn_bd hb)
  have hU : (0 : Int) ≤ 2 ^ 170 * U := by decide +kernel
  have hr := rnd_mul' ha.1 hb.1 (by omega) h2
  refine ⟨⟨hr.1, ?_⟩, hr⟩
  obtain ⟨m, p, hd, hv, _⟩ := nn_form ha
  obtain ⟨n, q, hd', hv', _⟩ := nn_form hb
  have hf := hr.1
  unfold fmul at hf ⊢
  have e : FloatKind.f32.format.mul a b = (((FloatKind.f32.decode a).product (FloatKind.f32.decode b)).map FloatKind.f32.format.write) := rfl
  rw [hd, hd'] at e
  rw [e] at hf ⊢
  simp only [Ieee.Datum.product, Option.map_some, fres] at hf ⊢
  exact cf_small hf nearest_small
theorem nn_div {a b : Nat} (ha : nn a) (hb : nn b) (hb0 : 0 < fv b) (h2 : fv a * U ≤ 2 ^ 170 * fv b) : nn (fdiv .f32 a b) ∧ Rnd (fdiv .f32 a b) (fv a * U) (fv b).natAbs := by
  have h0 : 0 ≤ fv a * U := Int.mul_nonneg (nn_bd ha) (Int.le_of_lt U_pos)
  have hr := rnd_div' ha.1 hb.1 hb0 (by omega) h2
  refine ⟨⟨hr.1, ?_⟩, hr⟩
  obtain ⟨m, p, hd, hv, _⟩ := nn_form ha
  obtain ⟨n, q, hd', hv', _⟩ := nn_form hb
  have hf := hr.1
  unfold fdiv at hf ⊢
  have e : FloatKind.f32.format.div a b = (((FloatKind.f32.decode a).quotient 25 (FloatKind.f32.decode b)).map FloatKind.f32.format.write) := rfl
  rw [hd, hd'] at e
  rw [e] at hf ⊢
  have hn : n ≠ 0 := fun h => by rw [hv', h, Nat.zero_mul] at hb0; exact absurd hb0 (by decide)
  simp only [Ieee.Datum.quotient, if_neg hn, Option.map_some, fres] at hf ⊢
  exact cf_small hf nearest_small
/-- What is left, held. -/
theorem nn_held {a : Nat} (ha : fin32 a = true) (h : 0 ≤ fv a → nn a) : nn (heldF a) := by
  unfold heldF
  rw [flt_fv ha (by decide), fgt_fv ha (by decide +kernel), fv_zero, fv_one]
  by_cases h0 : fv a < 0
  · rw [decide_eq_true h0, if_pos rfl]; exact ⟨by decide, by decide⟩
  · rw [decide_eq_false h0]
    by_cases h2 : U < fv a
    · rw [decide_eq_true h2]; exact ⟨one_fin, (by decide : 1065353216 < 2147483648)⟩
    · rw [decide_eq_false h2]; exact h (by omega)
theorem nn_sub {a b : Nat} (ha : nn a) (hb : nn b) (h1 : fv a ≤ 2 ^ 170) (h2 : fv b ≤ 2 ^ 170) : Rnd (fsub .f32 a b) (fv a - fv b) 1 ∧ (0 ≤ fv a - fv b → nn (fsub .f32 a b)) ∧ (0 ≤ fv (fsub .f32 a b) → nn (fsub .f32 a b)) := by
  have g1 := nn_bd ha
  have g2 := nn_bd hb
  have hr := rnd_sub' ha.1 hb.1 (by omega) (by omega)
  obtain ⟨m, p, hd, hv, _⟩ := nn_form ha
  obtain ⟨n, q, hd', hv', _⟩ := nn_form hb
  have hkey : 0 ≤ fv a - fv b → nn (fsub .f32 a b) := fun h => by
    refine ⟨hr.1, ?_⟩
    have hf := hr.1
    unfold fsub at hf ⊢
    have e : FloatKind.f32.format.sub a b = (((FloatKind.f32.decode a).sum (FloatKind.f32.decode b).opposite).map FloatKind.f32.format.write) := rfl
    rw [hd, hd'] at e
    rw [e] at hf ⊢
    simp only [Ieee.Datum.opposite, Ieee.Datum.sum, Option.map_some, fres] at hf ⊢
    refine cf_small hf ?_
    generalize hbase : min ((p : Int) - 149) ((q : Int) - 149) = base at *
    obtain ⟨bb, hbb⟩ : ∃ b : Nat, base = (b : Int) - 149 := ⟨(base + 149).toNat, by omega⟩
    have hs : (if signed false m ((p : Int) - 149 - base).toNat + signed (!false) n ((q : Int) - 149 - base).toNat = 0 then (false && !false) else decide (signed false m ((p : Int) - 149 - base).toNat + signed (!false) n ((q : Int) - 149 - base).toNat < 0)) = false := by
      rw [show ((p : Int) - 149 - base).toNat = p - bb by omega, show ((q : Int) - 149 - base).toNat = q - bb by omega, signed_sg, signed_sg]
      simp only [sg, Bool.false_eq_true, if_false, Bool.not_false, if_true]
      split
      · rfl
      · refine decide_eq_false fun hlt => ?_
        have e1 : m * 2 ^ p = m * 2 ^ (p - bb) * 2 ^ bb := by rw [Nat.mul_assoc, ← Nat.pow_add, Nat.sub_add_cancel (by omega)]
        have e2 : n * 2 ^ q = n * 2 ^ (q - bb) * 2 ^ bb := by rw [Nat.mul_assoc, ← Nat.pow_add, Nat.sub_add_cancel (by omega)]
        rw [hv, hv', e1, e2] at h
        have h3 : n * 2 ^ (q - bb) * 2 ^ bb ≤ m * 2 ^ (p - bb) * 2 ^ bb := by omega
        have h4 := Nat.le_of_mul_le_mul_right h3 (Nat.two_pow_pos bb)
        omega
    show FloatKind.f32.format.nearest _ _ _ < _
    rw [hs]
    exact nearest_small
  refine ⟨hr, hkey, fun h => ?_⟩
  by_cases h3 : 0 ≤ fv a - fv b
  · exact hkey h3
  · -- below nothing: rounded to nothing at most
    exfalso
    have hz := hr.le (z := -1) (e := 0) (by decide) (by omega) (by simp; omega)
    simp at hz
    omega

/-! ### Roads -/
structure PbOk (p b : Nat) : Prop where
  pn : nn p
  bn : nn b
  p0 : 2 ^ 143 ≤ fv p
  p1 : fv p ≤ U
  b0 : 2 ^ 143 ≤ fv b
  b1 : fv b ≤ U
theorem U_val : U = 2 ^ 149 := rfl
section
variable {p b : Nat} (h : PbOk p b)
include h
theorem pb_sum : nn (fadd .f32 p b) ∧ Rnd (fadd .f32 p b) (fv p + fv b) 1 ∧ fv b ≤ fv (fadd .f32 p b) ∧ fv p ≤ fv (fadd .f32 p b) := by
  have := h.p0; have := h.p1; have := h.b0; have := h.b1
  have hU := U_val
  obtain ⟨h1, h2⟩ := nn_add h.pn h.bn (by omega)
  refine ⟨h1, h2, h2.ge_of h.bn.1 (by simp; omega), h2.ge_of h.pn.1 (by simp; omega)⟩
theorem pb_best : nn (bestF p b) ∧ Rnd (bestF p b) (fv b * U) (fv (fadd .f32 p b)).natAbs ∧ fv (bestF p b) ≤ U := by
  obtain ⟨h1, h2, h3, h4⟩ := pb_sum h
  have := h.p0; have := h.p1; have := h.b0; have := h.b1
  have hU := U_val
  obtain ⟨h5, h6⟩ := nn_div h.bn h1 (by omega) (by
    have e1 := Int.mul_le_mul_of_nonneg_right h3 (show (0 : Int) ≤ U by decide)
    have e2 := Int.mul_le_mul_of_nonneg_right (show U ≤ 2 ^ 170 by decide) (show 0 ≤ fv (fadd .f32 p b) by omega)
    rw [Int.mul_comm U] at e2
    omega)
  refine ⟨h5, h6, ?_⟩
  have := h6.le_of (c := 1065353216) (by decide +kernel) (by
    rw [fv_one, Int.natAbs_of_nonneg (by omega), Int.mul_comm U]
    exact Int.mul_le_mul_of_nonneg_right h3 (by decide))
  rwa [fv_one] at this
/-- The product of a share of a road with its pace (or its way back). -/
theorem mul_sh {p x : Nat} (hp : nn p) (hp1 : fv p ≤ U) (hx : nn x) (hx1 : fv x ≤ U) : nn (fmul .f32 p x) ∧ Rnd (fmul .f32 p x) (fv p * fv x) (2 ^ 149) ∧ fv (fmul .f32 p x) ≤ fv p ∧ fv (fmul .f32 p x) ≤ fv x := by
  have g1 := nn_bd hp
  have g2 := nn_bd hx
  have e1 := Int.mul_le_mul_of_nonneg_left hx1 g1
  have e2 := Int.mul_le_mul_of_nonneg_right hp1 g2
  have e3 : fv p * U ≤ 2 ^ 170 * U := Int.mul_le_mul_of_nonneg_right (by have := U_val; omega) (by decide)
  obtain ⟨h1, h2⟩ := nn_mul hp hx (by omega)
  have eU : ((2 ^ 149 : Nat) : Int) = U := rfl
  refine ⟨h1, h2, h2.le_of hp.1 (by rw [eU]; exact e1), h2.le_of hx.1 (by rw [eU, Int.mul_comm (fv x)]; exact e2)⟩
theorem pb_most : nn (mostF2 p b) ∧ Rnd (mostF2 p b) (fv p * fv (bestF p b)) (2 ^ 149) ∧ fv (mostF2 p b) ≤ fv p ∧ fv (mostF2 p b) ≤ fv (bestF p b) := by
  obtain ⟨h1, h2, h3⟩ := pb_best h
  exact mul_sh h h.pn h.p1 h1 h3
variable {x : Nat} (hx : nn x) (hx1 : fv x ≤ U)
include hx hx1
theorem pb_snd : nn (sndF p b x) ∧ fv (sndF p b x) = min (fv (fmul .f32 p x)) (fv (mostF2 p b)) ∧ fv (sndF p b x) ≤ fv x ∧ fv (sndF p b x) ≤ fv p := by
  obtain ⟨h1, _, h2, h3⟩ := mul_sh h h.pn h.p1 hx hx1
  obtain ⟨h4, _, h5, h6⟩ := pb_most h
  have h7 := (less_fv h1.1 h4.1).2
  refine ⟨nn_less h1 h4, h7, ?_, ?_⟩
  · show fv (less _ _) ≤ _; omega
  · show fv (less _ _) ≤ _; omega
theorem sub_one : nn (fsub .f32 1065353216 x) ∧ Rnd (fsub .f32 1065353216 x) (U - fv x) 1 ∧ fv (fsub .f32 1065353216 x) ≤ U := by
  have hU := U_val
  have := nn_bd hx
  obtain ⟨h1, h2, _⟩ := nn_sub (a := 1065353216) ⟨by decide +kernel, by decide⟩ hx (by rw [fv_one]; omega) (by omega)
  rw [fv_one] at h1 h2
  refine ⟨h2 (by omega), h1, ?_⟩
  have := h1.le_of (c := 1065353216) (by decide +kernel) (by rw [fv_one]; simp; omega)
  rwa [fv_one] at this
theorem pb_tks : nn (tksF p b x) ∧ fv (tksF p b x) = min (fv (fmul .f32 b (fsub .f32 1065353216 x))) (fv (mostF2 p b)) ∧ fv (tksF p b x) ≤ fv b ∧ fv (tksF p b x) ≤ fv (fsub .f32 1065353216 x) := by
  obtain ⟨g1, g2, g3⟩ := sub_one h hx hx1
  obtain ⟨h1, _, h2, h3⟩ := mul_sh h h.bn h.b1 g1 g3
  obtain ⟨h4, _, h5, h6⟩ := pb_most h
  have h7 := (less_fv h1.1 h4.1).2
  refine ⟨nn_less h1 h4, h7, ?_, ?_⟩
  · show fv (less _ _) ≤ _; omega
  · show fv (less _ _) ≤ _; omega
end
end Go.Proofs.YtafakhhcgbkfoaaDoor
