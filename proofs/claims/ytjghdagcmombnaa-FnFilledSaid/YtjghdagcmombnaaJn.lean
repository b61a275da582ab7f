/- What the functions on numbers and detectors give. -/
import Derived.Test.YtjghdagcmombnaaDr2
import Derived.Test.YtjghdagcmombnaaFv
import Derived.Test.YtjghdagcmombnaaFloat

namespace Go.Proofs.Ytjghdagcmombnaa
open Go.RowKit
attribute [local irreducible] AW AOs AO AQ AQW thenA inBlockA postA ACalls Pure
set_option linter.unusedSimpArgs false
set_option linter.unusedVariables false
set_option linter.unusedSectionVars false

/-- Neither a NaN nor an infinity. -/
def ffin (k : FloatKind) (a : Nat) : Bool := !(k.decode a).isNaN && !(k.decode a).isInfinity
theorem nn_of_fin {k : FloatKind} {a : Nat} (h : ffin k a = true) : fnan k a = false := by
  unfold ffin at h; unfold fnan; simp at h; exact h.1

theorem sub_self_fin (k : FloatKind) (a : Nat) : feq k (fsub k a a) 0 = ffin k a := by
  have z : ∀ s, k.decode (k.format.word s 0) = .number s 0 k.format.leastPlace ∧ fnan k (k.format.word s 0) = false := by
    intro s; cases k <;> cases s <;> exact ⟨rfl, rfl⟩
  unfold ffin feq fsub Ieee.Format.sub
  have hz : k.format.read 0 = .number false 0 k.format.leastPlace := by cases k <;> rfl
  cases hd : k.decode a with
  | nan s t =>
    have e : k.format.read a = .nan s t := hd
    rw [e]
    show (k.format.order (nanOf k) 0 == some .eq) = _
    cases k <;> rfl
  | infinity s =>
    have e : k.format.read a = .infinity s := hd
    rw [e]
    show (k.format.order (fres k (Option.map k.format.write (if s = !s then some (.infinity s) else none))) 0 == some .eq) = _
    cases s <;> cases k <;> rfl
  | number s mg ep =>
    have e : k.format.read a = .number s mg ep := hd
    rw [e]
    simp only [Ieee.Datum.opposite, Ieee.Datum.sum, Ieee.Datum.isNaN, Ieee.Datum.isInfinity, Bool.not_false, Bool.and_self, Option.map_some]
    have h0 : Ieee.signed s mg (ep - min ep ep).toNat + Ieee.signed (!s) mg (ep - min ep ep).toNat = 0 := by
      unfold Ieee.signed; cases s <;> simp <;> omega
    rw [h0]
    simp only [if_true, Int.natAbs_zero]
    have h1 : k.format.write (.number (s && !s) 0 (min ep ep)) = k.format.word false 0 := by
      show k.format.nearest _ 0 _ = _
      unfold Ieee.Format.nearest; cases s <;> rfl
    rw [h1]
    show (k.format.order (cf k (k.format.word false 0)) 0 == some .eq) = true
    rw [cf_of_not (z false).2]
    show ((k.decode (k.format.word false 0)).order (k.format.read 0) == some .eq) = true
    rw [(z false).1, hz]
    simp [Ieee.Datum.order]

theorem iisFinite (a : Nat) (M : Mem) : Pure Try.prog 47 [.float .f32 a] M (.bool (ffin .f32 a)) := by
  refine pure_of Try.func47 Try.ntmps47 rfl rfl (by repeat' (first | exact Flat.bool _ | fail)) ?_
  simp only [envOf, Nat.zero_add, Nat.reduceAdd]
  repeat' (first | (refine d_AOs (h := ?_) ; first | refine o_move (h := ?_) | refine o_assign (h := ?_) | refine AOs.nil (h := ?_) | (refine d_bin (h := ?_) ; first | refine o_feq (h := ?_) | refine o_fsub (h := ?_))) | (refine d_AW (h := ?_) ; first | refine AW.seq (h := ?_) | refine AW.region (h := ?_) | refine AW.ret (h := ?_)) | (first | refine t_normal ?_) | (refine d_post (h := ?_) ; first | refine p_ret1 rfl (h := ?_)) | fail)
  rw [sub_self_fin]
theorem sl01Finite (a : Nat) (M : Mem) : Pure Try.prog 52 [.float .f32 a] M (.bool (ffin .f32 a)) := by
  refine pure_of Try.func52 Try.ntmps52 rfl rfl (by repeat' (first | exact Flat.bool _ | fail)) ?_
  simp only [envOf, Nat.zero_add, Nat.reduceAdd]
  repeat' (first | (refine d_AOs (h := ?_) ; first | refine o_move (h := ?_) | refine o_assign (h := ?_) | refine AOs.nil (h := ?_) | (refine d_bin (h := ?_) ; first | refine o_feq (h := ?_) | refine o_fsub (h := ?_))) | (refine d_AW (h := ?_) ; first | refine AW.seq (h := ?_) | refine AW.region (h := ?_) | refine AW.ret (h := ?_)) | (first | refine t_normal ?_) | (refine d_post (h := ?_) ; first | refine p_ret1 rfl (h := ?_)) | fail)
  rw [sub_self_fin]

/-- An amount: finite, and not below the positive zero. -/
def isAm (a : Nat) : Bool := ffin .f32 a && (fgt .f32 a 0 || decide ((a : Int) = 0))
theorem sl01Amount (a : Nat) (M : Mem) : Pure Try.prog 50 [.float .f32 a] M (.bool (isAm a)) := by
  refine pure_of Try.func50 Try.ntmps50 rfl rfl (by repeat' (first | exact Flat.bool _ | fail)) ?_
  simp only [envOf, Nat.zero_add, Nat.reduceAdd]
  repeat' (first | (refine d_AOs (h := ?_) ; first | refine o_move (h := ?_) | refine o_assign (h := ?_) | refine AOs.nil (h := ?_) | (refine d_bin (h := ?_) ; first | refine o_eqi (h := ?_) | refine o_fgt (h := ?_)) | (refine d_grd (h := ?_) ; first | refine g_yes (h := ?_) | refine g_no (h := ?_) | refine g_undef (h := ?_) | (refine g_true (h1 := (fun hg => ?_)) (h0 := (fun hg => ?_)) <;> (try rw [hg]) <;> (try simp only [decide_eq_true_eq, decide_eq_false_iff_not, Int.ofNat_inj, Bool.not_eq_true', Bool.not_eq_false', Int.not_lt, Int.not_le] at hg) <;> (try (exfalso; omega)) <;> (try (exact absurd hg (by decide)))) | (refine g_false (h1 := (fun hg => ?_)) (h0 := (fun hg => ?_)) <;> (try rw [hg]) <;> (try simp only [decide_eq_true_eq, decide_eq_false_iff_not, Int.ofNat_inj, Bool.not_eq_true', Bool.not_eq_false', Int.not_lt, Int.not_le] at hg) <;> (try (exfalso; omega)) <;> (try (exact absurd hg (by decide))))) | refine o_call (hc := (sl01Finite _ _)) (h := ?_) | refine o_pick (h := ?_) | refine o_bits32 (h := ?_)) | (refine d_AW (h := ?_) ; first | refine AW.seq (h := ?_) | refine AW.region (h := ?_) | refine AW.ret (h := ?_)) | (first | refine t_normal ?_) | (refine d_post (h := ?_) ; first | refine p_ret1 rfl (h := ?_)) | fail)
  all_goals simp_all [isAm]
theorem mSignbit (a : Nat) (ha : fnan .f64 a = false) (M : Mem) : Pure Try.prog 70 [.float .f64 a] M (.bool (decide (IntKind.i64.wrap a < 0))) := by
  refine pure_of Try.func70 Try.ntmps70 rfl rfl (by repeat' (first | exact Flat.bool _ | fail)) ?_
  simp only [envOf, Nat.zero_add, Nat.reduceAdd]
  repeat' (first | (refine d_AOs (h := ?_) ; first | refine o_move (h := ?_) | refine o_assign (h := ?_) | refine AOs.nil (h := ?_) | (refine d_bin (h := ?_) ; first | refine o_lss (h := ?_)) | refine o_conv (h := ?_) | refine o_bits64 (h := ?_)) | (refine d_AW (h := ?_) ; first | refine AW.seq (h := ?_) | refine AW.region (h := ?_) | refine AW.ret (h := ?_)) | (first | refine t_normal ?_) | (refine d_post (h := ?_) ; first | refine p_ret1 rfl (h := ?_)) | fail)
  all_goals rfl

theorem nn_conv {a : Nat} (h : fnan .f32 a = false) : fnan .f64 (fconv .f32 .f64 a) = false := by
  unfold fconv
  cases hd : FloatKind.f32.decode a with
  | number s mg e =>
    show fnan .f64 (cf .f64 (FloatKind.f64.format.write _)) = false
    rw [cf_of_not (write_nn rfl)]; exact write_nn rfl
  | infinity s =>
    show fnan .f64 (cf .f64 (FloatKind.f64.format.write (.infinity s))) = false
    rw [cf_of_not (write_nn rfl)]; exact write_nn rfl
  | nan s f => unfold fnan at h; rw [hd] at h; cases h
theorem conv_word {a : Nat} {s : Bool} {mg : Nat} {e : Int} (h : FloatKind.f32.decode a = .number s mg e) : ∃ q, fconv .f32 .f64 a = FloatKind.f64.format.word s q ∧ q ≤ 9218868437227405312 := by
  obtain ⟨q, hq, hl⟩ := nearest_word FloatKind.f64.format s mg e
  refine ⟨q, ?_, hl⟩
  unfold fconv
  rw [h]
  show cf .f64 (FloatKind.f64.format.write _) = _
  rw [cf_of_not (write_nn rfl)]
  exact hq
theorem conv_neg {a : Nat} {s : Bool} {mg : Nat} {e : Int} (h : FloatKind.f32.decode a = .number s mg e) : decide (IntKind.i64.wrap (fconv .f32 .f64 a) < 0) = s := by
  obtain ⟨q, hq, hl⟩ := conv_word h
  have e1 : FloatKind.f64.format.signWeight = 9223372036854775808 := rfl
  rw [hq, IntKind.wrap_i64]
  unfold Ieee.Format.word
  rw [e1]
  cases s <;> simp <;> omega
theorem order_zero {k : FloatKind} {a : Nat} {s : Bool} {mg : Nat} {e : Int} (h : k.decode a = .number s mg e) : ∃ n, k.format.order a 0 = some (compare (Ieee.signed s mg n) 0) := by
  have hz : k.format.read 0 = .number false 0 k.format.leastPlace := by cases k <;> rfl
  unfold Ieee.Format.order
  have h' : k.format.read a = .number s mg e := h
  rw [h', hz]
  refine ⟨(e - min e k.format.leastPlace).toNat, ?_⟩
  simp only [Ieee.Datum.order]
  congr 2
  simp [Ieee.signed]
theorem zero_word {a : Nat} (ha : a < 4294967296) {s : Bool} {mg : Nat} {e : Int} (h : FloatKind.f32.decode a = .number s mg e) : (s = false ∧ mg = 0) ↔ a = 0 := by
  have e1 : FloatKind.f32.format.signWeight = 2147483648 := rfl
  have e2 : FloatKind.f32.format.binade = 8388608 := rfl
  have e3 : FloatKind.f32.format.infRung = 2139095040 := rfl
  unfold FloatKind.decode Ieee.Format.read at h
  simp only [e1, e2, e3] at h
  split at h
  · simp only [Ieee.Datum.number.injEq] at h
    obtain ⟨h1, h2, _⟩ := h
    rw [← h1, ← h2]
    simp only [beq_eq_false_iff_ne]
    omega
  · split at h
    · simp only [Ieee.Datum.number.injEq] at h
      obtain ⟨h1, h2, _⟩ := h
      rw [← h2]
      constructor
      · omega
      · intro h0; subst h0; omega
    · split at h <;> cases h
theorem am_eq {a : Nat} (ha : FltOk .f32 a) : (fge .f32 a 0 && (ffin .f32 a && !decide (IntKind.i64.wrap (fconv .f32 .f64 a) < 0))) = isAm a := by
  unfold isAm
  cases hd : FloatKind.f32.decode a with
  | nan s f => have : ffin .f32 a = false := by unfold ffin; rw [hd]; rfl
               rw [this]; simp
  | infinity s => have : ffin .f32 a = false := by unfold ffin; rw [hd]; rfl
                  rw [this]; simp
  | number s mg e =>
    have hf : ffin .f32 a = true := by unfold ffin; rw [hd]; rfl
    have hz := zero_word ha.1 hd
    rw [hf, conv_neg hd]
    obtain ⟨n, ho⟩ := order_zero hd
    unfold fge fgt
    rw [ho]
    cases s with
    | true =>
      have h0 : a ≠ 0 := fun h => by simp at hz; exact hz h
      have : ¬ Ieee.signed true mg n > 0 := by
        obtain ⟨z, hz⟩ : ∃ z : Nat, Ieee.signed true mg n = -(z : Int) := ⟨mg <<< n, rfl⟩
        omega
      have h2 : compare (Ieee.signed true mg n) 0 ≠ .gt := fun h => this (Int.compare_eq_gt.1 h)
      simp [h0, h2]
    | false =>
      obtain ⟨z, h1, h2⟩ : ∃ z : Nat, Ieee.signed false mg n = (z : Int) ∧ (mg ≠ 0 → 0 < z) :=
        ⟨mg <<< n, rfl, fun h => by rw [Nat.shiftLeft_eq]; exact Nat.mul_pos (by omega) (Nat.two_pow_pos n)⟩
      rw [h1]
      by_cases hm : mg = 0
      · have h0 : a = 0 := hz.1 ⟨rfl, hm⟩
        have h3 : z = 0 := by
          have : Ieee.signed false mg n = 0 := by subst hm; simp [Ieee.signed]
          omega
        subst h3
        simp [h0]
      · have h4 := h2 hm
        have h2 : compare (z : Int) 0 = .gt := Int.compare_eq_gt.2 (by omega)
        rw [h2]; simp
theorem iIsAmount (a : Nat) (M : Mem) : Pure Try.prog 69 [.float .f32 a] M (.bool (isAm a)) := by
  refine Pure.given 0 rfl fun ha => ?_
  refine pure_of Try.func69 Try.ntmps69 rfl rfl (by repeat' (first | exact Flat.bool _ | fail)) ?_
  rw [← am_eq ha]
  simp only [envOf, Nat.zero_add, Nat.reduceAdd]
  repeat' (first | (refine d_AOs (h := ?_) ; first | refine o_move (h := ?_) | refine o_assign (h := ?_) | refine AOs.nil (h := ?_) | (refine d_bin (h := ?_) ; first | refine o_fge (h := ?_)) | (refine d_grd (h := ?_) ; first | refine g_yes (h := ?_) | refine g_no (h := ?_) | (refine g_true (h1 := (fun hg => ?_)) (h0 := (fun hg => ?_)) <;> (try rw [hg]) <;> (try simp only [decide_eq_true_eq, decide_eq_false_iff_not, Int.ofNat_inj, Bool.not_eq_true', Bool.not_eq_false', Int.not_lt, Int.not_le] at hg) <;> (try (exfalso; omega)) <;> (try (exact absurd hg (by decide))))) | refine o_call (hc := (iisFinite _ _)) (h := ?_) | refine o_call (hc := (mSignbit _ (nn_conv (nn_of_fin (by assumption))) _)) (h := ?_) | refine o_pick (h := ?_) | refine o_not (h := ?_) | refine o_fconv (h := ?_)) | (refine d_AW (h := ?_) ; first | refine AW.seq (h := ?_) | refine AW.region (h := ?_) | refine AW.ret (h := ?_)) | (first | refine t_normal ?_) | (refine d_post (h := ?_) ; first | refine p_ret1 rfl (h := ?_)) | fail)
  all_goals simp_all

/-! ### Detectors -/
/-! ### Counts -/
end Go.Proofs.Ytjghdagcmombnaa

/- Roads: the words of their numbers. No program in sight. -/
namespace Go.Proofs.Ytjghdagcmombnaa
open Go.RowKit
attribute [local irreducible] AW AOs AO AQ AQW thenA inBlockA postA ACalls Pure
set_option linter.unusedSimpArgs false
set_option linter.unusedVariables false
set_option linter.unusedSectionVars false

/-! ### Words -/
def isSh (a : Nat) : Bool := isAm a && fle .f32 a 1065353216
def less (a b : Nat) : Nat := if flt .f32 b a = true then b else a
/-- A valid road. -/
structure RdOk (c : Nat → Nat) (p b l : Nat) : Prop where
  cars : ∀ q, q < 16 → isSh (c q) = true
  pace : isSh p = true
  back : isSh b = true
  paceL : fge .f32 p 1015021568 = true
  backL : fge .f32 b 1015021568 = true
  lanes : isAm l = true
  lanesL : fge .f32 l 1048576000 = true
  lanesH : fle .f32 l 1090519040 = true
end Go.Proofs.Ytjghdagcmombnaa

/- Numbers of roads: plain facts. No program in sight. -/
namespace Go.Proofs.Ytjghdagcmombnaa
open Go.RowKit
attribute [local irreducible] AW AOs AO AQ AQW thenA inBlockA postA ACalls Pure
set_option linter.unusedSimpArgs false
set_option linter.unusedVariables false
set_option linter.unusedSectionVars false
open Ieee

/-- One. -/
def U : Int := 2 ^ 149
theorem fin_ffin {a : Nat} : ffin .f32 a = fin32 a := by
  unfold ffin fin32
  cases FloatKind.f32.decode a <;> rfl
theorem fv_zero : fv 0 = 0 := by decide +kernel
theorem fv_one : fv 1065353216 = U := by decide +kernel
theorem fv_lp : fv 1015021568 = 2 ^ 143 := by decide +kernel
theorem fv_quarter : fv 1048576000 = 2 ^ 147 := by decide +kernel
theorem fv_eight : fv 1090519040 = 2 ^ 152 := by decide +kernel
theorem U_pos : 0 < U := by decide
/-- An amount. -/
theorem isAm_iff {a : Nat} : isAm a = true ↔ fin32 a = true ∧ (0 < fv a ∨ a = 0) := by
  unfold isAm
  rw [fin_ffin]
  cases hf : fin32 a
  · simp
  · rw [fgt_fv hf (by decide), fv_zero]
    simp
theorem isSh_iff {a : Nat} : isSh a = true ↔ fin32 a = true ∧ (0 < fv a ∨ a = 0) ∧ fv a ≤ U := by
  unfold isSh
  rw [Bool.and_eq_true, isAm_iff]
  constructor
  · rintro ⟨⟨h1, h2⟩, h3⟩
    rw [fle_fv h1 (by decide +kernel), fv_one] at h3
    exact ⟨h1, h2, of_decide_eq_true h3⟩
  · rintro ⟨h1, h2, h3⟩
    refine ⟨⟨h1, h2⟩, ?_⟩
    rw [fle_fv h1 (by decide +kernel), fv_one]
    exact decide_eq_true h3
/-- A share: finite, from nothing to one. -/
theorem sh_bd {a : Nat} (h : isSh a = true) : fin32 a = true ∧ 0 ≤ fv a ∧ fv a ≤ U := by
  obtain ⟨h1, h2, h3⟩ := isSh_iff.1 h
  refine ⟨h1, ?_, h3⟩
  rcases h2 with h2 | h2
  · omega
  · subst h2; rw [fv_zero]; omega
theorem less_cases (a b : Nat) : less a b = a ∨ less a b = b := by
  unfold less; split
  · exact .inr rfl
  · exact .inl rfl
theorem less_fv {a b : Nat} (ha : fin32 a = true) (hb : fin32 b = true) : fin32 (less a b) = true ∧ fv (less a b) = min (fv a) (fv b) := by
  unfold less
  rw [flt_fv hb ha]
  by_cases h : fv b < fv a
  · rw [decide_eq_true h, if_pos rfl]; exact ⟨hb, by omega⟩
  · rw [decide_eq_false h]; exact ⟨ha, by simp; omega⟩
/-- What is small enough for all sums and products here. -/
theorem fm_big : (2 : Int) ^ 170 ≤ (FM : Int) := by decide +kernel
theorem fm_ok {x : Int} (h : -(2 ^ 170) ≤ x) (h2 : x ≤ 2 ^ 170) : x.natAbs ≤ FM := by
  have := fm_big
  omega
theorem rnd_add' {a b : Nat} (ha : fin32 a = true) (hb : fin32 b = true) (h : -(2 ^ 170) ≤ fv a + fv b) (h2 : fv a + fv b ≤ 2 ^ 170) : Rnd (fadd .f32 a b) (fv a + fv b) 1 := rnd_add ha hb (fm_ok h h2)
theorem rnd_sub' {a b : Nat} (ha : fin32 a = true) (hb : fin32 b = true) (h : -(2 ^ 170) ≤ fv a - fv b) (h2 : fv a - fv b ≤ 2 ^ 170) : Rnd (fsub .f32 a b) (fv a - fv b) 1 := rnd_sub ha hb (fm_ok h h2)
theorem rnd_mul' {a b : Nat} (ha : fin32 a = true) (hb : fin32 b = true) (h : -(2 ^ 170 * U) ≤ fv a * fv b) (h2 : fv a * fv b ≤ 2 ^ 170 * U) : Rnd (fmul .f32 a b) (fv a * fv b) (2 ^ 149) := by
  refine rnd_mul ha hb ?_
  have h3 : (2 : Int) ^ 170 * U ≤ ((FM * 2 ^ 149 : Nat) : Int) := by decide +kernel
  omega
theorem rnd_div' {a b : Nat} (ha : fin32 a = true) (hb : fin32 b = true) (hb0 : 0 < fv b) (h : -(2 ^ 170 * fv b) ≤ fv a * U) (h2 : fv a * U ≤ 2 ^ 170 * fv b) : Rnd (fdiv .f32 a b) (fv a * U) (fv b).natAbs := by
  have hm : (fv a).natAbs * 2 ^ 149 ≤ FM * (fv b).natAbs := by
    have h3 := Int.mul_le_mul_of_nonneg_right fm_big (Int.le_of_lt hb0)
    have e1 : (((fv a).natAbs * 2 ^ 149 : Nat) : Int) = ((fv a).natAbs : Int) * U := by rw [Int.natCast_mul]; rfl
    have e2 : ((FM * (fv b).natAbs : Nat) : Int) = (FM : Int) * fv b := by rw [Int.natCast_mul, Int.natAbs_of_nonneg (Int.le_of_lt hb0)]
    have e3 : ((fv a).natAbs : Int) * U = (fv a * U).natAbs := by rw [Int.natAbs_mul, Int.natCast_mul]; rfl
    omega
  have h := rnd_div ha hb (by omega) hm
  rw [if_neg (by omega)] at h
  exact h
theorem Rnd.fin {r : Nat} {num : Int} {den : Nat} (h : Rnd r num den) : fin32 r = true := h.1

/-! ### Not below nothing, and no negative nothing -/
def nn (a : Nat) : Prop := fin32 a = true ∧ a < 2147483648
theorem word_false {q : Nat} : FloatKind.f32.format.word false q = q := rfl
theorem nearest_small {m : Nat} {e : Int} : FloatKind.f32.format.nearest false m e < 2147483648 := by
  obtain ⟨q, hq, hl⟩ := nearest_word FloatKind.f32.format false m e
  have e3 : FloatKind.f32.format.infRung = 2139095040 := rfl
  rw [hq, word_false]; omega
theorem nn_form {a : Nat} (h : nn a) : ∃ m p : Nat, FloatKind.f32.decode a = .number false m ((p : Int) - 149) ∧ fv a = ((m * 2 ^ p : Nat) : Int) ∧ (fv a = 0 → a = 0) := by
  obtain ⟨s, m, p, hd, hv, q, hq, hrq, hm⟩ := fin_form h.1
  have e1 : FloatKind.f32.format.signWeight = 2147483648 := rfl
  have hs : s = false := by
    have hd' : FloatKind.f32.decode a = FloatKind.f32.format.read a := rfl
    unfold Ieee.Format.read at hd'
    simp only [e1] at hd'
    have h0 : a / 2147483648 = 0 := Nat.div_eq_of_lt h.2
    rw [h0] at hd'
    rw [hd] at hd'
    split at hd'
    · injection hd' 
    · split at hd'
      · injection hd'
      · split at hd' <;> cases hd'
  subst hs
  refine ⟨m, p, hd, hv, fun h0 => ?_⟩
  have h2 := fin_word (s := false) (q := a % 2147483648) (by
    refine Nat.lt_of_not_le fun hle => ?_
    have hd' : FloatKind.f32.decode a = FloatKind.f32.format.read a := rfl
    have e2 : FloatKind.f32.format.binade = 8388608 := rfl
    have e3 : FloatKind.f32.format.infRung = 2139095040 := rfl
    unfold Ieee.Format.read at hd'
    simp only [e1, e2, e3] at hd'
    rw [if_neg (by omega), if_neg (by omega), hd] at hd'
    split at hd' <;> cases hd')
  rw [word_false, Nat.mod_eq_of_lt h.2] at h2
  have h3 : rv a = 0 := by
    have := h2.2
    rw [h0] at this
    simp only [sg, Bool.false_eq_true, if_false] at this
    omega
  refine Nat.eq_zero_of_not_pos fun hp => ?_
  have := rv_lt hp
  omega
theorem nn_bd {a : Nat} (h : nn a) : 0 ≤ fv a := by
  obtain ⟨m, p, _, hv, _⟩ := nn_form h
  rw [hv]; omega
theorem nn_am {a : Nat} (h : nn a) : isAm a = true := by
  refine isAm_iff.2 ⟨h.1, ?_⟩
  obtain ⟨m, p, _, hv, h0⟩ := nn_form h
  by_cases e : fv a = 0
  · exact .inr (h0 e)
  · left; omega
theorem nn_sh {a : Nat} (h : nn a) (h1 : fv a ≤ U) : isSh a = true := by
  have := nn_am h
  unfold isSh
  rw [this, fle_fv h.1 (by decide +kernel), fv_one]
  exact decide_eq_true h1
theorem am_nn {a : Nat} (h : isAm a = true) (hl : a < 4294967296) : nn a := by
  obtain ⟨h1, h2⟩ := isAm_iff.1 h
  refine ⟨h1, ?_⟩
  rcases h2 with h2 | h2
  · refine Nat.lt_of_not_le fun hle => ?_
    obtain ⟨s, m, p, hd, hv, _⟩ := fin_form h1
    have e1 : FloatKind.f32.format.signWeight = 2147483648 := rfl
    have hd' : FloatKind.f32.decode a = FloatKind.f32.format.read a := rfl
    unfold Ieee.Format.read at hd'
    simp only [e1] at hd'
    have h0 : (a / 2147483648 % 2 == 1) = true := by
      have : a / 2147483648 = 1 := by omega
      rw [this]; rfl
    rw [h0, hd] at hd'
    have hs : s = true := by
      split at hd'
      · injection hd'
      · split at hd'
        · injection hd'
        · split at hd' <;> cases hd'
    rw [hv, hs] at h2
    simp only [sg, if_true] at h2
    omega
  · subst h2; decide
theorem nn_less {a b : Nat} (ha : nn a) (hb : nn b) : nn (less a b) := by
  rcases less_cases a b with h | h <;> rw [h] <;> assumption
theorem cf_small {a : Nat} (h : fin32 (cf .f32 a) = true) (ha : a < 2147483648) : cf .f32 a < 2147483648 := by
  by_cases hn : fnan .f32 a = true
  · rw [cf_of_nan hn] at h ⊢; exact absurd h (by decide)
  · rw [cf_of_not (by simpa using hn)]; exact ha
theorem nn_add {a b : Nat} (ha : nn a) (hb : nn b) (h2 : fv a + fv b ≤ 2 ^ 170) : nn (fadd .f32 a b) ∧ Rnd (fadd .f32 a b) (fv a + fv b) 1 := by
  have hr := rnd_add' ha.1 hb.1 (by have := nn_bd ha; have := nn_bd hb; omega) h2
  refine ⟨⟨hr.1, ?_⟩, hr⟩
  obtain ⟨m, p, hd, hv, _⟩ := nn_form ha
  obtain ⟨n, q, hd', hv', _⟩ := nn_form hb
  have hf := hr.1
  unfold fadd at hf ⊢
  have e : FloatKind.f32.format.add a b = (((FloatKind.f32.decode a).sum (FloatKind.f32.decode b)).map FloatKind.f32.format.write) := rfl
  rw [hd, hd'] at e
  rw [e] at hf ⊢
  simp only [Ieee.Datum.sum, Option.map_some, fres] at hf ⊢
  refine cf_small hf ?_
  generalize hbase : min ((p : Int) - 149) ((q : Int) - 149) = base at *
  have hs : (if signed false m ((p : Int) - 149 - base).toNat + signed false n ((q : Int) - 149 - base).toNat = 0 then (false && false) else decide (signed false m ((p : Int) - 149 - base).toNat + signed false n ((q : Int) - 149 - base).toNat < 0)) = false := by
    rw [signed_sg, signed_sg]
    simp only [sg, Bool.false_eq_true, if_false]
    split
    · rfl
    · exact decide_eq_false (by omega)
  show FloatKind.f32.format.nearest _ _ _ < _
  rw [hs]
  exact nearest_small
theorem nn_mul {a b : Nat} (ha : nn a) (hb : nn b) (h2 : fv a * fv b ≤ 2 ^ 170 * U) : nn (fmul .f32 a b) ∧ Rnd (fmul .f32 a b) (fv a * fv b) (2 ^ 149) := by
  have h0 : 0 ≤ fv a * fv b := Int.mul_nonneg (nn_bd ha) (nn_bd hb)
  have hU : (0 : Int) ≤ 2 ^ 170 * U := by decide +kernel
  have hr := rnd_mul' ha.1 hb.1 (by omega) h2
  refine ⟨⟨hr.1, ?_⟩, hr⟩
  obtain ⟨m, p, hd, hv, _⟩ := nn_form ha
  obtain ⟨n, q, hd', hv', _⟩ := nn_form hb
  have hf := hr.1
  unfold fmul at hf ⊢
  have e : FloatKind.f32.format.mul a b = (((FloatKind.f32.decode a).product (FloatKind.f32.decode b)).map FloatKind.f32.format.write) := rfl
  rw [hd, hd'] at e
  rw [e] at hf ⊢
  simp only [Ieee.Datum.product, Option.map_some, fres] at hf ⊢
  exact cf_small hf nearest_small
theorem nn_div {a b : Nat} (ha : nn a) (hb : nn b) (hb0 : 0 < fv b) (h2 : fv a * U ≤ 2 ^ 170 * fv b) : nn (fdiv .f32 a b) ∧ Rnd (fdiv .f32 a b) (fv a * U) (fv b).natAbs := by
  have h0 : 0 ≤ fv a * U := Int.mul_nonneg (nn_bd ha) (Int.le_of_lt U_pos)
  have hr := rnd_div' ha.1 hb.1 hb0 (by omega) h2
  refine ⟨⟨hr.1, ?_⟩, hr⟩
  obtain ⟨m, p, hd, hv, _⟩ := nn_form ha
  obtain ⟨n, q, hd', hv', _⟩ := nn_form hb
  have hf := hr.1
  unfold fdiv at hf ⊢
  have e : FloatKind.f32.format.div a b = (((FloatKind.f32.decode a).quotient 25 (FloatKind.f32.decode b)).map FloatKind.f32.format.write) := rfl
  rw [hd, hd'] at e
  rw [e] at hf ⊢
  have hn : n ≠ 0 := fun h => by rw [hv', h, Nat.zero_mul] at hb0; exact absurd hb0 (by decide)
  simp only [Ieee.Datum.quotient, if_neg hn, Option.map_some, fres] at hf ⊢
  exact cf_small hf nearest_small
theorem nn_sub {a b : Nat} (ha : nn a) (hb : nn b) (h1 : fv a ≤ 2 ^ 170) (h2 : fv b ≤ 2 ^ 170) : Rnd (fsub .f32 a b) (fv a - fv b) 1 ∧ (0 ≤ fv a - fv b → nn (fsub .f32 a b)) ∧ (0 ≤ fv (fsub .f32 a b) → nn (fsub .f32 a b)) := by
  have g1 := nn_bd ha
  have g2 := nn_bd hb
  have hr := rnd_sub' ha.1 hb.1 (by omega) (by omega)
  obtain ⟨m, p, hd, hv, _⟩ := nn_form ha
  obtain ⟨n, q, hd', hv', _⟩ := nn_form hb
  have hkey : 0 ≤ fv a - fv b → nn (fsub .f32 a b) := fun h => by
    refine ⟨hr.1, ?_⟩
    have hf := hr.1
    unfold fsub at hf ⊢
    have e : FloatKind.f32.format.sub a b = (((FloatKind.f32.decode a).sum (FloatKind.f32.decode b).opposite).map FloatKind.f32.format.write) := rfl
    rw [hd, hd'] at e
    rw [e] at hf ⊢
    simp only [Ieee.Datum.opposite, Ieee.Datum.sum, Option.map_some, fres] at hf ⊢
    refine cf_small hf ?_
    generalize hbase : min ((p : Int) - 149) ((q : Int) - 149) = base at *
    obtain ⟨bb, hbb⟩ : ∃ b : Nat, base = (b : Int) - 149 := ⟨(base + 149).toNat, by omega⟩
    have hs : (if signed false m ((p : Int) - 149 - base).toNat + signed (!false) n ((q : Int) - 149 - base).toNat = 0 then (false && !false) else decide (signed false m ((p : Int) - 149 - base).toNat + signed (!false) n ((q : Int) - 149 - base).toNat < 0)) = false := by
      rw [show ((p : Int) - 149 - base).toNat = p - bb by omega, show ((q : Int) - 149 - base).toNat = q - bb by omega, signed_sg, signed_sg]
      simp only [sg, Bool.false_eq_true, if_false, Bool.not_false, if_true]
      split
      · rfl
      · refine decide_eq_false fun hlt => ?_
        have e1 : m * 2 ^ p = m * 2 ^ (p - bb) * 2 ^ bb := by rw [Nat.mul_assoc, ← Nat.pow_add, Nat.sub_add_cancel (by omega)]
        have e2 : n * 2 ^ q = n * 2 ^ (q - bb) * 2 ^ bb := by rw [Nat.mul_assoc, ← Nat.pow_add, Nat.sub_add_cancel (by omega)]
        rw [hv, hv', e1, e2] at h
        have h3 : n * 2 ^ (q - bb) * 2 ^ bb ≤ m * 2 ^ (p - bb) * 2 ^ bb := by omega
        have h4 := Nat.le_of_mul_le_mul_right h3 (Nat.two_pow_pos bb)
        omega
    show FloatKind.f32.format.nearest _ _ _ < _
    rw [hs]
    exact nearest_small
  refine ⟨hr, hkey, fun h => ?_⟩
  by_cases h3 : 0 ≤ fv a - fv b
  · exact hkey h3
  · -- below nothing: rounded to nothing at most
    exfalso
    have hz := hr.le (z := -1) (e := 0) (by decide) (by omega) (by simp; omega)
    simp at hz
    omega

/-! ### Roads -/
structure PbOk (p b : Nat) : Prop where
  pn : nn p
  bn : nn b
  p0 : 2 ^ 143 ≤ fv p
  p1 : fv p ≤ U
  b0 : 2 ^ 143 ≤ fv b
  b1 : fv b ≤ U
theorem U_val : U = 2 ^ 149 := rfl
section
variable {p b : Nat} (h : PbOk p b)
include h
variable {x : Nat} (hx : nn x) (hx1 : fv x ≤ U)
include hx hx1
end
end Go.Proofs.Ytjghdagcmombnaa

/- Roads and shares that are drawn. -/
namespace Go.Proofs.Ytjghdagcmombnaa
open Go.RowKit
attribute [local irreducible] AW AOs AO AQ AQW thenA inBlockA postA ACalls Pure
set_option linter.unusedSimpArgs false
set_option linter.unusedVariables false
set_option linter.unusedSectionVars false

def sh32 (x : Int) : Nat := fdiv .f32 (fofInt .f32 x) 1107296256
def pbw (k : Int) : Nat := fdiv .f32 (fofInt .f32 (1 + k)) 1098907648
def lnw (k : Int) : Nat := fdiv .f32 (fofInt .f32 (1 + k)) 1082130432
theorem sh32_33 : ∀ x : Fin 33, fin32 (sh32 x.val) = true ∧ sh32 x.val < 2147483648 ∧ fv (sh32 x.val) = (x.val : Int) * 2 ^ 144 := by decide +kernel
theorem sh32_fv {x : Int} (h : 0 ≤ x ∧ x ≤ 32) : nn (sh32 x) ∧ fv (sh32 x) = x * 2 ^ 144 := by
  obtain ⟨h1, h2, h3⟩ := sh32_33 ⟨x.toNat, by omega⟩
  have e : ((x.toNat : Nat) : Int) = x := Int.toNat_of_nonneg h.1
  simp only [e] at h1 h2 h3
  exact ⟨⟨h1, h2⟩, h3⟩
theorem pbw_16 : ∀ x : Fin 16, fin32 (pbw x.val) = true ∧ pbw x.val < 2147483648 ∧ fv (pbw x.val) = (1 + (x.val : Int)) * 2 ^ 145 := by decide +kernel
theorem pbw_fv {k : Int} (h : 0 ≤ k ∧ k < 16) : nn (pbw k) ∧ fv (pbw k) = (1 + k) * 2 ^ 145 := by
  obtain ⟨h1, h2, h3⟩ := pbw_16 ⟨k.toNat, by omega⟩
  have e : ((k.toNat : Nat) : Int) = k := Int.toNat_of_nonneg h.1
  simp only [e] at h1 h2 h3
  exact ⟨⟨h1, h2⟩, h3⟩
theorem lnw_12 : ∀ x : Fin 12, fin32 (lnw x.val) = true ∧ lnw x.val < 2147483648 ∧ fv (lnw x.val) = (1 + (x.val : Int)) * 2 ^ 147 := by decide +kernel
theorem lnw_fv {k : Int} (h : 0 ≤ k ∧ k < 12) : nn (lnw k) ∧ fv (lnw k) = (1 + k) * 2 ^ 147 := by
  obtain ⟨h1, h2, h3⟩ := lnw_12 ⟨k.toNat, by omega⟩
  have e : ((k.toNat : Nat) : Int) = k := Int.toNat_of_nonneg h.1
  simp only [e] at h1 h2 h3
  exact ⟨⟨h1, h2⟩, h3⟩
/-- A road that can be drawn. -/
structure RdDr (c : Nat → Nat) (p b l : Nat) : Prop where
  cars : ∀ q, q < 16 → ∃ x : Int, (0 ≤ x ∧ x ≤ 32) ∧ c q = sh32 x
  pace : ∃ k : Int, (0 ≤ k ∧ k < 16) ∧ p = pbw k
  back : ∃ k : Int, (0 ≤ k ∧ k < 16) ∧ b = pbw k
  lanes : ∃ k : Int, (0 ≤ k ∧ k < 12) ∧ l = lnw k
theorem lp_fin : fin32 1015021568 = true := by decide +kernel
theorem quarter_fin : fin32 1048576000 = true := by decide +kernel
theorem eight_fin : fin32 1090519040 = true := by decide +kernel
theorem RdDr.pb {c : Nat → Nat} {p b l : Nat} (h : RdDr c p b l) : PbOk p b := by
  obtain ⟨k, hk, rfl⟩ := h.pace
  obtain ⟨k', hk', rfl⟩ := h.back
  obtain ⟨h1, h2⟩ := pbw_fv hk
  obtain ⟨h3, h4⟩ := pbw_fv hk'
  have hU := U_val
  exact ⟨h1, h3, by omega, by omega, by omega, by omega⟩
theorem RdDr.car {c : Nat → Nat} {p b l : Nat} (h : RdDr c p b l) {q : Nat} (hq : q < 16) : nn (c q) ∧ fv (c q) ≤ U := by
  obtain ⟨x, hx, e⟩ := h.cars q hq
  obtain ⟨h1, h2⟩ := sh32_fv hx
  have hU := U_val
  rw [e]; exact ⟨h1, by omega⟩
theorem RdDr.ok {c : Nat → Nat} {p b l : Nat} (h : RdDr c p b l) : RdOk c p b l := by
  have hpb := h.pb
  obtain ⟨k, hk, e⟩ := h.lanes
  obtain ⟨h1, h2⟩ := lnw_fv hk
  refine ⟨fun q hq => nn_sh (h.car hq).1 (h.car hq).2, nn_sh hpb.pn hpb.p1, nn_sh hpb.bn hpb.b1, ?_, ?_, by rw [e]; exact nn_am h1, ?_, ?_⟩
  · rw [fge_fv hpb.pn.1 lp_fin, fv_lp]; exact decide_eq_true hpb.p0
  · rw [fge_fv hpb.bn.1 lp_fin, fv_lp]; exact decide_eq_true hpb.b0
  · rw [e, fge_fv h1.1 quarter_fin, fv_quarter]; exact decide_eq_true (by omega)
  · rw [e, fle_fv h1.1 eight_fin, fv_eight]; exact decide_eq_true (by omega)

section
variable (a : Option Addr) (n cp : Nat) (cd : Nat → Int)
def plS (s : DS) : Nat → DS
  | 0 => s
  | i + 1 => pkS n cd (plS s i) 33
theorem plS_at (s : DS) : ∀ i, (plS n cd s i).1 ≤ s.1 + i
  | 0 => Nat.le_refl _
  | i + 1 => by
    have h1 := plS_at s i
    have h2 := pkS_at n cd (plS n cd s i) 33
    show (pkS n cd (plS n cd s i) 33).1 ≤ _
    omega
/-! ### A road -/
end
end Go.Proofs.Ytjghdagcmombnaa

/- The cells of a junction. -/
namespace Go.Proofs.Ytjghdagcmombnaa
open Go.RowKit
attribute [local irreducible] AW AOs AO AQ AQW thenA inBlockA postA ACalls Pure
set_option linter.unusedSimpArgs false
set_option linter.unusedVariables false
set_option linter.unusedSectionVars false

/-- The cells of a junction. -/
def jnJ (ins outs : Int) (h : Nat → Nat) (q : Nat) : Value := if q = 0 then .int .i64 ins else if q = 1 then .int .i64 outs else .float .f32 (h q)
abbrev jnB (ins outs : Int) (h : Nat → Nat) : Blk := ⟨tab 22 (jnJ ins outs h), none, true⟩
abbrev jnV (ins outs : Int) (h : Nat → Nat) : Value := .agg (tab 22 (jnJ ins outs h)).toArray
theorem jn_flat {ins outs : Int} {h : Nat → Nat} : ∀ c ∈ tab 22 (jnJ ins outs h), Flat c := flat_tabs fun i => by
  unfold jnJ
  split
  · exact Flat.int _ _
  · split
    · exact Flat.int _ _
    · exact Flat.float _ _
theorem jn_one {ins outs : Int} {h : Nat → Nat} (i : Nat) : one (jnJ ins outs h i) = true := by
  unfold jnJ
  split
  · rfl
  · split <;> rfl
theorem jn_put {ins outs : Int} {h : Nat → Nat} {x v : Nat} (hx : 2 ≤ x) : (tab 22 fun i => if i = x then Value.float .f32 v else jnJ ins outs h i) = tab 22 (jnJ ins outs fun q => if q = x then v else h q) := by
  congr 1
  funext i
  unfold jnJ
  by_cases e : i = x
  · rw [if_pos e, if_neg (by omega), if_neg (by omega)]
    show _ = Value.float .f32 (if i = x then v else h i)
    rw [if_pos e]
  · rw [if_neg e]
    split
    · rfl
    · split
      · rfl
      · show _ = Value.float .f32 (if i = x then v else h i)
        rw [if_neg e]
end Go.Proofs.Ytjghdagcmombnaa
