/- Shares. -/
import Derived.Test.YtgdpcomemkimhaaGreatDoorRw
import Derived.Test.YtgdpcomemkimhaaGreatDoorOpW
import Derived.Test.YtgdpcomemkimhaaGreatDoorFloat

namespace Go.Proofs.YtgdpcomemkimhaaGreatDoor
open Go.RowKit
attribute [local irreducible] AW AOs AO AQ AQW thenA inBlockA postA ACalls Pure
set_option linter.unusedSimpArgs false
set_option linter.unusedVariables false
set_option linter.unusedSectionVars false

set_option maxHeartbeats 1000000 in
theorem iIsShare (a : Nat) (M : Mem) : Pure Tryz.prog 37 [.float .f32 a] M (.bool (isSh a)) := by
  refine pure_of Tryz.func37 Tryz.ntmps37 rfl rfl (by repeat' (first | exact Flat.bool _ | exact Flat.int _ _ | exact Flat.float _ _ | exact Flat.string _ | exact flat_nil | exact flat_tabL (fun _ => Flat.bool _) | exact flat_tabL (fun _ => Flat.int _ _) | exact flat_tabL (fun _ => Flat.float _ _) | refine flat_tuple ?_ | refine flat_agg ?_ | refine flat_cons ?_ ?_ | refine flat_append ?_ ?_)) ?_
  unfold isSh
  cases h : isAm a
  all_goals have hA := fun M' => iIsAmount a M'
  all_goals rw [h] at hA
  all_goals simp only [envOf, Nat.zero_add, Nat.reduceAdd]
  all_goals repeat' (first | (refine d_AOs (h := ?_) ; first | refine o_move (h := ?_) | refine o_assign (h := ?_) | refine AOs.nil (h := ?_) | (refine d_bin (h := ?_) ; first | refine o_leq (h := ?_) | refine o_fle (h := ?_) ) | (refine d_grd (h := ?_) ; first | refine g_yes (h := ?_) | refine g_no (h := ?_) | refine g_undef (h := ?_) | (refine g_true (h1 := (fun hg => ?_)) (h0 := (fun hg => ?_)) <;> (try rw [hg]) <;> (try simp only [decide_eq_true_eq, decide_eq_false_iff_not, Int.ofNat_inj, Bool.not_eq_true', Bool.not_eq_false', Int.not_lt, Int.not_le] at hg) <;> (try (exfalso; omega)) <;> (try (exact absurd hg (by decide)))) | (refine g_false (h1 := (fun hg => ?_)) (h0 := (fun hg => ?_)) <;> (try rw [hg]) <;> (try simp only [decide_eq_true_eq, decide_eq_false_iff_not, Int.ofNat_inj, Bool.not_eq_true', Bool.not_eq_false', Int.not_lt, Int.not_le] at hg) <;> (try (exfalso; omega)) <;> (try (exact absurd hg (by decide))))) | refine o_call (hc := (hA _)) (h := ?_) | refine o_at (h := ?_) | refine o_pick (h := ?_) ) | (refine d_AW (h := ?_) ; first | refine AW.seq (h := ?_) | refine AW.region (h := ?_) | (refine AW.cond (ht := (fun hc => ?_)) (hf := (fun hc => ?_)) <;> (try (with_reducible first | exact absurd hc Bool.false_ne_true | exact absurd hc.symm Bool.false_ne_true)) <;> (try simp only [decide_eq_true_eq, decide_eq_false_iff_not, Int.ofNat_inj, Bool.not_eq_true', Bool.not_eq_false', Int.not_lt, Int.not_le] at hc) <;> (try (exfalso; omega)) <;> (try (exact absurd hc (by decide)))) | refine AW.block (h := ?_) | refine AW.ret (h := ?_) | refine AW.skip (h := ?_) | refine AW.exit (h := ?_) ) | (first | refine t_normal ?_ | refine t_ret ?_ | refine t_exit ?_ | refine b_normal ?_ | refine b_exit ?_ | refine b_exit' (by decide) ?_ | refine b_ret ?_) | (refine d_post (h := ?_) ; first | refine p_ret1 rfl (h := ?_) | refine p_end1 rfl (h := ?_) | refine p_cell1 rfl (h := ?_) ))
  all_goals first | rfl | (simp_all; done)
set_option maxHeartbeats 1000000 in
theorem sl01Share (a : Nat) (M : Mem) : Pure Tryz.prog 72 [.float .f32 a] M (.bool (isSh a)) := by
  refine pure_of Tryz.func72 Tryz.ntmps72 rfl rfl (by repeat' (first | exact Flat.bool _ | exact Flat.int _ _ | exact Flat.float _ _ | exact Flat.string _ | exact flat_nil | exact flat_tabL (fun _ => Flat.bool _) | exact flat_tabL (fun _ => Flat.int _ _) | exact flat_tabL (fun _ => Flat.float _ _) | refine flat_tuple ?_ | refine flat_agg ?_ | refine flat_cons ?_ ?_ | refine flat_append ?_ ?_)) ?_
  unfold isSh
  cases h : isAm a
  all_goals have hA := fun M' => sl01Amount a M'
  all_goals rw [h] at hA
  all_goals simp only [envOf, Nat.zero_add, Nat.reduceAdd]
  all_goals repeat' (first | (refine d_AOs (h := ?_) ; first | refine o_move (h := ?_) | refine o_assign (h := ?_) | refine AOs.nil (h := ?_) | (refine d_bin (h := ?_) ; first | refine o_leq (h := ?_) | refine o_fle (h := ?_) ) | (refine d_grd (h := ?_) ; first | refine g_yes (h := ?_) | refine g_no (h := ?_) | refine g_undef (h := ?_) | (refine g_true (h1 := (fun hg => ?_)) (h0 := (fun hg => ?_)) <;> (try rw [hg]) <;> (try simp only [decide_eq_true_eq, decide_eq_false_iff_not, Int.ofNat_inj, Bool.not_eq_true', Bool.not_eq_false', Int.not_lt, Int.not_le] at hg) <;> (try (exfalso; omega)) <;> (try (exact absurd hg (by decide)))) | (refine g_false (h1 := (fun hg => ?_)) (h0 := (fun hg => ?_)) <;> (try rw [hg]) <;> (try simp only [decide_eq_true_eq, decide_eq_false_iff_not, Int.ofNat_inj, Bool.not_eq_true', Bool.not_eq_false', Int.not_lt, Int.not_le] at hg) <;> (try (exfalso; omega)) <;> (try (exact absurd hg (by decide))))) | refine o_call (hc := (hA _)) (h := ?_) | refine o_at (h := ?_) | refine o_pick (h := ?_) ) | (refine d_AW (h := ?_) ; first | refine AW.seq (h := ?_) | refine AW.region (h := ?_) | (refine AW.cond (ht := (fun hc => ?_)) (hf := (fun hc => ?_)) <;> (try (with_reducible first | exact absurd hc Bool.false_ne_true | exact absurd hc.symm Bool.false_ne_true)) <;> (try simp only [decide_eq_true_eq, decide_eq_false_iff_not, Int.ofNat_inj, Bool.not_eq_true', Bool.not_eq_false', Int.not_lt, Int.not_le] at hc) <;> (try (exfalso; omega)) <;> (try (exact absurd hc (by decide)))) | refine AW.block (h := ?_) | refine AW.ret (h := ?_) | refine AW.skip (h := ?_) | refine AW.exit (h := ?_) ) | (first | refine t_normal ?_ | refine t_ret ?_ | refine t_exit ?_ | refine b_normal ?_ | refine b_exit ?_ | refine b_exit' (by decide) ?_ | refine b_ret ?_) | (refine d_post (h := ?_) ; first | refine p_ret1 rfl (h := ?_) | refine p_end1 rfl (h := ?_) | refine p_cell1 rfl (h := ?_) ))
  all_goals first | rfl | (simp_all; done)
end Go.Proofs.YtgdpcomemkimhaaGreatDoor

/- Numbers of roads: plain facts. No program in sight. -/
namespace Go.Proofs.YtgdpcomemkimhaaGreatDoor
open Go.RowKit
attribute [local irreducible] AW AOs AO AQ AQW thenA inBlockA postA ACalls Pure
set_option linter.unusedSimpArgs false
set_option linter.unusedVariables false
set_option linter.unusedSectionVars false
open Ieee

/-- One. -/
def U : Int := 2 ^ 149
theorem fin_ffin {a : Nat} : ffin .f32 a = fin32 a := by
  unfold ffin fin32
  cases FloatKind.f32.decode a <;> rfl
theorem fv_zero : fv 0 = 0 := by decide +kernel
theorem fv_one : fv 1065353216 = U := by decide +kernel
theorem fv_lp : fv 1015021568 = 2 ^ 143 := by decide +kernel
theorem fv_quarter : fv 1048576000 = 2 ^ 147 := by decide +kernel
theorem fv_eight : fv 1090519040 = 2 ^ 152 := by decide +kernel
/-- An amount. -/
theorem isAm_iff {a : Nat} : isAm a = true ↔ fin32 a = true ∧ (0 < fv a ∨ a = 0) := by
  unfold isAm
  rw [fin_ffin]
  cases hf : fin32 a
  · simp
  · rw [fgt_fv hf (by decide), fv_zero]
    simp
theorem less_fv {a b : Nat} (ha : fin32 a = true) (hb : fin32 b = true) : fin32 (less a b) = true ∧ fv (less a b) = min (fv a) (fv b) := by
  unfold less
  rw [flt_fv hb ha]
  by_cases h : fv b < fv a
  · rw [decide_eq_true h, if_pos rfl]; exact ⟨hb, by omega⟩
  · rw [decide_eq_false h]; exact ⟨ha, by simp; omega⟩
/-- What is small enough for all sums and products here. -/
theorem fm_big : (2 : Int) ^ 170 ≤ (FM : Int) := by decide +kernel
theorem fm_ok {x : Int} (h : -(2 ^ 170) ≤ x) (h2 : x ≤ 2 ^ 170) : x.natAbs ≤ FM := by
  have := fm_big
  omega
theorem rnd_add' {a b : Nat} (ha : fin32 a = true) (hb : fin32 b = true) (h : -(2 ^ 170) ≤ fv a + fv b) (h2 : fv a + fv b ≤ 2 ^ 170) : Rnd (fadd .f32 a b) (fv a + fv b) 1 := rnd_add ha hb (fm_ok h h2)
theorem rnd_sub' {a b : Nat} (ha : fin32 a = true) (hb : fin32 b = true) (h : -(2 ^ 170) ≤ fv a - fv b) (h2 : fv a - fv b ≤ 2 ^ 170) : Rnd (fsub .f32 a b) (fv a - fv b) 1 := rnd_sub ha hb (fm_ok h h2)
theorem rnd_mul' {a b : Nat} (ha : fin32 a = true) (hb : fin32 b = true) (h : -(2 ^ 170 * U) ≤ fv a * fv b) (h2 : fv a * fv b ≤ 2 ^ 170 * U) : Rnd (fmul .f32 a b) (fv a * fv b) (2 ^ 149) := by
  refine rnd_mul ha hb ?_
  have h3 : (2 : Int) ^ 170 * U ≤ ((FM * 2 ^ 149 : Nat) : Int) := by decide +kernel
  omega
theorem Rnd.fin {r : Nat} {num : Int} {den : Nat} (h : Rnd r num den) : fin32 r = true := h.1

/-! ### Not below nothing, and no negative nothing -/
def nn (a : Nat) : Prop := fin32 a = true ∧ a < 2147483648
theorem word_false {q : Nat} : FloatKind.f32.format.word false q = q := rfl
theorem nearest_small {m : Nat} {e : Int} : FloatKind.f32.format.nearest false m e < 2147483648 := by
  obtain ⟨q, hq, hl⟩ := nearest_word FloatKind.f32.format false m e
  have e3 : FloatKind.f32.format.infRung = 2139095040 := rfl
  rw [hq, word_false]; omega
theorem nn_form {a : Nat} (h : nn a) : ∃ m p : Nat, FloatKind.f32.decode a = .number false m ((p : Int) - 149) ∧ fv a = ((m * 2 ^ p : Nat) : Int) ∧ (fv a = 0 → a = 0) := by
  obtain ⟨s, m, p, hd, hv, q, hq, hrq, hm⟩ := fin_form h.1
  have e1 : FloatKind.f32.format.signWeight = 2147483648 := rfl
  have hs : s = false := by
    have hd' : FloatKind.f32.decode a = FloatKind.f32.format.read a := rfl
    unfold Ieee.Format.read at hd'
    simp only [e1] at hd'
    have h0 : a / 2147483648 = 0 := Nat.div_eq_of_lt h.2
    rw [h0] at hd'
    rw [hd] at hd'
    split at hd'
    · injection hd' 
    · split at hd'
      · injection hd'
      · split at hd' <;> cases hd'
  subst hs
  refine ⟨m, p, hd, hv, fun h0 => ?_⟩
  have h2 := fin_word (s := false) (q := a % 2147483648) (by
    refine Nat.lt_of_not_le fun hle => ?_
    have hd' : FloatKind.f32.decode a = FloatKind.f32.format.read a := rfl
    have e2 : FloatKind.f32.format.binade = 8388608 := rfl
    have e3 : FloatKind.f32.format.infRung = 2139095040 := rfl
    unfold Ieee.Format.read at hd'
    simp only [e1, e2, e3] at hd'
    rw [if_neg (by omega), if_neg (by omega), hd] at hd'
    split at hd' <;> cases hd')
  rw [word_false, Nat.mod_eq_of_lt h.2] at h2
  have h3 : rv a = 0 := by
    have := h2.2
    rw [h0] at this
    simp only [sg, Bool.false_eq_true, if_false] at this
    omega
  refine Nat.eq_zero_of_not_pos fun hp => ?_
  have := rv_lt hp
  omega
theorem nn_bd {a : Nat} (h : nn a) : 0 ≤ fv a := by
  obtain ⟨m, p, _, hv, _⟩ := nn_form h
  rw [hv]; omega
theorem nn_am {a : Nat} (h : nn a) : isAm a = true := by
  refine isAm_iff.2 ⟨h.1, ?_⟩
  obtain ⟨m, p, _, hv, h0⟩ := nn_form h
  by_cases e : fv a = 0
  · exact .inr (h0 e)
  · left; omega
theorem nn_sh {a : Nat} (h : nn a) (h1 : fv a ≤ U) : isSh a = true := by
  have := nn_am h
  unfold isSh
  rw [this, fle_fv h.1 (by decide +kernel), fv_one]
  exact decide_eq_true h1
theorem cf_small {a : Nat} (h : fin32 (cf .f32 a) = true) (ha : a < 2147483648) : cf .f32 a < 2147483648 := by
  by_cases hn : fnan .f32 a = true
  · rw [cf_of_nan hn] at h ⊢; exact absurd h (by decide)
  · rw [cf_of_not (by simpa using hn)]; exact ha
theorem nn_add {a b : Nat} (ha : nn a) (hb : nn b) (h2 : fv a + fv b ≤ 2 ^ 170) : nn (fadd .f32 a b) ∧ Rnd (fadd .f32 a b) (fv a + fv b) 1 := by
  have hr := rnd_add' ha.1 hb.1 (by have := nn_bd ha; have := nn_bd hb; omega) h2
  refine ⟨⟨hr.1, ?_⟩, hr⟩
  obtain ⟨m, p, hd, hv, _⟩ := nn_form ha
  obtain ⟨n, q, hd', hv', _⟩ := nn_form hb
  have hf := hr.1
  unfold fadd at hf ⊢
  have e : FloatKind.f32.format.add a b = (((FloatKind.f32.decode a).sum (FloatKind.f32.decode b)).map FloatKind.f32.format.write) := rfl
  rw [hd, hd'] at e
  rw [e] at hf ⊢
  simp only [Ieee.Datum.sum, Option.map_some, fres] at hf ⊢
  refine cf_small hf ?_
  generalize hbase : min ((p : Int) - 149) ((q : Int) - 149) = base at *
  have hs : (if signed false m ((p : Int) - 149 - base).toNat + signed false n ((q : Int) - 149 - base).toNat = 0 then (false && false) else decide (signed false m ((p : Int) - 149 - base).toNat + signed false n ((q : Int) - 149 - base).toNat < 0)) = false := by
    rw [signed_sg, signed_sg]
    simp only [sg, Bool.false_eq_true, if_false]
    split
    · rfl
    · exact decide_eq_false (by omega)
  show FloatKind.f32.format.nearest _ _ _ < _
  rw [hs]
  exact nearest_small
theorem nn_mul {a b : Nat} (ha : nn a) (hb : nn b) (h2 : fv a * fv b ≤ 2 ^ 170 * U) : nn (fmul .f32 a b) ∧ Rnd (fmul .f32 a b) (fv a * fv b) (2 ^ 149) := by
  have h0 : 0 ≤ fv a * fv b := Int.mul_nonneg (nn_bd ha) (nn_bd hb)
  have hU : (0 : Int) ≤ 2 ^ 170 * U := by decide +kernel
  have hr := rnd_mul' ha.1 hb.1 (by omega) h2
  refine ⟨⟨hr.1, ?_⟩, hr⟩
  obtain ⟨m, p, hd, hv, _⟩ := nn_form ha
  obtain ⟨n, q, hd', hv', _⟩ := nn_form hb
  have hf := hr.1
  unfold fmul at hf ⊢
  have e : FloatKind.f32.format.mul a b = (((FloatKind.f32.decode a).product (FloatKind.f32.decode b)).map FloatKind.f32.format.write) := rfl
  rw [hd, hd'] at e
  rw [e] at hf ⊢
  simp only [Ieee.Datum.product, Option.map_some, fres] at hf ⊢
  exact cf_small hf nearest_small
theorem nn_sub {a b : Nat} (ha : nn a) (hb : nn b) (h1 : fv a ≤ 2 ^ 170) (h2 : fv b ≤ 2 ^ 170) : Rnd (fsub .f32 a b) (fv a - fv b) 1 ∧ (0 ≤ fv a - fv b → nn (fsub .f32 a b)) ∧ (0 ≤ fv (fsub .f32 a b) → nn (fsub .f32 a b)) := by
  have g1 := nn_bd ha
  have g2 := nn_bd hb
  have hr := rnd_sub' ha.1 hb.1 (by omega) (by omega)
  obtain ⟨m, p, hd, hv, _⟩ := nn_form ha
  obtain ⟨n, q, hd', hv', _⟩ := nn_form hb
  have hkey : 0 ≤ fv a - fv b → nn (fsub .f32 a b) := fun h => by
    refine ⟨hr.1, ?_⟩
    have hf := hr.1
    unfold fsub at hf ⊢
    have e : FloatKind.f32.format.sub a b = (((FloatKind.f32.decode a).sum (FloatKind.f32.decode b).opposite).map FloatKind.f32.format.write) := rfl
    rw [hd, hd'] at e
    rw [e] at hf ⊢
    simp only [Ieee.Datum.opposite, Ieee.Datum.sum, Option.map_some, fres] at hf ⊢
    refine cf_small hf ?_
    generalize hbase : min ((p : Int) - 149) ((q : Int) - 149) = base at *
    obtain ⟨bb, hbb⟩ : ∃ b : Nat, base = (b : Int) - 149 := ⟨(base + 149).toNat, by omega⟩
    have hs : (if signed false m ((p : Int) - 149 - base).toNat + signed (!false) n ((q : Int) - 149 - base).toNat = 0 then (false && !false) else decide (signed false m ((p : Int) - 149 - base).toNat + signed (!false) n ((q : Int) - 149 - base).toNat < 0)) = false := by
      rw [show ((p : Int) - 149 - base).toNat = p - bb by omega, show ((q : Int) - 149 - base).toNat = q - bb by omega, signed_sg, signed_sg]
      simp only [sg, Bool.false_eq_true, if_false, Bool.not_false, if_true]
      split
      · rfl
      · refine decide_eq_false fun hlt => ?_
        have e1 : m * 2 ^ p = m * 2 ^ (p - bb) * 2 ^ bb := by rw [Nat.mul_assoc, ← Nat.pow_add, Nat.sub_add_cancel (by omega)]
        have e2 : n * 2 ^ q = n * 2 ^ (q - bb) * 2 ^ bb := by rw [Nat.mul_assoc, ← Nat.pow_add, Nat.sub_add_cancel (by omega)]
        rw [hv, hv', e1, e2] at h
        have h3 : n * 2 ^ (q - bb) * 2 ^ bb ≤ m * 2 ^ (p - bb) * 2 ^ bb := by omega
        have h4 := Nat.le_of_mul_le_mul_right h3 (Nat.two_pow_pos bb)
        omega
    show FloatKind.f32.format.nearest _ _ _ < _
    rw [hs]
    exact nearest_small
  refine ⟨hr, hkey, fun h => ?_⟩
  by_cases h3 : 0 ≤ fv a - fv b
  · exact hkey h3
  · -- below nothing: rounded to nothing at most
    exfalso
    have hz := hr.le (z := -1) (e := 0) (by decide) (by omega) (by simp; omega)
    simp at hz
    omega

/-! ### Roads -/
structure PbOk (p b : Nat) : Prop where
  pn : nn p
  bn : nn b
  p0 : 2 ^ 143 ≤ fv p
  p1 : fv p ≤ U
  b0 : 2 ^ 143 ≤ fv b
  b1 : fv b ≤ U
theorem U_val : U = 2 ^ 149 := rfl
section
variable {p b : Nat} (h : PbOk p b)
include h
variable {x : Nat} (hx : nn x) (hx1 : fv x ≤ U)
include hx hx1
end
end Go.Proofs.YtgdpcomemkimhaaGreatDoor

/- Numbers that are not negative: more of them. -/
namespace Go.Proofs.YtgdpcomemkimhaaGreatDoor
open Go.RowKit
attribute [local irreducible] AW AOs AO AQ AQW thenA inBlockA postA ACalls Pure
set_option linter.unusedSimpArgs false
set_option linter.unusedVariables false
set_option linter.unusedSectionVars false

theorem nn_nan {a : Nat} (h : nn a) : fnan .f32 a = false := by
  obtain ⟨s, m, p, hd, _⟩ := fin_form h.1
  unfold fnan; rw [hd]; rfl
end Go.Proofs.YtgdpcomemkimhaaGreatDoor

/- Calls that change their caller's memory; results of a slice and more. -/
namespace Go.Proofs.YtgdpcomemkimhaaGreatDoor
open Go.RowKit
set_option linter.unusedSimpArgs false
set_option linter.unusedVariables false

/-- A call that gives v and leaves the memory M1. -/
def Mut (P : Program) (f : FuncId) (args : List Value) (M : Mem) (v : Value) (M1 : Mem) : Prop := ACalls P f args M fun x M' => x = v ∧ M' = M1

section
variable {P : Program}
theorem Mut.of {f : FuncId} {args : List Value} {M M1 : Mem} {v : Value} (hl : M.length ≤ M1.length) (hb : Flat v) (hc : Closed M.length M → Closed M1.length M1) (h : ACalls P f args M fun x M' => x = v ∧ ∃ T, M' = M1 ++ T) : Mut P f args M v M1 := by
  intro B0 w0 r w cargs hs hv
  refine (h B0 w0 r w cargs hs hv).mono fun e w' ⟨d, x, M', r', h1, ⟨hx, T, hM⟩, he, hs', hd⟩ => ?_
  subst hx; subst hM
  refine ⟨d, x, M1, cutR M1.length r', h1, ⟨rfl, rfl⟩, fun j t c hr => ?_, hs'.cutTo (hc hs.closed), hd.flat hb⟩
  unfold cutR
  rw [if_pos (Nat.lt_of_lt_of_le (hs.dom_lt j t c hr) hl)]
  exact he j t c hr
theorem Closed.set {M : Mem} {b : Nat} {B : Blk} (h : Closed M.length M) (hf : ∀ c ∈ B.cells, Flat c) : Closed (M.set b B).length (M.set b B) := by
  rw [List.length_set]
  intro x hx c hc
  rcases List.mem_or_eq_of_mem_set hx with hx | rfl
  · exact h x hx c hc
  · exact Bel.flat (hf c hc)
theorem mut_of {f : FuncId} {fn : Func} {c : Code} {args : List Value} {M M1 : Mem} {v : Value} {k : Nat} (hf : P.funcs[f]? = some fn) (hk : fn.ntmps = k) (hb : fn.body = some c) (hn : Nat.ble args.length k = true) (hl : M.length ≤ M1.length) (hfl : Flat v) (hc : Closed M.length M → Closed M1.length M1)
    (h : AW P c (postA P fn fun x M' => x = v ∧ ∃ T, M' = M1 ++ T) ⟨k, envOf 0 args, M⟩) : Mut P f args M v M1 := by
  subst hk
  exact Mut.of hl hfl hc (ACalls.enter hf hb (Nat.le_of_ble_eq_true hn) h)
section
variable {ops l : List Oper} {K : St → Prop} {n : Nat} {t : Env} {m : Mem} {d ty : Nat} {pos : String} {af : Array Edge}
theorem o_callM {f : FuncId} [hf : FnT P f] {xs : List Operand} {ats : Array TypeId} {args : List Value} {v : Value} {M1 m' : Mem} (hargs : xs.map (evalA t) = args := by first | (simp only [List.map_cons, List.map_nil, evalA, look, cond_true, cond_false, Nat.reduceBEq, constOk, constOk1]; done) | (simp only [List.map_cons, List.map_nil, evalA, look, cond_true, cond_false, Nat.reduceBEq, constOk, constOk1]; rfl) | rfl) (hc : Mut P f args m v M1) (hm : M1 = m' := by first | exact set_head1 (by assumption) | exact List.set_set .. | exact set_head0 (by assumption) | (simp only [set_tail, set_tail0, set_tailS, set_tailS0, List.set_cons_zero, List.set_cons_succ, cellsA, List.length_cons, List.length_nil, Nat.reduceAdd]; first | done | rfl) | rfl) (hd : Nat.blt d n = true := by rfl)
    (h : AOs P ops l K ⟨n, (d, v) :: t, m'⟩) :
    AOs P ops (⟨some d, .call { callee := .value (.func f), args := xs.toArray, argTypes := ats }, ty, pos, af, none⟩ :: l) K ⟨n, t, m⟩ :=
  o_callR hargs hc hd fun _ _ ⟨h1, h2⟩ => by subst h1; subst h2; rw [hm]; exact h
end

section
variable {ops l : List Oper} {K : St → Prop} {n : Nat} {t : Env} {m : Mem} {d ty : Nat} {pos : String} {af : Array Edge}
end

section
variable {fn : Func} {n : Nat} {t : Env} {m M G : Mem}
end
end

/-! ### Lists in memory -/
theorem rowsL_snoc {α : Type} (F : α → List Value) (d : α) (l : List α) (n : α) : rows (l ++ [n]).length (fun q => F ((l ++ [n]).getD q d)) = rows l.length (fun q => F (l.getD q d)) ++ F n := by
  rw [List.length_append, List.length_singleton, rows_succ]
  congr 1
  · refine rows_congr fun q hq => ?_
    rw [List.getD_eq_getElem?_getD, List.getElem?_append_left hq, ← List.getD_eq_getElem?_getD]
  · rw [List.getD_eq_getElem?_getD, List.getElem?_append_right (Nat.le_refl _), Nat.sub_self]; rfl
theorem tabL_snoc {α : Type} (F : α → Value) (d : α) (l : List α) (n : α) : tab (l ++ [n]).length (fun q => F ((l ++ [n]).getD q d)) = tab l.length (fun q => F (l.getD q d)) ++ [F n] := by
  have := rowsL_snoc (fun x => [F x]) d l n
  rwa [rows_tab, rows_tab] at this
end Go.Proofs.YtgdpcomemkimhaaGreatDoor

/- A slice of an array that lies in memory. No program in sight. -/
namespace Go.Proofs.YtgdpcomemkimhaaGreatDoor
open Go.RowKit
set_option linter.unusedSimpArgs false
set_option linter.unusedVariables false

section
variable {P : Program} {ops l : List Oper} {K : St → Prop} {n : Nat} {t : Env} {m : Mem} {d ty : Nat} {pos : String} {af : Array Edge}
theorem o_slArr {at_ len k e : Nat} [ha : ArrT P at_ len k e] {x : Operand} {j o : Nat} (hx : evalA t x = .pointer (some ⟨j, o, none⟩) := by (conv => (lhs; whnf)); first | done | rfl) (hl : len ≠ 0 := by decide) (hd : Nat.blt d n = true := by rfl)
    (h : AOs P ops l K ⟨n, (d, .slice (some ⟨j, o, none⟩) len len) :: t, m⟩) : AOs P ops (⟨some d, .slice at_ x none none none, ty, pos, af, none⟩ :: l) K ⟨n, t, m⟩ :=
  AOs.val (v := .slice (some ⟨j, o, none⟩) len len) rfl hd (fun B0 w0 r a w hs => by
    have hx1 := hs.eval x
    rw [hx] at hx1
    obtain ⟨c, z, he, hr⟩ := hx1.ptr_inv
    obtain ⟨hu, hsz⟩ := arr_facts (P := P) (at_ := at_)
    refine ⟨.slice (some ⟨c, zo none z + o, none⟩) len len, ?_, .base ⟨c, z, len, rfl, hr, .inl ⟨rfl, rfl⟩⟩⟩
    simp [execOp, he, Instr.sliceAt, Instr.sureAddr, Instr.sliceBounds, Instr.sliceBound, run_underlying hu, hsz, addr_add, hl]) h
end
end Go.Proofs.YtgdpcomemkimhaaGreatDoor

/- The cells of a junction. -/
namespace Go.Proofs.YtgdpcomemkimhaaGreatDoor
open Go.RowKit
attribute [local irreducible] AW AOs AO AQ AQW thenA inBlockA postA ACalls Pure
set_option linter.unusedSimpArgs false
set_option linter.unusedVariables false
set_option linter.unusedSectionVars false

end Go.Proofs.YtgdpcomemkimhaaGreatDoor
