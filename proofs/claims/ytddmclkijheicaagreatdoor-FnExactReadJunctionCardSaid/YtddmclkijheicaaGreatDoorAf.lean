/- Shares. -/
import Derived.Test.YtddmclkijheicaaGreatDoorRw
import Derived.Test.YtddmclkijheicaaGreatDoorOpW
import Derived.Test.YtddmclkijheicaaGreatDoorFloat

namespace Go.Proofs.YtddmclkijheicaaGreatDoor
open Go.RowKit
attribute [local irreducible] AW AOs AO AQ AQW thenA inBlockA postA ACalls Pure
set_option linter.unusedSimpArgs false
set_option linter.unusedVariables false
set_option linter.unusedSectionVars false

set_option maxHeartbeats 1000000 in
theorem iIsShare (a : Nat) (M : Mem) : Pure Tryz.prog 38 [.float .f32 a] M (.bool (isSh a)) := by
  refine pure_of Tryz.func38 Tryz.ntmps38 rfl rfl (by repeat' (first | exact Flat.bool _ | exact Flat.int _ _ | exact Flat.float _ _ | exact Flat.string _ | exact flat_nil | exact flat_tabL (fun _ => Flat.bool _) | exact flat_tabL (fun _ => Flat.int _ _) | exact flat_tabL (fun _ => Flat.float _ _) | refine flat_tuple ?_ | refine flat_agg ?_ | refine flat_cons ?_ ?_ | refine flat_append ?_ ?_)) ?_
  unfold isSh
  cases h : isAm a
  all_goals have hA := fun M' => iIsAmount a M'
  all_goals rw [h] at hA
  all_goals simp only [envOf, Nat.zero_add, Nat.reduceAdd]
  all_goals repeat' (first | (refine d_AOs (h := ?_) ; first | refine o_move (h := ?_) | refine o_assign (h := ?_) | refine AOs.nil (h := ?_) | (refine d_bin (h := ?_) ; first | refine o_leq (h := ?_) | refine o_fle (h := ?_) ) | (refine d_grd (h := ?_) ; first | refine g_yes (h := ?_) | refine g_no (h := ?_) | refine g_undef (h := ?_) | (refine g_true (h1 := (fun hg => ?_)) (h0 := (fun hg => ?_)) <;> (try rw [hg]) <;> (try simp only [decide_eq_true_eq, decide_eq_false_iff_not, Int.ofNat_inj, Bool.not_eq_true', Bool.not_eq_false', Int.not_lt, Int.not_le] at hg) <;> (try (exfalso; omega)) <;> (try (exact absurd hg (by decide)))) | (refine g_false (h1 := (fun hg => ?_)) (h0 := (fun hg => ?_)) <;> (try rw [hg]) <;> (try simp only [decide_eq_true_eq, decide_eq_false_iff_not, Int.ofNat_inj, Bool.not_eq_true', Bool.not_eq_false', Int.not_lt, Int.not_le] at hg) <;> (try (exfalso; omega)) <;> (try (exact absurd hg (by decide))))) | refine o_call (hc := (hA _)) (h := ?_) | refine o_at (h := ?_) | refine o_pick (h := ?_) ) | (refine d_AW (h := ?_) ; first | refine AW.seq (h := ?_) | refine AW.region (h := ?_) | (refine AW.cond (ht := (fun hc => ?_)) (hf := (fun hc => ?_)) <;> (try (with_reducible first | exact absurd hc Bool.false_ne_true | exact absurd hc.symm Bool.false_ne_true)) <;> (try simp only [decide_eq_true_eq, decide_eq_false_iff_not, Int.ofNat_inj, Bool.not_eq_true', Bool.not_eq_false', Int.not_lt, Int.not_le] at hc) <;> (try (exfalso; omega)) <;> (try (exact absurd hc (by decide)))) | refine AW.block (h := ?_) | refine AW.ret (h := ?_) | refine AW.skip (h := ?_) | refine AW.exit (h := ?_) ) | (first | refine t_normal ?_ | refine t_ret ?_ | refine t_exit ?_ | refine b_normal ?_ | refine b_exit ?_ | refine b_exit' (by decide) ?_ | refine b_ret ?_) | (refine d_post (h := ?_) ; first | refine p_ret1 rfl (h := ?_) | refine p_end1 rfl (h := ?_) | refine p_cell1 rfl (h := ?_) ))
  all_goals first | rfl | (simp_all; done)
set_option maxHeartbeats 1000000 in
theorem sl01Share (a : Nat) (M : Mem) : Pure Tryz.prog 75 [.float .f32 a] M (.bool (isSh a)) := by
  refine pure_of Tryz.func75 Tryz.ntmps75 rfl rfl (by repeat' (first | exact Flat.bool _ | exact Flat.int _ _ | exact Flat.float _ _ | exact Flat.string _ | exact flat_nil | exact flat_tabL (fun _ => Flat.bool _) | exact flat_tabL (fun _ => Flat.int _ _) | exact flat_tabL (fun _ => Flat.float _ _) | refine flat_tuple ?_ | refine flat_agg ?_ | refine flat_cons ?_ ?_ | refine flat_append ?_ ?_)) ?_
  unfold isSh
  cases h : isAm a
  all_goals have hA := fun M' => sl01Amount a M'
  all_goals rw [h] at hA
  all_goals simp only [envOf, Nat.zero_add, Nat.reduceAdd]
  all_goals repeat' (first | (refine d_AOs (h := ?_) ; first | refine o_move (h := ?_) | refine o_assign (h := ?_) | refine AOs.nil (h := ?_) | (refine d_bin (h := ?_) ; first | refine o_leq (h := ?_) | refine o_fle (h := ?_) ) | (refine d_grd (h := ?_) ; first | refine g_yes (h := ?_) | refine g_no (h := ?_) | refine g_undef (h := ?_) | (refine g_true (h1 := (fun hg => ?_)) (h0 := (fun hg => ?_)) <;> (try rw [hg]) <;> (try simp only [decide_eq_true_eq, decide_eq_false_iff_not, Int.ofNat_inj, Bool.not_eq_true', Bool.not_eq_false', Int.not_lt, Int.not_le] at hg) <;> (try (exfalso; omega)) <;> (try (exact absurd hg (by decide)))) | (refine g_false (h1 := (fun hg => ?_)) (h0 := (fun hg => ?_)) <;> (try rw [hg]) <;> (try simp only [decide_eq_true_eq, decide_eq_false_iff_not, Int.ofNat_inj, Bool.not_eq_true', Bool.not_eq_false', Int.not_lt, Int.not_le] at hg) <;> (try (exfalso; omega)) <;> (try (exact absurd hg (by decide))))) | refine o_call (hc := (hA _)) (h := ?_) | refine o_at (h := ?_) | refine o_pick (h := ?_) ) | (refine d_AW (h := ?_) ; first | refine AW.seq (h := ?_) | refine AW.region (h := ?_) | (refine AW.cond (ht := (fun hc => ?_)) (hf := (fun hc => ?_)) <;> (try (with_reducible first | exact absurd hc Bool.false_ne_true | exact absurd hc.symm Bool.false_ne_true)) <;> (try simp only [decide_eq_true_eq, decide_eq_false_iff_not, Int.ofNat_inj, Bool.not_eq_true', Bool.not_eq_false', Int.not_lt, Int.not_le] at hc) <;> (try (exfalso; omega)) <;> (try (exact absurd hc (by decide)))) | refine AW.block (h := ?_) | refine AW.ret (h := ?_) | refine AW.skip (h := ?_) | refine AW.exit (h := ?_) ) | (first | refine t_normal ?_ | refine t_ret ?_ | refine t_exit ?_ | refine b_normal ?_ | refine b_exit ?_ | refine b_exit' (by decide) ?_ | refine b_ret ?_) | (refine d_post (h := ?_) ; first | refine p_ret1 rfl (h := ?_) | refine p_end1 rfl (h := ?_) | refine p_cell1 rfl (h := ?_) ))
  all_goals first | rfl | (simp_all; done)
end Go.Proofs.YtddmclkijheicaaGreatDoor

/- Numbers of roads: plain facts. No program in sight. -/
namespace Go.Proofs.YtddmclkijheicaaGreatDoor
open Go.RowKit
attribute [local irreducible] AW AOs AO AQ AQW thenA inBlockA postA ACalls Pure
set_option linter.unusedSimpArgs false
set_option linter.unusedVariables false
set_option linter.unusedSectionVars false
open Ieee

/-- One. -/
def U : Int := 2 ^ 149
theorem fin_ffin {a : Nat} : ffin .f32 a = fin32 a := by
  unfold ffin fin32
  cases FloatKind.f32.decode a <;> rfl
theorem fv_zero : fv 0 = 0 := by decide +kernel
theorem fv_one : fv 1065353216 = U := by decide +kernel
/-- An amount. -/
theorem isAm_iff {a : Nat} : isAm a = true ↔ fin32 a = true ∧ (0 < fv a ∨ a = 0) := by
  unfold isAm
  rw [fin_ffin]
  cases hf : fin32 a
  · simp
  · rw [fgt_fv hf (by decide), fv_zero]
    simp
theorem isSh_iff {a : Nat} : isSh a = true ↔ fin32 a = true ∧ (0 < fv a ∨ a = 0) ∧ fv a ≤ U := by
  unfold isSh
  rw [Bool.and_eq_true, isAm_iff]
  constructor
  · rintro ⟨⟨h1, h2⟩, h3⟩
    rw [fle_fv h1 (by decide +kernel), fv_one] at h3
    exact ⟨h1, h2, of_decide_eq_true h3⟩
  · rintro ⟨h1, h2, h3⟩
    refine ⟨⟨h1, h2⟩, ?_⟩
    rw [fle_fv h1 (by decide +kernel), fv_one]
    exact decide_eq_true h3
/-- A share: finite, from nothing to one. -/
theorem sh_bd {a : Nat} (h : isSh a = true) : fin32 a = true ∧ 0 ≤ fv a ∧ fv a ≤ U := by
  obtain ⟨h1, h2, h3⟩ := isSh_iff.1 h
  refine ⟨h1, ?_, h3⟩
  rcases h2 with h2 | h2
  · omega
  · subst h2; rw [fv_zero]; omega
/-- What is small enough for all sums and products here. -/
theorem fm_big : (2 : Int) ^ 170 ≤ (FM : Int) := by decide +kernel
theorem fm_ok {x : Int} (h : -(2 ^ 170) ≤ x) (h2 : x ≤ 2 ^ 170) : x.natAbs ≤ FM := by
  have := fm_big
  omega
theorem rnd_add' {a b : Nat} (ha : fin32 a = true) (hb : fin32 b = true) (h : -(2 ^ 170) ≤ fv a + fv b) (h2 : fv a + fv b ≤ 2 ^ 170) : Rnd (fadd .f32 a b) (fv a + fv b) 1 := rnd_add ha hb (fm_ok h h2)
theorem Rnd.fin {r : Nat} {num : Int} {den : Nat} (h : Rnd r num den) : fin32 r = true := h.1

/-! ### Not below nothing, and no negative nothing -/
def nn (a : Nat) : Prop := fin32 a = true ∧ a < 2147483648
theorem word_false {q : Nat} : FloatKind.f32.format.word false q = q := rfl
theorem nearest_small {m : Nat} {e : Int} : FloatKind.f32.format.nearest false m e < 2147483648 := by
  obtain ⟨q, hq, hl⟩ := nearest_word FloatKind.f32.format false m e
  have e3 : FloatKind.f32.format.infRung = 2139095040 := rfl
  rw [hq, word_false]; omega
theorem nn_form {a : Nat} (h : nn a) : ∃ m p : Nat, FloatKind.f32.decode a = .number false m ((p : Int) - 149) ∧ fv a = ((m * 2 ^ p : Nat) : Int) ∧ (fv a = 0 → a = 0) := by
  obtain ⟨s, m, p, hd, hv, q, hq, hrq, hm⟩ := fin_form h.1
  have e1 : FloatKind.f32.format.signWeight = 2147483648 := rfl
  have hs : s = false := by
    have hd' : FloatKind.f32.decode a = FloatKind.f32.format.read a := rfl
    unfold Ieee.Format.read at hd'
    simp only [e1] at hd'
    have h0 : a / 2147483648 = 0 := Nat.div_eq_of_lt h.2
    rw [h0] at hd'
    rw [hd] at hd'
    split at hd'
    · injection hd' 
    · split at hd'
      · injection hd'
      · split at hd' <;> cases hd'
  subst hs
  refine ⟨m, p, hd, hv, fun h0 => ?_⟩
  have h2 := fin_word (s := false) (q := a % 2147483648) (by
    refine Nat.lt_of_not_le fun hle => ?_
    have hd' : FloatKind.f32.decode a = FloatKind.f32.format.read a := rfl
    have e2 : FloatKind.f32.format.binade = 8388608 := rfl
    have e3 : FloatKind.f32.format.infRung = 2139095040 := rfl
    unfold Ieee.Format.read at hd'
    simp only [e1, e2, e3] at hd'
    rw [if_neg (by omega), if_neg (by omega), hd] at hd'
    split at hd' <;> cases hd')
  rw [word_false, Nat.mod_eq_of_lt h.2] at h2
  have h3 : rv a = 0 := by
    have := h2.2
    rw [h0] at this
    simp only [sg, Bool.false_eq_true, if_false] at this
    omega
  refine Nat.eq_zero_of_not_pos fun hp => ?_
  have := rv_lt hp
  omega
theorem nn_bd {a : Nat} (h : nn a) : 0 ≤ fv a := by
  obtain ⟨m, p, _, hv, _⟩ := nn_form h
  rw [hv]; omega
theorem am_nn {a : Nat} (h : isAm a = true) (hl : a < 4294967296) : nn a := by
  obtain ⟨h1, h2⟩ := isAm_iff.1 h
  refine ⟨h1, ?_⟩
  rcases h2 with h2 | h2
  · refine Nat.lt_of_not_le fun hle => ?_
    obtain ⟨s, m, p, hd, hv, _⟩ := fin_form h1
    have e1 : FloatKind.f32.format.signWeight = 2147483648 := rfl
    have hd' : FloatKind.f32.decode a = FloatKind.f32.format.read a := rfl
    unfold Ieee.Format.read at hd'
    simp only [e1] at hd'
    have h0 : (a / 2147483648 % 2 == 1) = true := by
      have : a / 2147483648 = 1 := by omega
      rw [this]; rfl
    rw [h0, hd] at hd'
    have hs : s = true := by
      split at hd'
      · injection hd'
      · split at hd'
        · injection hd'
        · split at hd' <;> cases hd'
    rw [hv, hs] at h2
    simp only [sg, if_true] at h2
    omega
  · subst h2; decide
theorem cf_small {a : Nat} (h : fin32 (cf .f32 a) = true) (ha : a < 2147483648) : cf .f32 a < 2147483648 := by
  by_cases hn : fnan .f32 a = true
  · rw [cf_of_nan hn] at h ⊢; exact absurd h (by decide)
  · rw [cf_of_not (by simpa using hn)]; exact ha
theorem nn_add {a b : Nat} (ha : nn a) (hb : nn b) (h2 : fv a + fv b ≤ 2 ^ 170) : nn (fadd .f32 a b) ∧ Rnd (fadd .f32 a b) (fv a + fv b) 1 := by
  have hr := rnd_add' ha.1 hb.1 (by have := nn_bd ha; have := nn_bd hb; omega) h2
  refine ⟨⟨hr.1, ?_⟩, hr⟩
  obtain ⟨m, p, hd, hv, _⟩ := nn_form ha
  obtain ⟨n, q, hd', hv', _⟩ := nn_form hb
  have hf := hr.1
  unfold fadd at hf ⊢
  have e : FloatKind.f32.format.add a b = (((FloatKind.f32.decode a).sum (FloatKind.f32.decode b)).map FloatKind.f32.format.write) := rfl
  rw [hd, hd'] at e
  rw [e] at hf ⊢
  simp only [Ieee.Datum.sum, Option.map_some, fres] at hf ⊢
  refine cf_small hf ?_
  generalize hbase : min ((p : Int) - 149) ((q : Int) - 149) = base at *
  have hs : (if signed false m ((p : Int) - 149 - base).toNat + signed false n ((q : Int) - 149 - base).toNat = 0 then (false && false) else decide (signed false m ((p : Int) - 149 - base).toNat + signed false n ((q : Int) - 149 - base).toNat < 0)) = false := by
    rw [signed_sg, signed_sg]
    simp only [sg, Bool.false_eq_true, if_false]
    split
    · rfl
    · exact decide_eq_false (by omega)
  show FloatKind.f32.format.nearest _ _ _ < _
  rw [hs]
  exact nearest_small
/-! ### Roads -/
structure PbOk (p b : Nat) : Prop where
  pn : nn p
  bn : nn b
  p0 : 2 ^ 143 ≤ fv p
  p1 : fv p ≤ U
  b0 : 2 ^ 143 ≤ fv b
  b1 : fv b ≤ U
section
variable {p b : Nat} (h : PbOk p b)
include h
variable {x : Nat} (hx : nn x) (hx1 : fv x ≤ U)
include hx hx1
end
end Go.Proofs.YtddmclkijheicaaGreatDoor

/- Numbers that are not negative: more of them. -/
namespace Go.Proofs.YtddmclkijheicaaGreatDoor
open Go.RowKit
attribute [local irreducible] AW AOs AO AQ AQW thenA inBlockA postA ACalls Pure
set_option linter.unusedSimpArgs false
set_option linter.unusedVariables false
set_option linter.unusedSectionVars false

end Go.Proofs.YtddmclkijheicaaGreatDoor

/- Calls that change their caller's memory; results of a slice and more. -/
namespace Go.Proofs.YtddmclkijheicaaGreatDoor
open Go.RowKit
set_option linter.unusedSimpArgs false
set_option linter.unusedVariables false

/-- A call that gives v and leaves the memory M1. -/
def Mut (P : Program) (f : FuncId) (args : List Value) (M : Mem) (v : Value) (M1 : Mem) : Prop := ACalls P f args M fun x M' => x = v ∧ M' = M1

section
variable {P : Program}
theorem Mut.of {f : FuncId} {args : List Value} {M M1 : Mem} {v : Value} (hl : M.length ≤ M1.length) (hb : Flat v) (hc : Closed M.length M → Closed M1.length M1) (h : ACalls P f args M fun x M' => x = v ∧ ∃ T, M' = M1 ++ T) : Mut P f args M v M1 := by
  intro B0 w0 r w cargs hs hv
  refine (h B0 w0 r w cargs hs hv).mono fun e w' ⟨d, x, M', r', h1, ⟨hx, T, hM⟩, he, hs', hd⟩ => ?_
  subst hx; subst hM
  refine ⟨d, x, M1, cutR M1.length r', h1, ⟨rfl, rfl⟩, fun j t c hr => ?_, hs'.cutTo (hc hs.closed), hd.flat hb⟩
  unfold cutR
  rw [if_pos (Nat.lt_of_lt_of_le (hs.dom_lt j t c hr) hl)]
  exact he j t c hr
theorem Closed.set {M : Mem} {b : Nat} {B : Blk} (h : Closed M.length M) (hf : ∀ c ∈ B.cells, Flat c) : Closed (M.set b B).length (M.set b B) := by
  rw [List.length_set]
  intro x hx c hc
  rcases List.mem_or_eq_of_mem_set hx with hx | rfl
  · exact h x hx c hc
  · exact Bel.flat (hf c hc)
section
variable {ops l : List Oper} {K : St → Prop} {n : Nat} {t : Env} {m : Mem} {d ty : Nat} {pos : String} {af : Array Edge}
end

section
variable {ops l : List Oper} {K : St → Prop} {n : Nat} {t : Env} {m : Mem} {d ty : Nat} {pos : String} {af : Array Edge}
end

section
variable {fn : Func} {n : Nat} {t : Env} {m M G : Mem}
/-- One new block, and the slice of it, with a flat value beside. -/
theorem p_allocT {k k2 j q ln cp : Nat} {tg : Option Nat} {b : Blk} {y : Value} (hr : fn.results = #[.tmp k, .tmp k2]) (hv : look t k = .slice (some ⟨j, 0, tg⟩) ln cp) (hv2 : look t k2 = y) (hy : Flat y) (hj : j = M.length + q) (hm : m = M ++ G) (hq : G[q]? = some b) (hfl : ∀ c ∈ b.cells, Flat c) :
    postA P fn (RelA M [q] (.tuple [.slice (some ⟨M.length, 0, tg⟩) ln cp, y].toArray) [b]) .ret ⟨n, t, m⟩ := by
  subst hm hj
  refine ⟨.tuple [.slice (some ⟨M.length + q, 0, tg⟩) ln cp, y].toArray, ?_, G, rfl, ?_, fun i b' hb => ?_⟩
  · exact resN (P := P) (s := ⟨n, t, M ++ G⟩) (xs := [.tmp k, .tmp k2]) (vs := [.slice (some ⟨M.length + q, 0, tg⟩) ln cp, y]) hr rfl (by simp) fun i x v hx hv' => by
      match i, hx, hv' with
      | 0, hx, hv' => cases hx; cases hv'; exact r_tmp hv
      | 1, hx, hv' => cases hx; cases hv'; exact r_tmp hv2
  · refine RenV.tuple rfl fun i x y' hx hy' => ?_
    match i, hx, hy' with
    | 0, hx, hy' =>
      cases hx; cases hy'
      have := RenV.sl (L := M.length + 1) (j := M.length) (o := 0) (n := ln) (m := cp) (tg := tg) (s := placeOf M.length [q]) (by omega)
      have e : placeOf M.length [q] M.length = M.length + q := by unfold placeOf; simp
      rw [e] at this
      exact this
    | 1, hx, hy' => cases hx; cases hy'; exact RenV.flat hy
  · cases i with
    | zero => simp at hb; subst hb; exact ⟨b, by simpa using hq, RenB.flat hfl⟩
    | succ i => simp at hb
end
end

/-! ### Lists in memory -/
theorem rowsL_snoc {α : Type} (F : α → List Value) (d : α) (l : List α) (n : α) : rows (l ++ [n]).length (fun q => F ((l ++ [n]).getD q d)) = rows l.length (fun q => F (l.getD q d)) ++ F n := by
  rw [List.length_append, List.length_singleton, rows_succ]
  congr 1
  · refine rows_congr fun q hq => ?_
    rw [List.getD_eq_getElem?_getD, List.getElem?_append_left hq, ← List.getD_eq_getElem?_getD]
  · rw [List.getD_eq_getElem?_getD, List.getElem?_append_right (Nat.le_refl _), Nat.sub_self]; rfl
theorem tabL_snoc {α : Type} (F : α → Value) (d : α) (l : List α) (n : α) : tab (l ++ [n]).length (fun q => F ((l ++ [n]).getD q d)) = tab l.length (fun q => F (l.getD q d)) ++ [F n] := by
  have := rowsL_snoc (fun x => [F x]) d l n
  rwa [rows_tab, rows_tab] at this
end Go.Proofs.YtddmclkijheicaaGreatDoor

/- A slice of an array that lies in memory. No program in sight. -/
namespace Go.Proofs.YtddmclkijheicaaGreatDoor
open Go.RowKit
set_option linter.unusedSimpArgs false
set_option linter.unusedVariables false

section
variable {P : Program} {ops l : List Oper} {K : St → Prop} {n : Nat} {t : Env} {m : Mem} {d ty : Nat} {pos : String} {af : Array Edge}
theorem o_slArr {at_ len k e : Nat} [ha : ArrT P at_ len k e] {x : Operand} {j o : Nat} (hx : evalA t x = .pointer (some ⟨j, o, none⟩) := by (conv => (lhs; whnf)); first | done | rfl) (hl : len ≠ 0 := by decide) (hd : Nat.blt d n = true := by rfl)
    (h : AOs P ops l K ⟨n, (d, .slice (some ⟨j, o, none⟩) len len) :: t, m⟩) : AOs P ops (⟨some d, .slice at_ x none none none, ty, pos, af, none⟩ :: l) K ⟨n, t, m⟩ :=
  AOs.val (v := .slice (some ⟨j, o, none⟩) len len) rfl hd (fun B0 w0 r a w hs => by
    have hx1 := hs.eval x
    rw [hx] at hx1
    obtain ⟨c, z, he, hr⟩ := hx1.ptr_inv
    obtain ⟨hu, hsz⟩ := arr_facts (P := P) (at_ := at_)
    refine ⟨.slice (some ⟨c, zo none z + o, none⟩) len len, ?_, .base ⟨c, z, len, rfl, hr, .inl ⟨rfl, rfl⟩⟩⟩
    simp [execOp, he, Instr.sliceAt, Instr.sureAddr, Instr.sliceBounds, Instr.sliceBound, run_underlying hu, hsz, addr_add, hl]) h
end
end Go.Proofs.YtddmclkijheicaaGreatDoor

/- The cells of a junction. -/
namespace Go.Proofs.YtddmclkijheicaaGreatDoor
open Go.RowKit
attribute [local irreducible] AW AOs AO AQ AQW thenA inBlockA postA ACalls Pure
set_option linter.unusedSimpArgs false
set_option linter.unusedVariables false
set_option linter.unusedSectionVars false

/-- The cells of a junction. -/
def jnJ (ins outs : Int) (h : Nat → Nat) (q : Nat) : Value := if q = 0 then .int .i64 ins else if q = 1 then .int .i64 outs else .float .f32 (h q)
abbrev jnV (ins outs : Int) (h : Nat → Nat) : Value := .agg (tab 22 (jnJ ins outs h)).toArray
theorem jn_flat {ins outs : Int} {h : Nat → Nat} : ∀ c ∈ tab 22 (jnJ ins outs h), Flat c := flat_tabs fun i => by
  unfold jnJ
  split
  · exact Flat.int _ _
  · split
    · exact Flat.int _ _
    · exact Flat.float _ _
theorem jn_put {ins outs : Int} {h : Nat → Nat} {x v : Nat} (hx : 2 ≤ x) : (tab 22 fun i => if i = x then Value.float .f32 v else jnJ ins outs h i) = tab 22 (jnJ ins outs fun q => if q = x then v else h q) := by
  congr 1
  funext i
  unfold jnJ
  by_cases e : i = x
  · rw [if_pos e, if_neg (by omega), if_neg (by omega)]
    show _ = Value.float .f32 (if i = x then v else h i)
    rw [if_pos e]
  · rw [if_neg e]
    split
    · rfl
    · split
      · rfl
      · show _ = Value.float .f32 (if i = x then v else h i)
        rw [if_neg e]
end Go.Proofs.YtddmclkijheicaaGreatDoor

/- append to a slice that is full; the greater and the lesser one of numbers. No program in sight. -/
namespace Go.Proofs.YtddmclkijheicaaGreatDoor
open Go.RowKit
set_option linter.unusedSimpArgs false
set_option linter.unusedVariables false

section
variable {P : Program} {ops l : List Oper} {K : St → Prop} {n : Nat} {t : Env} {m : Mem} {d ty : Nat} {pos : String} {af : Array Edge}
theorem o_appF {st k b e : Nat} [ha : SlT P st k b e] {z : Value} [hz : TyZ P e z] {x y : Operand} {jx ox p : Nat} {b1 : Blk} {xs : List Value} {j' o' q cp' : Nat} {tg' : Option Nat} {b' : Blk} {ys : List Value} {m' : Mem} {j : Nat}
    (hx : evalA t x = .slice (some ⟨jx, ox, none⟩) p p := by (conv => (lhs; whnf)); first | done | rfl) (hy : evalA t y = .slice (some ⟨j', o', tg'⟩) q cp' := by (conv => (lhs; whnf)); first | done | rfl)
    (hb1 : m[jx]? = some b1 := by first | (simp only [mem_tail, mem_tail0, List.getElem?_cons_zero, List.getElem?_cons_succ]; first | done | rfl) | exact mem_head (by assumption) | assumption | (simp only [mem_tailS, mem_tailS0, List.getElem?_cons_zero, List.getElem?_cons_succ]; first | done | rfl) | exact mem_set1 (by assumption) | exact mem_set0 (by assumption) | exact mem_setN1 (by assumption) (by assumption) | exact mem_setN (by assumption) (by assumption)) (ht1 : b1.tag = none := by rfl) (hxs : (b1.cells.drop ox).take (p * k) = xs := by first | (simp only [List.drop_zero]; first | rfl | (refine List.take_of_length_le ?_; first | (simp only [cellsA, List.length_cons, List.length_nil, tab_len]; omega) | omega)) | rfl)
    (hb' : m[j']? = some b' := by first | (simp only [mem_tail, mem_tail0, List.getElem?_cons_zero, List.getElem?_cons_succ]; first | done | rfl) | exact mem_head (by assumption) | assumption | (simp only [mem_tailS, mem_tailS0, List.getElem?_cons_zero, List.getElem?_cons_succ]; first | done | rfl) | exact mem_set1 (by assumption) | exact mem_set0 (by assumption) | exact mem_setN1 (by assumption) (by assumption) | exact mem_setN (by assumption) (by assumption)) (htg : b'.tag = tg' := by rfl) (hys : (b'.cells.drop o').take (q * k) = ys := by first | (simp only [List.drop_zero]; first | rfl | (refine List.take_of_length_le ?_; first | (simp only [cellsA, List.length_cons, List.length_nil, tab_len]; omega) | omega)) | rfl)
    (hk : (cellsA z).length = k := by first | rfl | (simp only [cellsA, tab_len, List.length_cons, List.length_nil, List.length_append]; done))
    (hlx : xs.length = p * k := by first | rfl | assumption | (simp only [cellsA, tab_len, List.length_cons, List.length_nil, List.length_append]; first | done | omega) | (simp only [List.length_append, List.length_cons, List.length_nil, *]; first | done | omega)) (hly : ys.length = q * k := by first | rfl | assumption | (simp only [cellsA, tab_len, List.length_cons, List.length_nil, List.length_append]; first | done | omega) | (simp only [List.length_append, List.length_cons, List.length_nil, *]; first | done | omega)) (hq : 0 < q := by omega) (hbig : (p + q) * b ≤ 140737488355328 ∧ p + q ≤ 9223372036854775807 := by omega)
    (hm : m ++ [⟨xs ++ ys, some (p + q), true⟩] = m' := by first | (simp only [List.append_assoc, cellsA, List.cons_append, List.nil_append]; rfl) | rfl) (hj : m.length = j := by first | (simp only [List.length_append, List.length_set, List.length_cons, List.length_nil, Nat.reduceAdd, Nat.zero_add]; first | done | rfl) | rfl) (hd : Nat.blt d n = true := by rfl)
    (h : AOs P ops l K ⟨n, (d, .slice (some ⟨j, 0, some (p + q)⟩) (p + q) (p + q)) :: t, m'⟩) :
    AOs P ops (⟨some d, .call { callee := .builtin .append, args := #[x, y], argTypes := #[st, st] }, ty, pos, af, none⟩ :: l) K ⟨n, t, m⟩ :=
  AOs.gen (v := .slice (some ⟨j, 0, some (p + q)⟩) (p + q) (p + q)) (m' := m') rfl hd (fun B0 w0 r ac w hs => by
    have hx1 := hs.eval x
    have hy1 := hs.eval y
    rw [hx] at hx1
    rw [hy] at hy1
    obtain ⟨hu, inf, hinf, hsz, hbt⟩ := sl_facts (P := P) (st := st)
    have hz1 := hz.out
    rw [hinf] at hz1
    have hz3 : inf.zero = some z := hz1
    obtain ⟨c1, z1, mx, hex, hrx, hcap⟩ := hx1.slice_inv
    have hmx : mx = p := by
      rcases hcap with ⟨_, h⟩ | ⟨h, _⟩
      · exact h
      · cases h
    subst hmx
    obtain ⟨c2, z2, my, hey, hry, _⟩ := hy1.slice_inv
    simp only at hrx hry
    obtain ⟨us1, hus1, hvu1⟩ := hs.sim.part hb1 (by rw [ht1]; exact hrx) hxs
    rw [ht1] at hus1
    have hul1 : us1.length = mx * k := by rw [← hvu1.1, hlx]
    obtain ⟨us, hus, hvu⟩ := hs.sim.part hb' (by rw [htg]; exact hry) hys
    rw [htg] at hus
    have hul : us.length = q * k := by rw [← hvu.1, hly]
    have hzk : z.cells.size = k := by
      rw [← hk]
      have hc := VR.const r hz.ok
      cases z <;> first
        | (obtain ⟨ws, he, hl⟩ := hc.agg_inv; rfl)
        | rfl
    have hex' : ac.eval x = .slice (some ⟨c1, zo none z1 + ox, none⟩) mx mx := hex
    have hey' : ac.eval y = .slice (some ⟨c2, zo tg' z2 + o', none⟩) q my := hey
    have hfy : (Builtin.firstCells inf.size q (.slice (some ⟨c2, zo tg' z2 + o', none⟩) q my)).run P w.drew = .ok us.toArray w.drew :=
      run_firstCells_some w.drew inf.size q _ q my us (by rw [hsz]; exact hul) (fun i v hv => hus i v hv)
    have hfx : (Builtin.firstCells inf.size mx (.slice (some ⟨c1, zo none z1 + ox, none⟩) mx mx)).run P w.drew = .ok us1.toArray w.drew :=
      run_firstCells_some w.drew inf.size mx _ mx mx us1 (by rw [hsz]; exact hul1) (fun i v hv => hus1 i v hv)
    have hroom : ¬ mx + q ≤ mx := by omega
    have hnfit := growslice_fits (need := mx + q) (old := mx) (bytes := inf.bytes) (by omega) (by rw [hbt]; exact hbig.1)
    generalize hncap : grownCap w (mx + q) mx e = ncap at *
    have hge : mx + q ≤ ncap := by rw [← hncap]; exact grownCap_ge _ _ _ _
    have hrun : (Builtin.append_ #[st, st] ty #[ac.eval x, ac.eval y]).run P w = .ok (.slice (some ⟨w.heap.size, 0, none⟩) (mx + q) ncap)
        (w.drew.alloc (.cells (us1 ++ us ++ (Builtin.zeroCells z.cells (ncap - (mx + q))).toList).toArray e)) := by
      rw [hex', hey']
      have h63' : ¬ (9223372036854775807 < ((mx : Int) + (q : Int))) := by omega
      have h48' : ¬ (281474976710656 < Builtin.nextslicecap (mx + q) mx * inf.bytes) := by omega
      subst hncap
      simp [Builtin.append_, run_underlying hu, sizeOf, typeInfo, zeroValue, hinf, hz3, Builtin.lenOf, hroom, h63', h48', Question.forced, hfy, hfx, newRow, grownCap]
      try (congr 2; apply Array.ext'; simp [List.append_assoc])
    have hs' := hs.sim.drew'
    have e1 : (us1 ++ us ++ (Builtin.zeroCells z.cells (ncap - (mx + q))).toList).length = ncap * k := by
      simp only [List.length_append, Array.length_toList, size_zeroCells, hzk, hul, hul1]
      rw [← Nat.add_mul, ← Nat.add_mul]
      congr 1; omega
    obtain ⟨hE, hS⟩ := hs'.pushT (xs := xs ++ ys) (ys := us1 ++ us ++ (Builtin.zeroCells z.cells (ncap - (mx + q))).toList) (fun i u v hu' hv' => by
      have hi : i < (xs ++ ys).length := (List.getElem?_eq_some_iff.1 hu').1
      rw [List.length_append] at hi
      rw [List.getElem?_append_left (by rw [List.length_append]; omega)] at hv'
      exact (hvu1.append hvu).2 i u v hu' hv') (mx + q) ncap
      (by
        refine ⟨?_, ?_, fun h => absurd h (by omega)⟩
        · rw [e1, List.length_append, hlx, hly, ← Nat.add_mul]; exact Nat.mul_le_mul_right _ hge
        · rw [e1, List.length_append, hlx, hly, ← Nat.add_mul, Nat.mul_assoc, Nat.mul_comm k]) e
    refine ⟨.slice (some ⟨w.heap.size, 0, none⟩) (mx + q) ncap, _, _, ?_, hE, hm ▸ hS, .base ⟨w.heap.size, ncap, ncap, by simp [zo], by show addT _ _ _ _ _ _ _ = _; unfold addT; rw [if_pos ⟨hj.symm, rfl⟩]; rfl, .inr ⟨rfl, hge, Nat.le_refl _⟩⟩⟩
    simp only [execOp, resolve, invoke, builtin]
    simp [hrun]) h
end

/-! ### max and min of floats -/
section
variable {P : Program} {ops l : List Oper} {K : St → Prop} {n : Nat} {t : Env} {m : Mem} {d ty : Nat} {pos : String} {af : Array Edge}
end
end Go.Proofs.YtddmclkijheicaaGreatDoor
