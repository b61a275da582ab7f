/- What the small functions on numbers, phases and tables give. -/
import Derived.Test.YtgdpcomemkimhaaGreatDoorTab
import Derived.Test.YtgdpcomemkimhaaGreatDoorFv

namespace Go.Proofs.YtgdpcomemkimhaaGreatDoor
open Go.RowKit
attribute [local irreducible] AW AOs AO AQ AQW thenA inBlockA postA ACalls Pure
set_option linter.unusedSimpArgs false
set_option linter.unusedVariables false
set_option linter.unusedSectionVars false

theorem iinRange (a b c : Int) (M : Mem) : Pure Tryz.prog 68 [.int .i64 a, .int .i64 b, .int .i64 c] M (.bool (decide (b ≤ a ∧ a ≤ c))) := by
  refine pure_of Tryz.func68 Tryz.ntmps68 rfl rfl (by repeat' (first | exact Flat.bool _ | exact Flat.int _ _ | exact Flat.float _ _ | exact Flat.string _ | exact flat_nil | exact flat_tabL (fun _ => Flat.bool _) | exact flat_tabL (fun _ => Flat.int _ _) | exact flat_tabL (fun _ => Flat.float _ _) | refine flat_tuple ?_ | refine flat_agg ?_ | refine flat_cons ?_ ?_ | refine flat_append ?_ ?_)) ?_
  simp only [envOf, Nat.zero_add, Nat.reduceAdd]
  repeat' (first | (refine d_AOs (h := ?_) ; first | refine o_move (h := ?_) | refine o_assign (h := ?_) | refine AOs.nil (h := ?_) | (refine d_bin (h := ?_) ; first | refine o_leq (h := ?_) ) | (refine d_grd (h := ?_) ; first | refine g_yes (h := ?_) | refine g_no (h := ?_) | refine g_undef (h := ?_) | (refine g_true (h1 := (fun hg => ?_)) (h0 := (fun hg => ?_)) <;> (try rw [hg]) <;> (try simp only [decide_eq_true_eq, decide_eq_false_iff_not, Int.ofNat_inj, Bool.not_eq_true', Bool.not_eq_false', Int.not_lt, Int.not_le] at hg) <;> (try (exfalso; omega)) <;> (try (exact absurd hg (by decide)))) | (refine g_false (h1 := (fun hg => ?_)) (h0 := (fun hg => ?_)) <;> (try rw [hg]) <;> (try simp only [decide_eq_true_eq, decide_eq_false_iff_not, Int.ofNat_inj, Bool.not_eq_true', Bool.not_eq_false', Int.not_lt, Int.not_le] at hg) <;> (try (exfalso; omega)) <;> (try (exact absurd hg (by decide))))) | refine o_at (h := ?_) | refine o_pick (h := ?_) ) | (refine d_AW (h := ?_) ; first | refine AW.seq (h := ?_) | refine AW.region (h := ?_) | (refine AW.cond (ht := (fun hc => ?_)) (hf := (fun hc => ?_)) <;> (try (with_reducible first | exact absurd hc Bool.false_ne_true | exact absurd hc.symm Bool.false_ne_true)) <;> (try simp only [decide_eq_true_eq, decide_eq_false_iff_not, Int.ofNat_inj, Bool.not_eq_true', Bool.not_eq_false', Int.not_lt, Int.not_le] at hc) <;> (try (exfalso; omega)) <;> (try (exact absurd hc (by decide)))) | refine AW.block (h := ?_) | refine AW.ret (h := ?_) | refine AW.skip (h := ?_) | refine AW.exit (h := ?_) ) | (first | refine t_normal ?_ | refine t_ret ?_ | refine t_exit ?_ | refine b_normal ?_ | refine b_exit ?_ | refine b_exit' (by decide) ?_ | refine b_ret ?_) | (refine d_post (h := ?_) ; first | refine p_ret1 rfl (h := ?_) | refine p_end1 rfl (h := ?_) | refine p_cell1 rfl (h := ?_) ))
  all_goals simp [*]
  all_goals omega

/-! ### NumberOfPhase, the law -/
end Go.Proofs.YtgdpcomemkimhaaGreatDoor

/- What the functions on numbers and detectors give. -/
namespace Go.Proofs.YtgdpcomemkimhaaGreatDoor
open Go.RowKit
attribute [local irreducible] AW AOs AO AQ AQW thenA inBlockA postA ACalls Pure
set_option linter.unusedSimpArgs false
set_option linter.unusedVariables false
set_option linter.unusedSectionVars false

/-- Neither a NaN nor an infinity. -/
def ffin (k : FloatKind) (a : Nat) : Bool := !(k.decode a).isNaN && !(k.decode a).isInfinity
theorem nn_of_fin {k : FloatKind} {a : Nat} (h : ffin k a = true) : fnan k a = false := by
  unfold ffin at h; unfold fnan; simp at h; exact h.1

theorem sub_self_fin (k : FloatKind) (a : Nat) : feq k (fsub k a a) 0 = ffin k a := by
  have z : ∀ s, k.decode (k.format.word s 0) = .number s 0 k.format.leastPlace ∧ fnan k (k.format.word s 0) = false := by
    intro s; cases k <;> cases s <;> exact ⟨rfl, rfl⟩
  unfold ffin feq fsub Ieee.Format.sub
  have hz : k.format.read 0 = .number false 0 k.format.leastPlace := by cases k <;> rfl
  cases hd : k.decode a with
  | nan s t =>
    have e : k.format.read a = .nan s t := hd
    rw [e]
    show (k.format.order (nanOf k) 0 == some .eq) = _
    cases k <;> rfl
  | infinity s =>
    have e : k.format.read a = .infinity s := hd
    rw [e]
    show (k.format.order (fres k (Option.map k.format.write (if s = !s then some (.infinity s) else none))) 0 == some .eq) = _
    cases s <;> cases k <;> rfl
  | number s mg ep =>
    have e : k.format.read a = .number s mg ep := hd
    rw [e]
    simp only [Ieee.Datum.opposite, Ieee.Datum.sum, Ieee.Datum.isNaN, Ieee.Datum.isInfinity, Bool.not_false, Bool.and_self, Option.map_some]
    have h0 : Ieee.signed s mg (ep - min ep ep).toNat + Ieee.signed (!s) mg (ep - min ep ep).toNat = 0 := by
      unfold Ieee.signed; cases s <;> simp <;> omega
    rw [h0]
    simp only [if_true, Int.natAbs_zero]
    have h1 : k.format.write (.number (s && !s) 0 (min ep ep)) = k.format.word false 0 := by
      show k.format.nearest _ 0 _ = _
      unfold Ieee.Format.nearest; cases s <;> rfl
    rw [h1]
    show (k.format.order (cf k (k.format.word false 0)) 0 == some .eq) = true
    rw [cf_of_not (z false).2]
    show ((k.decode (k.format.word false 0)).order (k.format.read 0) == some .eq) = true
    rw [(z false).1, hz]
    simp [Ieee.Datum.order]

theorem iisFinite (a : Nat) (M : Mem) : Pure Tryz.prog 92 [.float .f32 a] M (.bool (ffin .f32 a)) := by
  refine pure_of Tryz.func92 Tryz.ntmps92 rfl rfl (by repeat' (first | exact Flat.bool _ | exact Flat.int _ _ | exact Flat.float _ _ | exact Flat.string _ | exact flat_nil | exact flat_tabL (fun _ => Flat.bool _) | exact flat_tabL (fun _ => Flat.int _ _) | exact flat_tabL (fun _ => Flat.float _ _) | refine flat_tuple ?_ | refine flat_agg ?_ | refine flat_cons ?_ ?_ | refine flat_append ?_ ?_)) ?_
  simp only [envOf, Nat.zero_add, Nat.reduceAdd]
  repeat' (first | (refine d_AOs (h := ?_) ; first | refine o_move (h := ?_) | refine o_assign (h := ?_) | refine AOs.nil (h := ?_) | (refine d_bin (h := ?_) ; first | refine o_eqNil (h := ?_) | refine o_eqi (h := ?_) | refine o_eqB (h := ?_) | refine o_subS (h := ?_) | refine o_sub (h := ?_) | refine o_feq (h := ?_) | refine o_fsub (h := ?_) )  | refine o_at (h := ?_) ) | (refine d_AW (h := ?_) ; first | refine AW.seq (h := ?_) | refine AW.region (h := ?_) | (refine AW.cond (ht := (fun hc => ?_)) (hf := (fun hc => ?_)) <;> (try (with_reducible first | exact absurd hc Bool.false_ne_true | exact absurd hc.symm Bool.false_ne_true)) <;> (try simp only [decide_eq_true_eq, decide_eq_false_iff_not, Int.ofNat_inj, Bool.not_eq_true', Bool.not_eq_false', Int.not_lt, Int.not_le] at hc) <;> (try (exfalso; omega)) <;> (try (exact absurd hc (by decide)))) | refine AW.block (h := ?_) | refine AW.ret (h := ?_) | refine AW.skip (h := ?_) | refine AW.exit (h := ?_) ) | (first | refine t_normal ?_ | refine t_ret ?_ | refine t_exit ?_ | refine b_normal ?_ | refine b_exit ?_ | refine b_exit' (by decide) ?_ | refine b_ret ?_) | (refine d_post (h := ?_) ; first | refine p_ret1 rfl (h := ?_) | refine p_end1 rfl (h := ?_) | refine p_cell1 rfl (h := ?_) ))
  rw [sub_self_fin]
theorem sl01Finite (a : Nat) (M : Mem) : Pure Tryz.prog 119 [.float .f32 a] M (.bool (ffin .f32 a)) := by
  refine pure_of Tryz.func119 Tryz.ntmps119 rfl rfl (by repeat' (first | exact Flat.bool _ | exact Flat.int _ _ | exact Flat.float _ _ | exact Flat.string _ | exact flat_nil | exact flat_tabL (fun _ => Flat.bool _) | exact flat_tabL (fun _ => Flat.int _ _) | exact flat_tabL (fun _ => Flat.float _ _) | refine flat_tuple ?_ | refine flat_agg ?_ | refine flat_cons ?_ ?_ | refine flat_append ?_ ?_)) ?_
  simp only [envOf, Nat.zero_add, Nat.reduceAdd]
  repeat' (first | (refine d_AOs (h := ?_) ; first | refine o_move (h := ?_) | refine o_assign (h := ?_) | refine AOs.nil (h := ?_) | (refine d_bin (h := ?_) ; first | refine o_eqNil (h := ?_) | refine o_eqi (h := ?_) | refine o_eqB (h := ?_) | refine o_subS (h := ?_) | refine o_sub (h := ?_) | refine o_feq (h := ?_) | refine o_fsub (h := ?_) )  | refine o_at (h := ?_) ) | (refine d_AW (h := ?_) ; first | refine AW.seq (h := ?_) | refine AW.region (h := ?_) | (refine AW.cond (ht := (fun hc => ?_)) (hf := (fun hc => ?_)) <;> (try (with_reducible first | exact absurd hc Bool.false_ne_true | exact absurd hc.symm Bool.false_ne_true)) <;> (try simp only [decide_eq_true_eq, decide_eq_false_iff_not, Int.ofNat_inj, Bool.not_eq_true', Bool.not_eq_false', Int.not_lt, Int.not_le] at hc) <;> (try (exfalso; omega)) <;> (try (exact absurd hc (by decide)))) | refine AW.block (h := ?_) | refine AW.ret (h := ?_) | refine AW.skip (h := ?_) | refine AW.exit (h := ?_) ) | (first | refine t_normal ?_ | refine t_ret ?_ | refine t_exit ?_ | refine b_normal ?_ | refine b_exit ?_ | refine b_exit' (by decide) ?_ | refine b_ret ?_) | (refine d_post (h := ?_) ; first | refine p_ret1 rfl (h := ?_) | refine p_end1 rfl (h := ?_) | refine p_cell1 rfl (h := ?_) ))
  rw [sub_self_fin]

/-- An amount: finite, and not below the positive zero. -/
def isAm (a : Nat) : Bool := ffin .f32 a && (fgt .f32 a 0 || decide ((a : Int) = 0))
theorem sl01Amount (a : Nat) (M : Mem) : Pure Tryz.prog 94 [.float .f32 a] M (.bool (isAm a)) := by
  refine pure_of Tryz.func94 Tryz.ntmps94 rfl rfl (by repeat' (first | exact Flat.bool _ | exact Flat.int _ _ | exact Flat.float _ _ | exact Flat.string _ | exact flat_nil | exact flat_tabL (fun _ => Flat.bool _) | exact flat_tabL (fun _ => Flat.int _ _) | exact flat_tabL (fun _ => Flat.float _ _) | refine flat_tuple ?_ | refine flat_agg ?_ | refine flat_cons ?_ ?_ | refine flat_append ?_ ?_)) ?_
  simp only [envOf, Nat.zero_add, Nat.reduceAdd]
  repeat' (first | (refine d_AOs (h := ?_) ; first | refine o_move (h := ?_) | refine o_assign (h := ?_) | refine AOs.nil (h := ?_) | (refine d_bin (h := ?_) ; first | refine o_eqNil (h := ?_) | refine o_eqi (h := ?_) | refine o_eqB (h := ?_) | refine o_gtr (h := ?_) | refine o_feq (h := ?_) | refine o_fgt (h := ?_) ) | (refine d_grd (h := ?_) ; first | refine g_yes (h := ?_) | refine g_no (h := ?_) | refine g_undef (h := ?_) | (refine g_true (h1 := (fun hg => ?_)) (h0 := (fun hg => ?_)) <;> (try rw [hg]) <;> (try simp only [decide_eq_true_eq, decide_eq_false_iff_not, Int.ofNat_inj, Bool.not_eq_true', Bool.not_eq_false', Int.not_lt, Int.not_le] at hg) <;> (try (exfalso; omega)) <;> (try (exact absurd hg (by decide)))) | (refine g_false (h1 := (fun hg => ?_)) (h0 := (fun hg => ?_)) <;> (try rw [hg]) <;> (try simp only [decide_eq_true_eq, decide_eq_false_iff_not, Int.ofNat_inj, Bool.not_eq_true', Bool.not_eq_false', Int.not_lt, Int.not_le] at hg) <;> (try (exfalso; omega)) <;> (try (exact absurd hg (by decide))))) | refine o_call (hc := (sl01Finite _ _)) (h := ?_) | refine o_at (h := ?_) | refine o_pick (h := ?_) | refine o_bits32 (h := ?_) | refine o_integral (h := ?_) ) | (refine d_AW (h := ?_) ; first | refine AW.seq (h := ?_) | refine AW.region (h := ?_) | (refine AW.cond (ht := (fun hc => ?_)) (hf := (fun hc => ?_)) <;> (try (with_reducible first | exact absurd hc Bool.false_ne_true | exact absurd hc.symm Bool.false_ne_true)) <;> (try simp only [decide_eq_true_eq, decide_eq_false_iff_not, Int.ofNat_inj, Bool.not_eq_true', Bool.not_eq_false', Int.not_lt, Int.not_le] at hc) <;> (try (exfalso; omega)) <;> (try (exact absurd hc (by decide)))) | refine AW.block (h := ?_) | refine AW.ret (h := ?_) | refine AW.skip (h := ?_) | refine AW.exit (h := ?_) ) | (first | refine t_normal ?_ | refine t_ret ?_ | refine t_exit ?_ | refine b_normal ?_ | refine b_exit ?_ | refine b_exit' (by decide) ?_ | refine b_ret ?_) | (refine d_post (h := ?_) ; first | refine p_ret1 rfl (h := ?_) | refine p_end1 rfl (h := ?_) | refine p_cell1 rfl (h := ?_) ))
  all_goals simp_all [isAm]
theorem mSignbit (a : Nat) (ha : fnan .f64 a = false) (M : Mem) : Pure Tryz.prog 93 [.float .f64 a] M (.bool (decide (IntKind.i64.wrap a < 0))) := by
  refine pure_of Tryz.func93 Tryz.ntmps93 rfl rfl (by repeat' (first | exact Flat.bool _ | exact Flat.int _ _ | exact Flat.float _ _ | exact Flat.string _ | exact flat_nil | exact flat_tabL (fun _ => Flat.bool _) | exact flat_tabL (fun _ => Flat.int _ _) | exact flat_tabL (fun _ => Flat.float _ _) | refine flat_tuple ?_ | refine flat_agg ?_ | refine flat_cons ?_ ?_ | refine flat_append ?_ ?_)) ?_
  simp only [envOf, Nat.zero_add, Nat.reduceAdd]
  repeat' (first | (refine d_AOs (h := ?_) ; first | refine o_move (h := ?_) | refine o_assign (h := ?_) | refine AOs.nil (h := ?_) | (refine d_bin (h := ?_) ; first | refine o_lss (h := ?_) )  | refine o_at (h := ?_) | refine o_convS (h := ?_) | refine o_conv (h := ?_) | refine o_fconv (h := ?_) | refine o_fofInt (h := ?_) | refine o_bits64 (h := ?_) | refine o_integral (h := ?_) ) | (refine d_AW (h := ?_) ; first | refine AW.seq (h := ?_) | refine AW.region (h := ?_) | (refine AW.cond (ht := (fun hc => ?_)) (hf := (fun hc => ?_)) <;> (try (with_reducible first | exact absurd hc Bool.false_ne_true | exact absurd hc.symm Bool.false_ne_true)) <;> (try simp only [decide_eq_true_eq, decide_eq_false_iff_not, Int.ofNat_inj, Bool.not_eq_true', Bool.not_eq_false', Int.not_lt, Int.not_le] at hc) <;> (try (exfalso; omega)) <;> (try (exact absurd hc (by decide)))) | refine AW.block (h := ?_) | refine AW.ret (h := ?_) | refine AW.skip (h := ?_) | refine AW.exit (h := ?_) ) | (first | refine t_normal ?_ | refine t_ret ?_ | refine t_exit ?_ | refine b_normal ?_ | refine b_exit ?_ | refine b_exit' (by decide) ?_ | refine b_ret ?_) | (refine d_post (h := ?_) ; first | refine p_ret1 rfl (h := ?_) | refine p_end1 rfl (h := ?_) | refine p_cell1 rfl (h := ?_) ))
  all_goals rfl

theorem nn_conv {a : Nat} (h : fnan .f32 a = false) : fnan .f64 (fconv .f32 .f64 a) = false := by
  unfold fconv
  cases hd : FloatKind.f32.decode a with
  | number s mg e =>
    show fnan .f64 (cf .f64 (FloatKind.f64.format.write _)) = false
    rw [cf_of_not (write_nn rfl)]; exact write_nn rfl
  | infinity s =>
    show fnan .f64 (cf .f64 (FloatKind.f64.format.write (.infinity s))) = false
    rw [cf_of_not (write_nn rfl)]; exact write_nn rfl
  | nan s f => unfold fnan at h; rw [hd] at h; cases h
theorem conv_word {a : Nat} {s : Bool} {mg : Nat} {e : Int} (h : FloatKind.f32.decode a = .number s mg e) : ∃ q, fconv .f32 .f64 a = FloatKind.f64.format.word s q ∧ q ≤ 9218868437227405312 := by
  obtain ⟨q, hq, hl⟩ := nearest_word FloatKind.f64.format s mg e
  refine ⟨q, ?_, hl⟩
  unfold fconv
  rw [h]
  show cf .f64 (FloatKind.f64.format.write _) = _
  rw [cf_of_not (write_nn rfl)]
  exact hq
theorem conv_neg {a : Nat} {s : Bool} {mg : Nat} {e : Int} (h : FloatKind.f32.decode a = .number s mg e) : decide (IntKind.i64.wrap (fconv .f32 .f64 a) < 0) = s := by
  obtain ⟨q, hq, hl⟩ := conv_word h
  have e1 : FloatKind.f64.format.signWeight = 9223372036854775808 := rfl
  rw [hq, IntKind.wrap_i64]
  unfold Ieee.Format.word
  rw [e1]
  cases s <;> simp <;> omega
theorem order_zero {k : FloatKind} {a : Nat} {s : Bool} {mg : Nat} {e : Int} (h : k.decode a = .number s mg e) : ∃ n, k.format.order a 0 = some (compare (Ieee.signed s mg n) 0) := by
  have hz : k.format.read 0 = .number false 0 k.format.leastPlace := by cases k <;> rfl
  unfold Ieee.Format.order
  have h' : k.format.read a = .number s mg e := h
  rw [h', hz]
  refine ⟨(e - min e k.format.leastPlace).toNat, ?_⟩
  simp only [Ieee.Datum.order]
  congr 2
  simp [Ieee.signed]
theorem zero_word {a : Nat} (ha : a < 4294967296) {s : Bool} {mg : Nat} {e : Int} (h : FloatKind.f32.decode a = .number s mg e) : (s = false ∧ mg = 0) ↔ a = 0 := by
  have e1 : FloatKind.f32.format.signWeight = 2147483648 := rfl
  have e2 : FloatKind.f32.format.binade = 8388608 := rfl
  have e3 : FloatKind.f32.format.infRung = 2139095040 := rfl
  unfold FloatKind.decode Ieee.Format.read at h
  simp only [e1, e2, e3] at h
  split at h
  · simp only [Ieee.Datum.number.injEq] at h
    obtain ⟨h1, h2, _⟩ := h
    rw [← h1, ← h2]
    simp only [beq_eq_false_iff_ne]
    omega
  · split at h
    · simp only [Ieee.Datum.number.injEq] at h
      obtain ⟨h1, h2, _⟩ := h
      rw [← h2]
      constructor
      · omega
      · intro h0; subst h0; omega
    · split at h <;> cases h
theorem am_eq {a : Nat} (ha : FltOk .f32 a) : (fge .f32 a 0 && (ffin .f32 a && !decide (IntKind.i64.wrap (fconv .f32 .f64 a) < 0))) = isAm a := by
  unfold isAm
  cases hd : FloatKind.f32.decode a with
  | nan s f => have : ffin .f32 a = false := by unfold ffin; rw [hd]; rfl
               rw [this]; simp
  | infinity s => have : ffin .f32 a = false := by unfold ffin; rw [hd]; rfl
                  rw [this]; simp
  | number s mg e =>
    have hf : ffin .f32 a = true := by unfold ffin; rw [hd]; rfl
    have hz := zero_word ha.1 hd
    rw [hf, conv_neg hd]
    obtain ⟨n, ho⟩ := order_zero hd
    unfold fge fgt
    rw [ho]
    cases s with
    | true =>
      have h0 : a ≠ 0 := fun h => by simp at hz; exact hz h
      have : ¬ Ieee.signed true mg n > 0 := by
        obtain ⟨z, hz⟩ : ∃ z : Nat, Ieee.signed true mg n = -(z : Int) := ⟨mg <<< n, rfl⟩
        omega
      have h2 : compare (Ieee.signed true mg n) 0 ≠ .gt := fun h => this (Int.compare_eq_gt.1 h)
      simp [h0, h2]
    | false =>
      obtain ⟨z, h1, h2⟩ : ∃ z : Nat, Ieee.signed false mg n = (z : Int) ∧ (mg ≠ 0 → 0 < z) :=
        ⟨mg <<< n, rfl, fun h => by rw [Nat.shiftLeft_eq]; exact Nat.mul_pos (by omega) (Nat.two_pow_pos n)⟩
      rw [h1]
      by_cases hm : mg = 0
      · have h0 : a = 0 := hz.1 ⟨rfl, hm⟩
        have h3 : z = 0 := by
          have : Ieee.signed false mg n = 0 := by subst hm; simp [Ieee.signed]
          omega
        subst h3
        simp [h0]
      · have h4 := h2 hm
        have h2 : compare (z : Int) 0 = .gt := Int.compare_eq_gt.2 (by omega)
        rw [h2]; simp
theorem iIsAmount (a : Nat) (M : Mem) : Pure Tryz.prog 39 [.float .f32 a] M (.bool (isAm a)) := by
  refine Pure.given 0 rfl fun ha => ?_
  refine pure_of Tryz.func39 Tryz.ntmps39 rfl rfl (by repeat' (first | exact Flat.bool _ | exact Flat.int _ _ | exact Flat.float _ _ | exact Flat.string _ | exact flat_nil | exact flat_tabL (fun _ => Flat.bool _) | exact flat_tabL (fun _ => Flat.int _ _) | exact flat_tabL (fun _ => Flat.float _ _) | refine flat_tuple ?_ | refine flat_agg ?_ | refine flat_cons ?_ ?_ | refine flat_append ?_ ?_)) ?_
  rw [← am_eq ha]
  simp only [envOf, Nat.zero_add, Nat.reduceAdd]
  repeat' (first | (refine d_AOs (h := ?_) ; first | refine o_move (h := ?_) | refine o_assign (h := ?_) | refine AOs.nil (h := ?_) | (refine d_bin (h := ?_) ; first | refine o_geq (h := ?_) | refine o_fge (h := ?_) ) | (refine d_grd (h := ?_) ; first | refine g_yes (h := ?_) | refine g_no (h := ?_) | refine g_undef (h := ?_) | (refine g_true (h1 := (fun hg => ?_)) (h0 := (fun hg => ?_)) <;> (try rw [hg]) <;> (try simp only [decide_eq_true_eq, decide_eq_false_iff_not, Int.ofNat_inj, Bool.not_eq_true', Bool.not_eq_false', Int.not_lt, Int.not_le] at hg) <;> (try (exfalso; omega)) <;> (try (exact absurd hg (by decide)))) | (refine g_false (h1 := (fun hg => ?_)) (h0 := (fun hg => ?_)) <;> (try rw [hg]) <;> (try simp only [decide_eq_true_eq, decide_eq_false_iff_not, Int.ofNat_inj, Bool.not_eq_true', Bool.not_eq_false', Int.not_lt, Int.not_le] at hg) <;> (try (exfalso; omega)) <;> (try (exact absurd hg (by decide))))) | refine o_call (hc := (iisFinite _ _)) (h := ?_) | refine o_call (hc := (mSignbit _ (nn_conv (nn_of_fin (by assumption))) _)) (h := ?_) | refine o_at (h := ?_) | refine o_pick (h := ?_) | refine o_not (h := ?_) | refine o_convS (h := ?_) | refine o_conv (h := ?_) | refine o_fconv (h := ?_) | refine o_fofInt (h := ?_) | refine o_integral (h := ?_) ) | (refine d_AW (h := ?_) ; first | refine AW.seq (h := ?_) | refine AW.region (h := ?_) | (refine AW.cond (ht := (fun hc => ?_)) (hf := (fun hc => ?_)) <;> (try (with_reducible first | exact absurd hc Bool.false_ne_true | exact absurd hc.symm Bool.false_ne_true)) <;> (try simp only [decide_eq_true_eq, decide_eq_false_iff_not, Int.ofNat_inj, Bool.not_eq_true', Bool.not_eq_false', Int.not_lt, Int.not_le] at hc) <;> (try (exfalso; omega)) <;> (try (exact absurd hc (by decide)))) | refine AW.block (h := ?_) | refine AW.ret (h := ?_) | refine AW.skip (h := ?_) | refine AW.exit (h := ?_) ) | (first | refine t_normal ?_ | refine t_ret ?_ | refine t_exit ?_ | refine b_normal ?_ | refine b_exit ?_ | refine b_exit' (by decide) ?_ | refine b_ret ?_) | (refine d_post (h := ?_) ; first | refine p_ret1 rfl (h := ?_) | refine p_end1 rfl (h := ?_) | refine p_cell1 rfl (h := ?_) ))
  all_goals simp_all

/-! ### Detectors -/
theorem nan_eq {k : FloatKind} {a : Nat} (h : FltOk k a) (hn : fnan k a = true) : a = nanOf k := by rw [← h.2, cf_of_nan hn]
theorem same_nan {k : FloatKind} {a b : Nat} (ha : FltOk k a) (hb : FltOk k b) (hn : fnan k a = true) : decide (a = b) = fnan k b := by
  cases h : fnan k b
  · exact decide_eq_false fun e => by subst e; rw [hn] at h; cases h
  · exact decide_eq_true (by rw [nan_eq ha hn, nan_eq hb h])
theorem ibitsOf (a : Nat) (M : Mem) : Pure Tryz.prog 87 [.float .f32 a] M (.int .u32 (a : Int)) := by
  refine Pure.given 0 rfl fun ha => ?_
  refine pure_of Tryz.func87 Tryz.ntmps87 rfl rfl (by repeat' (first | exact Flat.bool _ | exact Flat.int _ _ | exact Flat.float _ _ | exact Flat.string _ | exact flat_nil | exact flat_tabL (fun _ => Flat.bool _) | exact flat_tabL (fun _ => Flat.int _ _) | exact flat_tabL (fun _ => Flat.float _ _) | refine flat_tuple ?_ | refine flat_agg ?_ | refine flat_cons ?_ ?_ | refine flat_append ?_ ?_)) ?_
  simp only [envOf, Nat.zero_add, Nat.reduceAdd]
  repeat' (first | (refine d_AOs (h := ?_) ; first | refine o_move (h := ?_) | refine o_assign (h := ?_) | refine AOs.nil (h := ?_) | (refine d_bin (h := ?_) ; first | refine o_neB (h := ?_) | refine o_nei (h := ?_) | refine o_fisnan (h := ?_) | refine o_fne (h := ?_) )  | refine o_at (h := ?_) | refine o_bits32 (h := ?_) | refine o_integral (h := ?_) ) | (refine d_AW (h := ?_) ; first | refine AW.seq (h := ?_) | refine AW.region (h := ?_) | (refine AW.cond (ht := (fun hc => ?_)) (hf := (fun hc => ?_)) <;> (try (with_reducible first | exact absurd hc Bool.false_ne_true | exact absurd hc.symm Bool.false_ne_true)) <;> (try simp only [decide_eq_true_eq, decide_eq_false_iff_not, Int.ofNat_inj, Bool.not_eq_true', Bool.not_eq_false', Int.not_lt, Int.not_le] at hc) <;> (try (exfalso; omega)) <;> (try (exact absurd hc (by decide)))) | refine AW.block (h := ?_) | refine AW.ret (h := ?_) | refine AW.skip (h := ?_) | refine AW.exit (h := ?_) ) | (first | refine t_normal ?_ | refine t_ret ?_ | refine t_exit ?_ | refine b_normal ?_ | refine b_exit ?_ | refine b_exit' (by decide) ?_ | refine b_ret ?_) | (refine d_post (h := ?_) ; first | refine p_ret1 rfl (h := ?_) | refine p_end1 rfl (h := ?_) | refine p_cell1 rfl (h := ?_) ))
  · rw [nan_eq ha hc]; rfl
  · rfl
theorem iSameNumber (a b : Nat) (M : Mem) : Pure Tryz.prog 35 [.float .f32 a, .float .f32 b] M (.bool (decide (a = b))) := by
  refine pure_of Tryz.func35 Tryz.ntmps35 rfl rfl (by repeat' (first | exact Flat.bool _ | exact Flat.int _ _ | exact Flat.float _ _ | exact Flat.string _ | exact flat_nil | exact flat_tabL (fun _ => Flat.bool _) | exact flat_tabL (fun _ => Flat.int _ _) | exact flat_tabL (fun _ => Flat.float _ _) | refine flat_tuple ?_ | refine flat_agg ?_ | refine flat_cons ?_ ?_ | refine flat_append ?_ ?_)) ?_
  simp only [envOf, Nat.zero_add, Nat.reduceAdd]
  repeat' (first | (refine d_AOs (h := ?_) ; first | refine o_move (h := ?_) | refine o_assign (h := ?_) | refine AOs.nil (h := ?_) | (refine d_bin (h := ?_) ; first | refine o_eqNil (h := ?_) | refine o_eqi (h := ?_) | refine o_eqB (h := ?_) )  | refine o_call (hc := (ibitsOf _ _)) (h := ?_) | refine o_at (h := ?_) ) | (refine d_AW (h := ?_) ; first | refine AW.seq (h := ?_) | refine AW.region (h := ?_) | (refine AW.cond (ht := (fun hc => ?_)) (hf := (fun hc => ?_)) <;> (try (with_reducible first | exact absurd hc Bool.false_ne_true | exact absurd hc.symm Bool.false_ne_true)) <;> (try simp only [decide_eq_true_eq, decide_eq_false_iff_not, Int.ofNat_inj, Bool.not_eq_true', Bool.not_eq_false', Int.not_lt, Int.not_le] at hc) <;> (try (exfalso; omega)) <;> (try (exact absurd hc (by decide)))) | refine AW.block (h := ?_) | refine AW.ret (h := ?_) | refine AW.skip (h := ?_) | refine AW.exit (h := ?_) ) | (first | refine t_normal ?_ | refine t_ret ?_ | refine t_exit ?_ | refine b_normal ?_ | refine b_exit ?_ | refine b_exit' (by decide) ?_ | refine b_ret ?_) | (refine d_post (h := ?_) ; first | refine p_ret1 rfl (h := ?_) | refine p_end1 rfl (h := ?_) | refine p_cell1 rfl (h := ?_) ))
  all_goals (first | rfl | (simp; done) | (simp [Int.ofNat_inj]; done))
theorem sl01Same (a b : Nat) (M : Mem) : Pure Tryz.prog 91 [.float .f32 a, .float .f32 b] M (.bool (decide (a = b))) := by
  refine Pure.given 0 rfl fun ha => ?_
  refine Pure.given 1 rfl fun hb => ?_
  refine pure_of Tryz.func91 Tryz.ntmps91 rfl rfl (by repeat' (first | exact Flat.bool _ | exact Flat.int _ _ | exact Flat.float _ _ | exact Flat.string _ | exact flat_nil | exact flat_tabL (fun _ => Flat.bool _) | exact flat_tabL (fun _ => Flat.int _ _) | exact flat_tabL (fun _ => Flat.float _ _) | refine flat_tuple ?_ | refine flat_agg ?_ | refine flat_cons ?_ ?_ | refine flat_append ?_ ?_)) ?_
  simp only [envOf, Nat.zero_add, Nat.reduceAdd]
  repeat' (first | (refine d_AOs (h := ?_) ; first | refine o_move (h := ?_) | refine o_assign (h := ?_) | refine AOs.nil (h := ?_) | (refine d_bin (h := ?_) ; first | refine o_eqNil (h := ?_) | refine o_eqi (h := ?_) | refine o_eqB (h := ?_) | refine o_neB (h := ?_) | refine o_nei (h := ?_) | refine o_fisnan (h := ?_) | refine o_fne (h := ?_) | refine o_feq (h := ?_) ) | (refine d_grd (h := ?_) ; first | refine g_yes (h := ?_) | refine g_no (h := ?_) | refine g_undef (h := ?_) | (refine g_true (h1 := (fun hg => ?_)) (h0 := (fun hg => ?_)) <;> (try rw [hg]) <;> (try simp only [decide_eq_true_eq, decide_eq_false_iff_not, Int.ofNat_inj, Bool.not_eq_true', Bool.not_eq_false', Int.not_lt, Int.not_le] at hg) <;> (try (exfalso; omega)) <;> (try (exact absurd hg (by decide)))) | (refine g_false (h1 := (fun hg => ?_)) (h0 := (fun hg => ?_)) <;> (try rw [hg]) <;> (try simp only [decide_eq_true_eq, decide_eq_false_iff_not, Int.ofNat_inj, Bool.not_eq_true', Bool.not_eq_false', Int.not_lt, Int.not_le] at hg) <;> (try (exfalso; omega)) <;> (try (exact absurd hg (by decide))))) | refine o_at (h := ?_) | refine o_pick (h := ?_) | refine o_bits32 (h := ?_) | refine o_integral (h := ?_) ) | (refine d_AW (h := ?_) ; first | refine AW.seq (h := ?_) | refine AW.region (h := ?_) | (refine AW.cond (ht := (fun hc => ?_)) (hf := (fun hc => ?_)) <;> (try (with_reducible first | exact absurd hc Bool.false_ne_true | exact absurd hc.symm Bool.false_ne_true)) <;> (try simp only [decide_eq_true_eq, decide_eq_false_iff_not, Int.ofNat_inj, Bool.not_eq_true', Bool.not_eq_false', Int.not_lt, Int.not_le] at hc) <;> (try (exfalso; omega)) <;> (try (exact absurd hc (by decide)))) | refine AW.block (h := ?_) | refine AW.ret (h := ?_) | refine AW.skip (h := ?_) | refine AW.exit (h := ?_) ) | (first | refine t_normal ?_ | refine t_ret ?_ | refine t_exit ?_ | refine b_normal ?_ | refine b_exit ?_ | refine b_exit' (by decide) ?_ | refine b_ret ?_) | (refine d_post (h := ?_) ; first | refine p_ret1 rfl (h := ?_) | refine p_end1 rfl (h := ?_) | refine p_cell1 rfl (h := ?_) ))
  all_goals first
    | (rw [same_nan ha hb (by assumption)]; done)
    | (have e : a ≠ b := fun h => by subst h; simp_all
       simp [e]; done)
    | (simp [Int.ofNat_inj]; done)

/-! ### Counts -/
end Go.Proofs.YtgdpcomemkimhaaGreatDoor

/- Roads: the words of their numbers. No program in sight. -/
namespace Go.Proofs.YtgdpcomemkimhaaGreatDoor
open Go.RowKit
attribute [local irreducible] AW AOs AO AQ AQW thenA inBlockA postA ACalls Pure
set_option linter.unusedSimpArgs false
set_option linter.unusedVariables false
set_option linter.unusedSectionVars false

/-! ### Words -/
def isSh (a : Nat) : Bool := isAm a && fle .f32 a 1065353216
def less (a b : Nat) : Nat := if flt .f32 b a = true then b else a
abbrev rdC (c : Nat → Nat) (p b l : Nat) : List Value := tab 16 (fun q => .float .f32 (c q)) ++ ([.float .f32 p, .float .f32 b, .float .f32 l] : List Value)
abbrev rdV (c : Nat → Nat) (p b l : Nat) : Value := .agg (rdC c p b l).toArray
abbrev rdB (c : Nat → Nat) (p b l : Nat) : Blk := ⟨rdC c p b l, none, true⟩
/-- A valid road. -/
structure RdOk (c : Nat → Nat) (p b l : Nat) : Prop where
  cars : ∀ q, q < 16 → isSh (c q) = true
  pace : isSh p = true
  back : isSh b = true
  paceL : fge .f32 p 1015021568 = true
  backL : fge .f32 b 1015021568 = true
  lanes : isAm l = true
  lanesL : fge .f32 l 1048576000 = true
  lanesH : fle .f32 l 1090519040 = true
end Go.Proofs.YtgdpcomemkimhaaGreatDoor
