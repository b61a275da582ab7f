/- The law of shares that stay. -/
import Derived.Test.YtpffdjleonkdoaaSiC
import Derived.Test.YtpffdjleonkdoaaSkc
import Derived.Test.YtpffdjleonkdoaaSo
import Derived.Test.YtpffdjleonkdoaaDl
namespace Go.Proofs.Ytpffdjleonkdoaa
open Go.RowKit
attribute [local irreducible] AW AOs AO AQ AQW thenA inBlockA postA ACalls Pure
set_option linter.unusedSimpArgs false
set_option linter.unusedVariables false
set_option linter.unusedSectionVars false

set_option maxHeartbeats 4000000 in
theorem wStill (a a' : Option Addr) (n n' cp cp' : Nat) (cd cd' : Nat → Int) (M : Mem) (hm : n ≤ 9223372036854775807) (hm' : n' ≤ 9223372036854775807) (hcd : ∀ q, 0 ≤ cd q ∧ cd q ≤ 255) (hcd' : ∀ q, 0 ≤ cd' q ∧ cd' q ≤ 255)
    (hS : SlAt M a n (tab n fun q => .int .u8 (cd q))) (hS' : SlAt M a' n' (tab n' fun q => .int .u8 (cd' q))) :
    Pure Try.prog 4 [.slice a n cp, .slice a' n' cp'] M (.bool true) := by
  have hB := fun M' => la2Long a a' n n' cp cp' hm hm' M'
  by_cases hbig : (3000 : Int) < n ∨ (3000 : Int) < n'
  · rw [decide_eq_true hbig] at hB
    refine pure_of Try.func4 Try.ntmps4 rfl rfl (by repeat' (first | exact Flat.bool _ | exact Flat.int _ _ | exact Flat.float _ _ | exact Flat.string _ | exact flat_nil | exact flat_tabL (fun _ => Flat.bool _) | exact flat_tabL (fun _ => Flat.int _ _) | exact flat_tabL (fun _ => Flat.float _ _) | refine flat_tuple ?_ | refine flat_agg ?_ | refine flat_cons ?_ ?_ | refine flat_append ?_ ?_)) ?_
    simp only [envOf, Nat.zero_add, Nat.reduceAdd]
    repeat' (first | (refine d_AOs (h := ?_) ; first | refine o_move (h := ?_) | refine o_assign (h := ?_) | refine AOs.nil (h := ?_) | (refine d_bin (h := ?_) ; first | refine o_eqNil (h := ?_) | refine o_addS (h := ?_) | refine o_add (h := ?_) | refine o_lss (h := ?_) | refine o_eqi (h := ?_) | refine o_eqB (h := ?_) | refine o_neB (h := ?_) | refine o_nei (h := ?_) | refine o_leq (h := ?_) | refine o_gtr (h := ?_) | refine o_geq (h := ?_) | refine o_subS (h := ?_) | refine o_sub (h := ?_) | refine o_mulS (h := ?_) | refine o_mul (h := ?_) | refine o_quo (h := ?_) | refine o_fisnan (h := ?_) | refine o_fne (h := ?_) | refine o_feq (h := ?_) | refine o_flt (h := ?_) | refine o_fle (h := ?_) | refine o_fgt (h := ?_) | refine o_fge (h := ?_) | refine o_fadd (h := ?_) | refine o_fsub (h := ?_) | refine o_fmul (h := ?_) | refine o_fdiv (h := ?_) ) | (refine d_grd (h := ?_) ; first | refine g_yes (h := ?_) | refine g_no (h := ?_) | refine g_undef (h := ?_) | (refine g_true (h1 := (fun hg => ?_)) (h0 := (fun hg => ?_)) <;> (try rw [hg]) <;> (try simp only [decide_eq_true_eq, decide_eq_false_iff_not, Int.ofNat_inj, Bool.not_eq_true', Bool.not_eq_false', Int.not_lt, Int.not_le] at hg) <;> (try (exfalso; omega)) <;> (try (exact absurd hg (by decide)))) | (refine g_false (h1 := (fun hg => ?_)) (h0 := (fun hg => ?_)) <;> (try rw [hg]) <;> (try simp only [decide_eq_true_eq, decide_eq_false_iff_not, Int.ofNat_inj, Bool.not_eq_true', Bool.not_eq_false', Int.not_lt, Int.not_le] at hg) <;> (try (exfalso; omega)) <;> (try (exact absurd hg (by decide))))) | refine o_call (hc := (hB _)) (h := ?_) | refine o_load (h := ?_) | refine o_at (h := ?_) | refine o_field (h := ?_) | refine o_pick (h := ?_) | refine o_not (h := ?_) | refine o_ixS (h := ?_) | refine o_store (h := ?_) | refine o_alloc (h := ?_) | refine o_ix (h := ?_) | refine o_convS (h := ?_) | refine o_conv (h := ?_) | refine o_fconv (h := ?_) | refine o_fofInt (h := ?_) | refine o_fneg (h := ?_) | refine o_extract (h := ?_) ) | (refine d_AW (h := ?_) ; first | refine AW.seq (h := ?_) | refine AW.region (h := ?_) | (refine AW.cond (ht := (fun hc => ?_)) (hf := (fun hc => ?_)) <;> (try (with_reducible first | exact absurd hc Bool.false_ne_true | exact absurd hc.symm Bool.false_ne_true)) <;> (try simp only [decide_eq_true_eq, decide_eq_false_iff_not, Int.ofNat_inj, Bool.not_eq_true', Bool.not_eq_false', Int.not_lt, Int.not_le] at hc) <;> (try (exfalso; omega)) <;> (try (exact absurd hc (by decide)))) | refine AW.block (h := ?_) | refine AW.ret (h := ?_) | refine AW.skip (h := ?_) | refine AW.exit (h := ?_) ) | (first | refine t_normal ?_ | refine t_ret ?_ | refine t_exit ?_ | refine b_normal ?_ | refine b_exit ?_ | refine b_exit' (by decide) ?_ | refine b_ret ?_) | (refine d_post (h := ?_) ; first | refine p_ret1 rfl (h := ?_) | refine p_end1 rfl (h := ?_) | refine p_cell1 rfl (h := ?_) ))
    all_goals first | rfl | (simp at hc; done)
  · rw [decide_eq_false hbig] at hB
    obtain ⟨c, p, b, l, hdr, hR⟩ : ∃ c p b l, RdDr c p b l ∧ ∀ M, SlAt M a n (tab n fun q => .int .u8 (cd q)) → Pure Try.prog 8 [.slice a n cp] M (rdV c p b l) :=
      ⟨_, _, _, _, dw_drawn n cd (0, 0), fun M' h => sA2Road a n cp cd hcd (by omega) M' h⟩
    have hxx := pkV_bd (n := n) (cd := cd) (0, 0) (m := 33) (by omega)
    have hxy := pkV_bd (n := n') (cd := cd') (0, 0) (m := 33) (by omega)
    have hO := fun M' h => sA2Share a n cp cd hcd (by omega) M' h
    have hO2 := fun M' h => sA2Share a' n' cp' cd' hcd' (by omega) M' h
    have hA := fun M' h => la2At a' n' cp' cd' hcd' (by omega) 0 17 (by omega) M' h
    have hbz := a2V_bd (n := n') (cd := cd') (q := 0) (m := 17) (by omega)
    have hstB : stB p b (flowOf (mostF2 p b) (a2V n' cd' 0 17)) = true := by
      obtain ⟨k, hk, e⟩ := hdr.pace
      obtain ⟨k', hk', e'⟩ := hdr.back
      rw [e, e']
      exact st_dr hk hk' (by omega)
    generalize pkV n cd (0, 0) 33 = x at *
    generalize pkV n' cd' (0, 0) 33 = y at *
    generalize a2V n' cd' 0 17 = z at *
    have hx32 : 0 ≤ x ∧ x ≤ 32 := by omega
    have hy32 : 0 ≤ y ∧ y ≤ 32 := by omega
    obtain ⟨⟨f1, f2⟩, ⟨a1, a2⟩, ⟨b1, b2⟩, c1, c2, c3, c4, c5⟩ := st_facts hstB
    obtain ⟨sx1, sx2⟩ := sh32_fv hx32
    obtain ⟨sy1, sy2⟩ := sh32_fv hy32
    have hU := U_val
    have hpb := hdr.pb
    have hr := hdr.ok
    have hcr : CrOk c := fun q hq => hdr.car hq
    have ssx := nn_sh sx1 (by omega)
    have ssy := nn_sh sy1 (by omega)
    have w0 : fgt .f32 (flowOf (mostF2 p b) z) (mostF2 p b) = false := by
      rw [fgt_fv f1.1 (pb_most hpb).1.1]; exact decide_eq_false (by omega)
    have hfU : fv (flowOf (mostF2 p b) z) ≤ U := by
      have := (pb_most hpb).2.2.1
      have := hpb.p1
      omega
    have hrF : RdOk (fun _ => lowF p (flowOf (mostF2 p b) z)) p b l := cr_road hr (fun q _ => ⟨a1, a2⟩)
    obtain ⟨t1, t2, t3⟩ := thrice f1 hfU
    obtain ⟨i1, i2, i3⟩ := in_close hpb ⟨f1, f2⟩ ⟨a1, a2⟩ c2 c3 c4 (e := 0) (by omega) 3 (by omega)
    obtain ⟨o1, o2, o3⟩ := in_close hpb ⟨f1, f2⟩ ⟨a1, a2⟩ c2 c3 c4 (e := 16) (by omega) 3 (by omega)
    obtain ⟨r1, r2⟩ := it_close hpb ⟨f1, f2⟩ ⟨a1, a2⟩ c2 c3 c4 3
    have nI := near_of i1.1 t1.1 (by omega) (by omega)
    have nO := near_of o1.1 t1.1 (by omega) (by omega)
    have d3 : dK 3 ≤ 2 ^ 138 := dK_3
    have nS : ∀ q, q < 16 → fle .f32 (fsub .f32 (rdIt (fun _ => lowF p (flowOf (mostF2 p b) z)) p b (fun _ => flowOf (mostF2 p b) z) (fun _ => 1065353216) 3 q) (lowF p (flowOf (mostF2 p b) z))) 981668463 = true ∧ fle .f32 (fsub .f32 (lowF p (flowOf (mostF2 p b) z)) (rdIt (fun _ => lowF p (flowOf (mostF2 p b) z)) p b (fun _ => flowOf (mostF2 p b) z) (fun _ => 1065353216) 3 q)) 981668463 = true := fun q hq => by
      have := r2 q hq
      exact near_of (r1 q hq).1.1 a1.1 (by omega) (by omega)
    have hmost : ∀ M', Pure Try.prog 20 [rdV c p b l] M' _ := fun M' => iMostFlow hr M'
    have nW : fgt .f32 (fsub .f32 (highF b (flowOf (mostF2 p b) z)) (lowF p (flowOf (mostF2 p b) z))) 1040187392 = true → fle .f32 (fsub .f32 (wavF p b (lowF p (flowOf (mostF2 p b) z)) (highF b (flowOf (mostF2 p b) z))) 0) 981668463 = true ∧ fle .f32 (fsub .f32 0 (wavF p b (lowF p (flowOf (mostF2 p b) z)) (highF b (flowOf (mostF2 p b) z)))) 981668463 = true := fun h => by
      obtain ⟨g1, g2, g3, g4⟩ := c5 h
      exact near_of g1 nn_zero.1 (by rw [fv_zero]; omega) (by rw [fv_zero]; omega)
    have hne := sh_ne hx32 hy32
    have hne' := sh_ne hy32 hx32
    have wd := fun h : x ≠ y => wave_dr hdr hx32 hy32 h
    have hbn : fnan .f32 b = false := nn_nan hpb.bn
    exact wStillC a a' n n' cp cp' cd cd' M hm hm' hcd hcd' hS hS' (fgt .f32 (fsub .f32 (highF b (flowOf (mostF2 p b) z)) (lowF p (flowOf (mostF2 p b) z))) 1040187392) (feq .f32 (sh32 x) (sh32 y)) hB hR hA hO hO2 hmost told_div w0
      (fun M' => iStillShare hr (nn_am f1) w0 M') (fun M' => iJamShare hr (nn_am f1) w0 M') (fun M' => iFillRoad hr _ (nn_sh a1 a2) M') (fun M' => iStepRoads hrF _ 1065353216 3 (nn_am f1) (nn_am nn_one) M' (by omega))
      told_add (lo_hi ⟨a1, a2⟩ ⟨b1, b2⟩ c1) told_mul (fun M' => la2Near nI.1 nI.2 M') (fun M' => la2Near nO.1 nO.2 M') (fun q hq M' => la2Near (nS q hq).1 (nS q hq).2 M')
      told_sub rfl (fun h M' => iWaveSpeed hr (nn_sh a1 a2) (nn_sh b1 b2) (c5 h).2.2.2 (c5 h).1 M') (fun h M' => la2Near (nW h).1 (nW h).2 M') rfl
      (fun h M' => iWaveSame hr ssx ssy h M') (fun h M' => iWaveSame hr ssy ssx (by rw [hne'] ; rw [hne] at h; rw [decide_eq_true_iff] at h ⊢; exact h.symm) M')
      (fun h M' => iWaveSpeed hr ssx ssy h (wd (by rw [hne] at h; exact of_decide_eq_false h)).1 M') (fun h M' => iWaveSpeed hr ssy ssx (by rw [hne']; rw [hne] at h; exact decide_eq_false (Ne.symm (of_decide_eq_false h))) (wd (by rw [hne] at h; exact of_decide_eq_false h)).2.1 M')
      (fun h => (wd (by rw [hne] at h; exact of_decide_eq_false h)).2.2.1) told_add (fun h => (wd (by rw [hne] at h; exact of_decide_eq_false h)).2.2.2.1) told_sub (fun h => (wd (by rw [hne] at h; exact of_decide_eq_false h)).2.2.2.2.1) hbn
end Go.Proofs.Ytpffdjleonkdoaa
