/- The law of fillings, whole. -/
import Derived.Test.YtjghdagcmombnaaHw0
import Derived.Test.YtjghdagcmombnaaHw2

namespace Go.Proofs.Ytjghdagcmombnaa
open Go.RowKit
attribute [local irreducible] AW AOs AO AQ AQW thenA inBlockA postA ACalls Pure
set_option linter.unusedSimpArgs false
set_option linter.unusedVariables false
set_option linter.unusedSectionVars false

theorem wf_by {x : Int} (h : -1 ≤ x ∧ x < 4) : (Lit.int .i64 x).wf = true := by
  obtain rfl | rfl | rfl | rfl | rfl : x = -1 ∨ x = 0 ∨ x = 1 ∨ x = 2 ∨ x = 3 := by omega
  all_goals decide
theorem flV_congr {f g : Nat → Nat} (h : ∀ q, q < 16 → f q = g q) : flV f = flV g := by
  unfold flV
  rw [tab_congr (n := 16) (f := fun q => Value.float .f32 (f q)) (g := fun q => .float .f32 (g q)) fun q hq => by rw [h q hq]]
theorem byV_congr {f g : Nat → Int} (h : ∀ q, q < 4 → f q = g q) : byV f = byV g := by
  unfold byV
  rw [tab_congr (n := 4) (f := fun q => Value.int .i64 (f q)) (g := fun q => .int .i64 (g q)) fun q hq => by rw [h q hq]]
set_option maxHeartbeats 8000000 in
theorem wFilled (a a' : Option Addr) (n n' cp cp' : Nat) (cd cd' : Nat → Int) (M : Mem) (hm : n ≤ 9223372036854775807) (hm' : n' ≤ 9223372036854775807) (hcd : ∀ q, 0 ≤ cd q ∧ cd q ≤ 255) (hcd' : ∀ q, 0 ≤ cd' q ∧ cd' q ≤ 255)
    (hS : SlAt M a n (tab n fun q => .int .u8 (cd q))) (hS' : SlAt M a' n' (tab n' fun q => .int .u8 (cd' q))) :
    Pure Try.prog 3 [.slice a n cp, .slice a' n' cp'] M (.bool true) := by
  have hB1 := fun M' => lf6big a n cp M' hm
  have hB2 := fun M' => lf6big a' n' cp' M' hm'
  by_cases hbig : (4096 : Int) < n
  · rw [decide_eq_true hbig] at hB1
    refine pure_of Try.func3 Try.ntmps3 rfl rfl (by repeat' (first | exact Flat.bool _ | exact Flat.int _ _ | exact Flat.float _ _ | exact Flat.string _ | exact flat_nil | exact flat_tabL (fun _ => Flat.bool _) | exact flat_tabL (fun _ => Flat.int _ _) | exact flat_tabL (fun _ => Flat.float _ _) | refine flat_tuple ?_ | refine flat_agg ?_ | refine flat_cons ?_ ?_ | refine flat_append ?_ ?_)) ?_
    simp only [envOf, Nat.zero_add, Nat.reduceAdd]
    repeat' (first | (refine d_AOs (h := ?_) ; first | refine o_move (h := ?_) | refine o_assign (h := ?_) | refine AOs.nil (h := ?_) | (refine d_bin (h := ?_) ; first | refine o_addS (h := ?_) | refine o_add (h := ?_) | refine o_lss (h := ?_) | refine o_neB (h := ?_) | refine o_nei (h := ?_) | refine o_gtr (h := ?_) | refine o_geq (h := ?_) | refine o_subS (h := ?_) | refine o_sub (h := ?_) | refine o_fisnan (h := ?_) | refine o_fne (h := ?_) | refine o_flt (h := ?_) | refine o_fgt (h := ?_) | refine o_fge (h := ?_) | refine o_fadd (h := ?_) | refine o_fsub (h := ?_) ) | (refine d_grd (h := ?_) ; first | refine g_yes (h := ?_) | refine g_no (h := ?_) | refine g_undef (h := ?_) | (refine g_true (h1 := (fun hg => ?_)) (h0 := (fun hg => ?_)) <;> (try rw [hg]) <;> (try simp only [decide_eq_true_eq, decide_eq_false_iff_not, Int.ofNat_inj, Bool.not_eq_true', Bool.not_eq_false', Int.not_lt, Int.not_le] at hg) <;> (try (exfalso; omega)) <;> (try (exact absurd hg (by decide)))) | (refine g_false (h1 := (fun hg => ?_)) (h0 := (fun hg => ?_)) <;> (try rw [hg]) <;> (try simp only [decide_eq_true_eq, decide_eq_false_iff_not, Int.ofNat_inj, Bool.not_eq_true', Bool.not_eq_false', Int.not_lt, Int.not_le] at hg) <;> (try (exfalso; omega)) <;> (try (exact absurd hg (by decide))))) | refine o_call (hc := (hB1 _)) (h := ?_) | refine o_load (h := ?_) | refine o_at (h := ?_) | refine o_field (h := ?_) | refine o_pick (h := ?_) | refine o_not (h := ?_) | refine o_ixS (h := ?_) | refine o_buildS0 (h := ?_) | refine o_buildS (h := ?_) | refine o_app (h := ?_) | refine o_appN (h := ?_) | refine o_app0 (h := ?_) | refine o_store (h := ?_) | refine o_alloc (h := ?_) | refine o_ix (h := ?_) | refine o_extract (h := ?_) | refine o_build (h := ?_) ) | (refine d_AW (h := ?_) ; first | refine AW.seq (h := ?_) | refine AW.region (h := ?_) | refine AW.open5 (h1 := ?_) (h2 := ?_) (h3 := ?_) | refine AW.open_ (h := ?_) | (refine AW.cond (ht := (fun hc => ?_)) (hf := (fun hc => ?_)) <;> (try (with_reducible first | exact absurd hc Bool.false_ne_true | exact absurd hc.symm Bool.false_ne_true)) <;> (try simp only [decide_eq_true_eq, decide_eq_false_iff_not, Int.ofNat_inj, Bool.not_eq_true', Bool.not_eq_false', Int.not_lt, Int.not_le] at hc) <;> (try (exfalso; omega)) <;> (try (exact absurd hc (by decide)))) | refine AW.block (h := ?_) | refine AW.ret (h := ?_) | refine AW.skip (h := ?_) | refine AW.exit (h := ?_) ) | (first | refine t_normal ?_ | refine t_ret ?_ | refine t_exit ?_ | refine b_normal ?_ | refine b_exit ?_ | refine b_exit' (by decide) ?_ | refine b_ret ?_) | (refine d_AQ (h := ?_) ; first | refine q_nil (h := ?_) | refine q_switchB (h2 := ?_) | refine q_step (h2 := ?_) | refine q_yes (h2 := ?_) | refine q_no (h2 := ?_) | refine q_undef (h2 := ?_) | (refine q_true (h2 := (fun hg => ?_)) (h0 := (fun hg => ?_)) <;> (try rw [hg]) <;> (try simp only [decide_eq_true_eq, decide_eq_false_iff_not, Int.ofNat_inj, Bool.not_eq_true', Bool.not_eq_false', Int.not_lt, Int.not_le] at hg) <;> (try (exfalso; omega)) <;> (try (exact absurd hg (by decide)))) | (refine q_false (h2 := (fun hg => ?_)) (h0 := (fun hg => ?_)) <;> (try rw [hg]) <;> (try simp only [decide_eq_true_eq, decide_eq_false_iff_not, Int.ofNat_inj, Bool.not_eq_true', Bool.not_eq_false', Int.not_lt, Int.not_le] at hg) <;> (try (exfalso; omega)) <;> (try (exact absurd hg (by decide)))) | refine q_step (h1 := by (refine d_AOs ?_; first | refine o_call (hc := (hB1 _)) (h := ?_)) <;> exact AOs.nil rfl) (h2 := ?_) | refine q_yes (h1 := by (refine d_AOs ?_; first | refine o_call (hc := (hB1 _)) (h := ?_)) <;> exact AOs.nil rfl) (h2 := ?_) | (refine q_true (h1 := fun hg => by (refine d_AOs ?_; first | refine o_call (hc := (hB1 _)) (h := ?_)) <;> exact AOs.nil rfl) (h2 := (fun hg => ?_)) (h0 := (fun hg => ?_)) <;> (try rw [hg]) <;> (try simp only [decide_eq_true_eq, decide_eq_false_iff_not, Int.ofNat_inj, Bool.not_eq_true', Bool.not_eq_false', Int.not_lt, Int.not_le] at hg) <;> (try (exfalso; omega)) <;> (try (exact absurd hg (by decide)))) | (refine q_false (h1 := fun hg => by (refine d_AOs ?_; first | refine o_call (hc := (hB1 _)) (h := ?_)) <;> exact AOs.nil rfl) (h2 := (fun hg => ?_)) (h0 := (fun hg => ?_)) <;> (try rw [hg]) <;> (try simp only [decide_eq_true_eq, decide_eq_false_iff_not, Int.ofNat_inj, Bool.not_eq_true', Bool.not_eq_false', Int.not_lt, Int.not_le] at hg) <;> (try (exfalso; omega)) <;> (try (exact absurd hg (by decide)))) | refine q_switch (h2 := ?_)) | (refine d_post (h := ?_) ; first | refine p_ret1 rfl (h := ?_) | refine p_end1 rfl (h := ?_) | refine p_cell1 rfl (h := ?_) ))
    all_goals first | rfl | (simp at hc; done)
  rw [decide_eq_false hbig] at hB1
  by_cases hbig2 : (4096 : Int) < n'
  · rw [decide_eq_true hbig2] at hB2
    refine pure_of Try.func3 Try.ntmps3 rfl rfl (by repeat' (first | exact Flat.bool _ | exact Flat.int _ _ | exact Flat.float _ _ | exact Flat.string _ | exact flat_nil | exact flat_tabL (fun _ => Flat.bool _) | exact flat_tabL (fun _ => Flat.int _ _) | exact flat_tabL (fun _ => Flat.float _ _) | refine flat_tuple ?_ | refine flat_agg ?_ | refine flat_cons ?_ ?_ | refine flat_append ?_ ?_)) ?_
    simp only [envOf, Nat.zero_add, Nat.reduceAdd]
    repeat' (first | (refine d_AOs (h := ?_) ; first | refine o_move (h := ?_) | refine o_assign (h := ?_) | refine AOs.nil (h := ?_) | (refine d_bin (h := ?_) ; first | refine o_addS (h := ?_) | refine o_add (h := ?_) | refine o_lss (h := ?_) | refine o_neB (h := ?_) | refine o_nei (h := ?_) | refine o_gtr (h := ?_) | refine o_geq (h := ?_) | refine o_subS (h := ?_) | refine o_sub (h := ?_) | refine o_fisnan (h := ?_) | refine o_fne (h := ?_) | refine o_flt (h := ?_) | refine o_fgt (h := ?_) | refine o_fge (h := ?_) | refine o_fadd (h := ?_) | refine o_fsub (h := ?_) ) | (refine d_grd (h := ?_) ; first | refine g_yes (h := ?_) | refine g_no (h := ?_) | refine g_undef (h := ?_) | (refine g_true (h1 := (fun hg => ?_)) (h0 := (fun hg => ?_)) <;> (try rw [hg]) <;> (try simp only [decide_eq_true_eq, decide_eq_false_iff_not, Int.ofNat_inj, Bool.not_eq_true', Bool.not_eq_false', Int.not_lt, Int.not_le] at hg) <;> (try (exfalso; omega)) <;> (try (exact absurd hg (by decide)))) | (refine g_false (h1 := (fun hg => ?_)) (h0 := (fun hg => ?_)) <;> (try rw [hg]) <;> (try simp only [decide_eq_true_eq, decide_eq_false_iff_not, Int.ofNat_inj, Bool.not_eq_true', Bool.not_eq_false', Int.not_lt, Int.not_le] at hg) <;> (try (exfalso; omega)) <;> (try (exact absurd hg (by decide))))) | refine o_call (hc := (hB1 _)) (h := ?_) | refine o_call (hc := (hB2 _)) (h := ?_) | refine o_load (h := ?_) | refine o_at (h := ?_) | refine o_field (h := ?_) | refine o_pick (h := ?_) | refine o_not (h := ?_) | refine o_ixS (h := ?_) | refine o_buildS0 (h := ?_) | refine o_buildS (h := ?_) | refine o_app (h := ?_) | refine o_appN (h := ?_) | refine o_app0 (h := ?_) | refine o_store (h := ?_) | refine o_alloc (h := ?_) | refine o_ix (h := ?_) | refine o_extract (h := ?_) | refine o_build (h := ?_) ) | (refine d_AW (h := ?_) ; first | refine AW.seq (h := ?_) | refine AW.region (h := ?_) | refine AW.open5 (h1 := ?_) (h2 := ?_) (h3 := ?_) | refine AW.open_ (h := ?_) | (refine AW.cond (ht := (fun hc => ?_)) (hf := (fun hc => ?_)) <;> (try (with_reducible first | exact absurd hc Bool.false_ne_true | exact absurd hc.symm Bool.false_ne_true)) <;> (try simp only [decide_eq_true_eq, decide_eq_false_iff_not, Int.ofNat_inj, Bool.not_eq_true', Bool.not_eq_false', Int.not_lt, Int.not_le] at hc) <;> (try (exfalso; omega)) <;> (try (exact absurd hc (by decide)))) | refine AW.block (h := ?_) | refine AW.ret (h := ?_) | refine AW.skip (h := ?_) | refine AW.exit (h := ?_) ) | (first | refine t_normal ?_ | refine t_ret ?_ | refine t_exit ?_ | refine b_normal ?_ | refine b_exit ?_ | refine b_exit' (by decide) ?_ | refine b_ret ?_) | (refine d_AQ (h := ?_) ; first | refine q_nil (h := ?_) | refine q_switchB (h2 := ?_) | refine q_step (h2 := ?_) | refine q_yes (h2 := ?_) | refine q_no (h2 := ?_) | refine q_undef (h2 := ?_) | (refine q_true (h2 := (fun hg => ?_)) (h0 := (fun hg => ?_)) <;> (try rw [hg]) <;> (try simp only [decide_eq_true_eq, decide_eq_false_iff_not, Int.ofNat_inj, Bool.not_eq_true', Bool.not_eq_false', Int.not_lt, Int.not_le] at hg) <;> (try (exfalso; omega)) <;> (try (exact absurd hg (by decide)))) | (refine q_false (h2 := (fun hg => ?_)) (h0 := (fun hg => ?_)) <;> (try rw [hg]) <;> (try simp only [decide_eq_true_eq, decide_eq_false_iff_not, Int.ofNat_inj, Bool.not_eq_true', Bool.not_eq_false', Int.not_lt, Int.not_le] at hg) <;> (try (exfalso; omega)) <;> (try (exact absurd hg (by decide)))) | refine q_step (h1 := by (refine d_AOs ?_; first | refine o_call (hc := (hB1 _)) (h := ?_) | refine o_call (hc := (hB2 _)) (h := ?_)) <;> exact AOs.nil rfl) (h2 := ?_) | refine q_yes (h1 := by (refine d_AOs ?_; first | refine o_call (hc := (hB1 _)) (h := ?_) | refine o_call (hc := (hB2 _)) (h := ?_)) <;> exact AOs.nil rfl) (h2 := ?_) | (refine q_true (h1 := fun hg => by (refine d_AOs ?_; first | refine o_call (hc := (hB1 _)) (h := ?_) | refine o_call (hc := (hB2 _)) (h := ?_)) <;> exact AOs.nil rfl) (h2 := (fun hg => ?_)) (h0 := (fun hg => ?_)) <;> (try rw [hg]) <;> (try simp only [decide_eq_true_eq, decide_eq_false_iff_not, Int.ofNat_inj, Bool.not_eq_true', Bool.not_eq_false', Int.not_lt, Int.not_le] at hg) <;> (try (exfalso; omega)) <;> (try (exact absurd hg (by decide)))) | (refine q_false (h1 := fun hg => by (refine d_AOs ?_; first | refine o_call (hc := (hB1 _)) (h := ?_) | refine o_call (hc := (hB2 _)) (h := ?_)) <;> exact AOs.nil rfl) (h2 := (fun hg => ?_)) (h0 := (fun hg => ?_)) <;> (try rw [hg]) <;> (try simp only [decide_eq_true_eq, decide_eq_false_iff_not, Int.ofNat_inj, Bool.not_eq_true', Bool.not_eq_false', Int.not_lt, Int.not_le] at hg) <;> (try (exfalso; omega)) <;> (try (exact absurd hg (by decide)))) | refine q_switch (h2 := ?_)) | (refine d_post (h := ?_) ; first | refine p_ret1 rfl (h := ?_) | refine p_end1 rfl (h := ?_) | refine p_cell1 rfl (h := ?_) ))
    all_goals first | rfl | (simp at hc; done)
  rw [decide_eq_false hbig2] at hB2
  obtain ⟨N, O, h, W, hd, hJ⟩ : ∃ (N O : Nat) (h : Nat → Nat) (W : Nat → Nat → Int), JnDr N O h W ∧ ∀ M, SlAt M a n (tab n fun q => .int .u8 (cd q)) → Pure Try.prog 5 [.slice a n cp] M (jnV (N : Int) (O : Int) h) := by
    obtain ⟨W, hW⟩ := jnDr_of n cd (0, 0)
    exact ⟨_, _, _, W, hW, fun M' h => sP6Junction a n cp cd hcd (by omega) M' h⟩
  have hn1 := hd.hn
  have ho1 := hd.ho
  have hP := dr_valid hd
  obtain ⟨s, V, hs, hF⟩ : ∃ (s : Nat → Nat) (V : Nat → Int), SnDr N s V ∧ ∀ M, SlAt M a' n' (tab n' fun q => .int .u8 (cd' q)) → Pure Try.prog 6 [.slice a' n' cp', .int .i64 (N : Int)] M (foV s) := by
    obtain ⟨V, hV⟩ := snDr_p6 n' cd' N
    exact ⟨_, V, hV, fun M' h => sP6FourM a' n' cp' cd' hcd' (by omega) N hn1.2 M' h⟩
  obtain ⟨t, T, ht, hT⟩ : ∃ (t : Nat → Nat) (T : Nat → Int), SnDr O t T ∧ ∀ c cp M, SlAt M c (1 + n') (tab (1 + n') fun q => .int .u8 (cdJ 3 cd' q)) → Pure Try.prog 6 [.slice c (1 + n') cp, .int .i64 (O : Int)] M (foV t) := by
    obtain ⟨V, hV⟩ := snDr_p6 (1 + n') (cdJ 3 cd') O
    exact ⟨_, V, hV, fun c cp M' h => sP6FourM c (1 + n') cp (cdJ 3 cd') (cdJ_bd (by omega) hcd') (by omega) O ho1.2 M' h⟩
  have hsk := sn_ok hs
  have htk := sn_ok ht
  have hok := fil_law hd hs ht
  have hsame := fil_same hd hs ht
  have hI := fun M' => iFlowsOf hP hn1 ho1 hsk htk hok.fin M'
  have hIs := fun M' => sFlowsOf (n := N) (o := O) (h := h) (s := s) (t := t) ho1.2 (by rw [hsame]; exact hok.fin) hP hn1 ho1 hsk htk M'
  have hSt := fun M' => iStoppedBy hP hn1 ho1 hsk htk M'
  have hSs := fun M' => sStoppedBy (n := N) (o := O) (h := h) (s := s) (t := t) ho1.2 hP hn1 ho1 hsk htk M'
  rw [hsame] at hIs hSs
  have hL := fun M' => iLeftBehind hP hn1 ho1 hsk htk hok.fin hok.lfin M'
  have hIn := fun M' => iInFlows (wnF (filI h s t).f h) M'
  have hOut := fun M' => iOutFlows (wnF (filI h s t).f h) M'
  have hwn := fil_wn hd hs
  have hwf := fun q (hq : q < 16) => wn_fin hd hs hq
  have hIw := fun M' => iFlowsOf hP hn1 ho1 hsk (wd_sn ho1.2) (fun q hq => by rw [hwn q hq]; exact hwf q hq) M'
  rw [flV_congr hwn] at hIw
  have hSw := fun M' => iStoppedBy hP hn1 ho1 hsk (wd_sn ho1.2) M'
  rw [byV_congr (g := fun _ => -1) fun q hq => (fil_all hd hs q hq).1] at hSw
  have hW := fun M' => sWantsOf hP hn1 hsk hwf M'
  have hgn : ∀ q, q < 4 * 4 → fnan .f32 (wnF (filI h s t).f h q) = false := fun q hq => fin_nan (hok.fin q hq)
  have hbw : ∀ i, i < 4 → (Lit.int .i64 ((filI h s t).b i)).wf = true := fun i hi => wf_by (hok.by_ i hi)
  have hnr : ∀ q, q < 16 → ∀ M, Pure Try.prog 14 [.float .f32 (wnF s h q), .float .f32 (wnF s h q), .float .f32 953267991] M (.bool true) := fun q hq M' =>
    (fun (r : _ ∧ _) => lf6 r.1 r.2 M') (same_near (x := wnF s h q) (z := 953267991) (hwf q hq) ⟨eps_fv.1, eps_fv.2.1⟩)
  by_cases hz : n' = 0
  · exact wFil0 a a' n n' cp cp' cd cd' M (by omega) (by omega) hS hS' hn1 ho1 hB1 hB2 hJ hF hT hI hIs hSt hSs hL hIn hOut hIw hSw hW hgn hbw (fun _ _ => wf_by (by omega)) hnr hok.rows hok.cols (fun i hi M' => lf6 (hok.left i hi).1 (hok.left i hi).2 M') (fun i hi hb M' => lf6 (hok.free i hi hb).1 (hok.free i hi hb).2 M')
      (fun i hi hb => by
        obtain ⟨k, k1, k2, k3, k4, k5⟩ := hok.stop i hi hb
        exact ⟨k, k1, k2, k3, fun M' => lf6 k4 k5 M'⟩) hz
  · exact wFil1 a a' n n' cp cp' cd cd' M (by omega) (by omega) hS hS' hn1 ho1 hB1 hB2 hJ hF hT hI hIs hSt hSs hL hIn hOut hIw hSw hW hgn hbw (fun _ _ => wf_by (by omega)) hnr hok.rows hok.cols (fun i hi M' => lf6 (hok.left i hi).1 (hok.left i hi).2 M') (fun i hi hb M' => lf6 (hok.free i hi hb).1 (hok.free i hi hb).2 M')
      (fun i hi hb => by
        obtain ⟨k, k1, k2, k3, k4, k5⟩ := hok.stop i hi hb
        exact ⟨k, k1, k2, k3, fun M' => lf6 k4 k5 M'⟩) (by omega)
end Go.Proofs.Ytjghdagcmombnaa
