/- A round of the reference's filling: stops. -/
import Derived.Test.YtjghdagcmombnaaHi
import Derived.Test.YtjghdagcmombnaaHj1
import Derived.Test.YtjghdagcmombnaaHj2
import Derived.Test.YtjghdagcmombnaaHj3

namespace Go.Proofs.Ytjghdagcmombnaa
open Go.RowKit
attribute [local irreducible] AW AOs AO AQ AQW thenA inBlockA postA ACalls Pure
set_option linter.unusedSimpArgs false
set_option linter.unusedVariables false
set_option linter.unusedSectionVars false

section
variable {n o : Int} {j0 j : Nat} {h s t : Nat → Nat} {S : FSt} {M : Mem} (hj : j < M.length) (hne : j ≠ j0) (hb : M[j0]? = some (jnB n o h))
include hj hne hb in
set_option maxHeartbeats 16000000 in
theorem sR7 {Q : Exit → St → Prop} {i k kk L : Nat} {I : List Value} {O r : Nat → Nat} (hk4 : k < 4) (hr : fgt .f32 (r k) 0 = true) (ho : feq .f32 (O k) L = true) (hi : i + kk = 4) (hi4 : i < 4) :
    AW Try.prog (roundOf Try.f44 7) (thenA (fun s2 => ∃ k', k' < kk ∧ ∃ i : Nat, i + k' = 4 ∧ keep [0, 2, 4, 5, 12, 13] s2 = ⟨281, [(0, .pointer (some ⟨j, 0, none⟩)), (2, .float .f32 L), (4, .pointer (some ⟨M.length + 1, 0, none⟩)), (5, .pointer (some ⟨M.length + 2, 0, none⟩)), (12, .int .i64 (k : Int)), (13, .int .i64 (i : Int))], M.set j (rfB j0 s t (stpS h S k i)) ++ [⟨I, none, true⟩, ⟨tab 4 fun q => Value.float .f32 (O q), none, true⟩, ⟨tab 4 fun q => Value.float .f32 (r q), none, true⟩]⟩) Q) ⟨281, [(0, .pointer (some ⟨j, 0, none⟩)), (2, .float .f32 L), (4, .pointer (some ⟨M.length + 1, 0, none⟩)), (5, .pointer (some ⟨M.length + 2, 0, none⟩)), (12, .int .i64 (k : Int)), (13, .int .i64 (i : Int))], M.set j (rfB j0 s t (stpS h S k i)) ++ [⟨I, none, true⟩, ⟨tab 4 fun q => Value.float .f32 (O q), none, true⟩, ⟨tab 4 fun q => Value.float .f32 (r q), none, true⟩]⟩ := by
  obtain ⟨J, hJ⟩ : ∃ J, J = tab 25 (rfV j0 s t (stpS h S k i)) := ⟨_, rfl⟩
  have eB : rfB j0 s t (stpS h S k i) = ⟨J, none, true⟩ := by rw [hJ]
  obtain ⟨Jn, hJn⟩ : ∃ Jn, Jn = tab 22 (jnJ n o h) := ⟨_, rfl⟩
  have hb2 : M[j0]? = some ⟨Jn, none, true⟩ := by rw [hJn]; exact hb
  have lr : ldA .one k (tab 4 fun q => Value.float .f32 (r q)) = some (.float .f32 (r k)) := ld_tab hk4 rfl
  have lo : ldA .one k (tab 4 fun q => Value.float .f32 (O q)) = some (.float .f32 (O k)) := ld_tab hk4 rfl
  have lp : ldA .one 0 J = some (.pointer (some ⟨j0, 0, none⟩)) := by rw [hJ]; exact rf_ptr
  have la : ldA .one (2 + i * 4 + k) Jn = some (.float .f32 (jA h i k)) := by rw [hJn]; exact jn_ldA hi4 hk4
  have eg : (stpS h S k i).g i = S.g i := by
    show (if decide (i < i) && _ then _ else _) = _
    rw [decide_eq_false (by omega)]; rfl
  have lg : ldA .one (17 + i) J = some (.bool (S.g i)) := by rw [hJ, ← eg]; exact fld_g rfl hi4 rfl
  clear eg
  generalize (tab 4 fun q => Value.float .f32 (r q)) = R at *
  generalize (tab 4 fun q => Value.float .f32 (O q)) = O1 at *
  generalize r k = rk at *
  generalize O k = ok at *
  cases hC : stpC h S k i
  · have eN : rfB j0 s t (stpS h S k (i + 1)) = ⟨J, none, true⟩ := by rw [← eB]; exact rfB_congr (stp_no h hC).symm
    rw [eB]
    clear hJ eB hJn hb
    unfold stpC at hC
    cases hg : S.g i
    · rw [hg] at lg
      unfold roundOf
      repeat' (first | (refine d_AOs (h := ?_) ; first | refine o_move (h := ?_) | refine o_assign (h := ?_) | refine AOs.nil (h := ?_) | (refine d_bin (h := ?_) ; first | refine o_feqC (h := ?_) | refine o_fgtC (h := ?_) | refine o_addS (h := ?_) | refine o_lss (h := ?_)) | (refine d_grd (h := ?_) ; first | refine g_yes (h := ?_) | refine g_no (h := ?_) | (refine g_true (h1 := (fun hg => ?_)) (h0 := (fun hg => ?_)) <;> (try rw [hg]) <;> (try simp only [decide_eq_true_eq, decide_eq_false_iff_not, Int.ofNat_inj, Bool.not_eq_true', Bool.not_eq_false', Int.not_lt, Int.not_le] at hg) <;> (try (exfalso; omega)) <;> (try (exact absurd hg (by decide))))) | refine o_load (hv := lr) (h := ?_) | refine o_load (hv := lo) (h := ?_) | refine o_load (hv := lg) (h := ?_) | refine o_at (h := ?_) | refine o_field (h := ?_) | refine o_nil (h := ?_) | refine o_pick (h := ?_)) | (refine d_AW (h := ?_) ; first | refine AW.seq (h := ?_) | refine AW.region (h := ?_) | (refine AW.cond (ht := (fun hc => ?_)) (hf := (fun hc => ?_)) <;> (try (with_reducible first | exact absurd hc Bool.false_ne_true | exact absurd hc.symm Bool.false_ne_true)) <;> (try simp only [decide_eq_true_eq, decide_eq_false_iff_not, Int.ofNat_inj, Bool.not_eq_true', Bool.not_eq_false', Int.not_lt, Int.not_le] at hc) <;> (try (exfalso; omega)) <;> (try (exact absurd hc (by decide)))) | refine AW.block (h := ?_) | refine AW.skip (h := ?_)) | (first | refine t_normal ?_ | refine b_normal ?_) | fail)
      all_goals first | exact ⟨kk - 1, by omega, i + 1, by omega, by rw [eN]; rfl⟩ | (exfalso; first | omega | (simp_all; done))
    · rw [hg, Bool.true_and] at hC
      rw [hg] at lg
      unfold roundOf
      repeat' (first | (refine d_AOs (h := ?_) ; first | refine o_move (h := ?_) | refine o_assign (h := ?_) | refine AOs.nil (h := ?_) | (refine d_bin (h := ?_) ; first | refine o_feqC (h := ?_) | refine o_fgtC (h := ?_) | refine o_addS (h := ?_) | refine o_lss (h := ?_)) | (refine d_grd (h := ?_) ; first | refine g_yes (h := ?_) | (refine g_true (h1 := (fun hg => ?_)) (h0 := (fun hg => ?_)) <;> (try rw [hg]) <;> (try simp only [decide_eq_true_eq, decide_eq_false_iff_not, Int.ofNat_inj, Bool.not_eq_true', Bool.not_eq_false', Int.not_lt, Int.not_le] at hg) <;> (try (exfalso; omega)) <;> (try (exact absurd hg (by decide))))) | refine o_load (hv := lr) (h := ?_) | refine o_load (hv := lo) (h := ?_) | refine o_load (hv := lg) (h := ?_) | refine o_load (hv := lp) (h := ?_) | refine o_load (hv := la) (h := ?_) | refine o_at (h := ?_) | refine o_field (h := ?_) | refine o_nil (h := ?_) | refine o_pick (h := ?_)) | (refine d_AW (h := ?_) ; first | refine AW.seq (h := ?_) | refine AW.region (h := ?_) | (refine AW.cond (ht := (fun hc => ?_)) (hf := (fun hc => ?_)) <;> (try (with_reducible first | exact absurd hc Bool.false_ne_true | exact absurd hc.symm Bool.false_ne_true)) <;> (try simp only [decide_eq_true_eq, decide_eq_false_iff_not, Int.ofNat_inj, Bool.not_eq_true', Bool.not_eq_false', Int.not_lt, Int.not_le] at hc) <;> (try (exfalso; omega)) <;> (try (exact absurd hc (by decide)))) | refine AW.block (h := ?_) | refine AW.skip (h := ?_)) | (first | refine t_normal ?_ | refine b_normal ?_) | fail)
      all_goals first | exact ⟨kk - 1, by omega, i + 1, by omega, by rw [eN]; rfl⟩ | (exfalso; first | omega | (simp_all; done))
  · obtain ⟨J3, hJ3⟩ : ∃ J3, J3 = tab 25 (rfV j0 s t { stpS h S k i with g := upd (stpS h S k i).g i false, b := upd (stpS h S k i).b i (k : Int) }) := ⟨_, rfl⟩
    have eN : rfB j0 s t (stpS h S k (i + 1)) = ⟨J3, none, true⟩ := by rw [hJ3]; exact (rfB_congr (stp_yes h hC)).symm
    obtain ⟨J1, J2, ⟨o1, o2, o3, o4⟩, ⟨s1, s2, s3, s4⟩, _⟩ := two_gb (d := 1) rfl hi4 false (k : Int) hJ hJ3 (x1 := 17 + i) (x2 := 21 + i) (x3 := 1 + i) rfl rfl rfl
    unfold stpC at hC
    rw [Bool.and_eq_true] at hC
    obtain ⟨hg, hA⟩ := hC
    rw [hg] at lg
    rw [eB]
    clear hJ hJ3 eB hJn hb
    unfold roundOf
    repeat' (first | (refine d_AOs (h := ?_) ; first | refine o_move (h := ?_) | refine o_assign (h := ?_) | refine AOs.nil (h := ?_) | (refine d_bin (h := ?_) ; first | refine o_feqC (h := ?_) | refine o_fgtC (h := ?_) | refine o_addS (h := ?_) | refine o_lss (h := ?_)) | (refine d_grd (h := ?_) ; first | refine g_yes (h := ?_) | (refine g_true (h1 := (fun hg => ?_)) (h0 := (fun hg => ?_)) <;> (try rw [hg]) <;> (try simp only [decide_eq_true_eq, decide_eq_false_iff_not, Int.ofNat_inj, Bool.not_eq_true', Bool.not_eq_false', Int.not_lt, Int.not_le] at hg) <;> (try (exfalso; omega)) <;> (try (exact absurd hg (by decide))))) | refine o_load (hv := lr) (h := ?_) | refine o_load (hv := lo) (h := ?_) | refine o_load (hv := lg) (h := ?_) | refine o_load (hv := lp) (h := ?_) | refine o_load (hv := la) (h := ?_) | refine o_store (ho := by exact o1) (hcs := by exact s1) (h := ?_) | refine o_store (ho := by exact o3) (hcs := by exact s3) (h := ?_) | refine o_at (h := ?_) | refine o_field (h := ?_) | refine o_nil (h := ?_) | refine o_pick (h := ?_)) | (refine d_AW (h := ?_) ; first | refine AW.seq (h := ?_) | refine AW.region (h := ?_) | (refine AW.cond (ht := (fun hc => ?_)) (hf := (fun hc => ?_)) <;> (try (with_reducible first | exact absurd hc Bool.false_ne_true | exact absurd hc.symm Bool.false_ne_true)) <;> (try simp only [decide_eq_true_eq, decide_eq_false_iff_not, Int.ofNat_inj, Bool.not_eq_true', Bool.not_eq_false', Int.not_lt, Int.not_le] at hc) <;> (try (exfalso; omega)) <;> (try (exact absurd hc (by decide)))) | refine AW.block (h := ?_) | refine AW.skip (h := ?_)) | (first | refine t_normal ?_ | refine b_normal ?_) | fail)
    all_goals first | exact ⟨kk - 1, by omega, i + 1, by omega, by rw [eN]; rfl⟩ | (exfalso; first | omega | (simp_all; done))
include hj hne hb in
set_option maxHeartbeats 16000000 in
theorem sR6 {Q : Exit → St → Prop} {k kk L : Nat} {I : List Value} {S0 : FSt} {r : Nat → Nat} (hk : k + kk = 4) (hk4 : k < 4) :
    AW Try.prog (roundOf Try.f44 6) (thenA (fun s2 => ∃ k', k' < kk ∧ ∃ k : Nat, k + k' = 4 ∧ keep [0, 2, 4, 5, 12] s2 = ⟨281, [(0, .pointer (some ⟨j, 0, none⟩)), (2, .float .f32 L), (4, .pointer (some ⟨M.length + 1, 0, none⟩)), (5, .pointer (some ⟨M.length + 2, 0, none⟩)), (12, .int .i64 (k : Int))], M.set j (rfB j0 s t (stR h t L r S0 S k)) ++ [⟨I, none, true⟩, ⟨tab 4 fun q => Value.float .f32 (outsR t r S0 q), none, true⟩, ⟨tab 4 fun q => Value.float .f32 (r q), none, true⟩]⟩) Q) ⟨281, [(0, .pointer (some ⟨j, 0, none⟩)), (2, .float .f32 L), (4, .pointer (some ⟨M.length + 1, 0, none⟩)), (5, .pointer (some ⟨M.length + 2, 0, none⟩)), (12, .int .i64 (k : Int))], M.set j (rfB j0 s t (stR h t L r S0 S k)) ++ [⟨I, none, true⟩, ⟨tab 4 fun q => Value.float .f32 (outsR t r S0 q), none, true⟩, ⟨tab 4 fun q => Value.float .f32 (r q), none, true⟩]⟩ := by
  have lr : ldA .one k (tab 4 fun q => Value.float .f32 (r q)) = some (.float .f32 (r k)) := ld_tab hk4 rfl
  have lo : ldA .one k (tab 4 fun q => Value.float .f32 (outsR t r S0 q)) = some (.float .f32 (outsR t r S0 k)) := ld_tab hk4 rfl
  cases hC : hitR t L r S0 k
  · have eN : rfB j0 s t (stR h t L r S0 S (k + 1)) = rfB j0 s t (stR h t L r S0 S k) := by show rfB _ _ _ (if _ then _ else _) = _; rw [hC]; rfl
    rw [← rfB_congr (stp_0 h (stR h t L r S0 S k) k)]
    unfold hitR at hC
    generalize hB : rfB j0 s t (stR h t L r S0 S k) = B0 at *
    have eB : rfB j0 s t (stpS h (stR h t L r S0 S k) k 0) = B0 := by rw [← hB]; exact rfB_congr (stp_0 h _ k)
    rw [eB]
    clear hB eB hb
    generalize (tab 4 fun q => Value.float .f32 (r q)) = R at *
    generalize (tab 4 fun q => Value.float .f32 (outsR t r S0 q)) = O1 at *
    cases hr : fgt .f32 (r k) 0
    · generalize r k = rk at *
      generalize outsR t r S0 k = ok at *
      unfold roundOf
      repeat' (first | (refine d_AOs (h := ?_) ; first | refine o_move (h := ?_) | refine o_assign (h := ?_) | refine AOs.nil (h := ?_) | (refine d_bin (h := ?_) ; first | refine o_lss (h := ?_))) | (refine d_AW (h := ?_) ; first | refine AW.seq (h := ?_) | refine AW.region (h := ?_) | (refine AW.cond (ht := (fun hc => ?_)) (hf := (fun hc => ?_)) <;> (try (with_reducible first | exact absurd hc Bool.false_ne_true | exact absurd hc.symm Bool.false_ne_true)) <;> (try simp only [decide_eq_true_eq, decide_eq_false_iff_not, Int.ofNat_inj, Bool.not_eq_true', Bool.not_eq_false', Int.not_lt, Int.not_le] at hc) <;> (try (exfalso; omega)) <;> (try (exact absurd hc (by decide)))) | refine AW.block (h := ?_) | refine AW.skip (h := ?_)) | (first | refine t_normal ?_) | fail)
      refine AW.loopN [0, 2, 4, 5, 12, 13] (fun k2 st => k2 = 0 ∧ st = ⟨281, [(0, .pointer (some ⟨j, 0, none⟩)), (2, .float .f32 L), (4, .pointer (some ⟨M.length + 1, 0, none⟩)), (5, .pointer (some ⟨M.length + 2, 0, none⟩)), (12, .int .i64 (k : Int)), (13, .int .i64 0)], M.set j B0 ++ [⟨I, none, true⟩, ⟨O1, none, true⟩, ⟨R, none, true⟩]⟩) 0 ⟨rfl, rfl⟩ ?_
      rintro k2 st ⟨rfl, rfl⟩
      repeat' (first | (refine d_AOs (h := ?_) ; first | refine o_move (h := ?_) | refine o_assign (h := ?_) | refine AOs.nil (h := ?_) | (refine d_bin (h := ?_) ; first | refine o_fgtC (h := ?_) | refine o_addS (h := ?_) | refine o_lss (h := ?_)) | (refine d_grd (h := ?_) ; first | refine g_yes (h := ?_) | refine g_no (h := ?_)) | refine o_load (hv := lr) (h := ?_) | refine o_at (h := ?_) | refine o_pick (h := ?_)) | (refine d_AW (h := ?_) ; first | refine AW.seq (h := ?_) | refine AW.region (h := ?_) | (refine AW.cond (ht := (fun hc => ?_)) (hf := (fun hc => ?_)) <;> (try (with_reducible first | exact absurd hc Bool.false_ne_true | exact absurd hc.symm Bool.false_ne_true)) <;> (try simp only [decide_eq_true_eq, decide_eq_false_iff_not, Int.ofNat_inj, Bool.not_eq_true', Bool.not_eq_false', Int.not_lt, Int.not_le] at hc) <;> (try (exfalso; omega)) <;> (try (exact absurd hc (by decide)))) | refine AW.exit (h := ?_)) | (first | refine t_normal ?_ | refine t_exit ?_ | refine b_normal ?_ | refine b_exit ?_) | fail)
      all_goals first | exact ⟨kk - 1, by omega, k + 1, by omega, by rw [eN]; rfl⟩ | (exfalso; first | omega | (simp_all; done))
    · rw [hr, Bool.true_and] at hC
      generalize r k = rk at *
      generalize outsR t r S0 k = ok at *
      unfold roundOf
      repeat' (first | (refine d_AOs (h := ?_) ; first | refine o_move (h := ?_) | refine o_assign (h := ?_) | refine AOs.nil (h := ?_) | (refine d_bin (h := ?_) ; first | refine o_lss (h := ?_))) | (refine d_AW (h := ?_) ; first | refine AW.seq (h := ?_) | refine AW.region (h := ?_) | (refine AW.cond (ht := (fun hc => ?_)) (hf := (fun hc => ?_)) <;> (try (with_reducible first | exact absurd hc Bool.false_ne_true | exact absurd hc.symm Bool.false_ne_true)) <;> (try simp only [decide_eq_true_eq, decide_eq_false_iff_not, Int.ofNat_inj, Bool.not_eq_true', Bool.not_eq_false', Int.not_lt, Int.not_le] at hc) <;> (try (exfalso; omega)) <;> (try (exact absurd hc (by decide)))) | refine AW.block (h := ?_) | refine AW.skip (h := ?_)) | (first | refine t_normal ?_) | fail)
      refine AW.loopN [0, 2, 4, 5, 12, 13] (fun k2 st => k2 = 0 ∧ st = ⟨281, [(0, .pointer (some ⟨j, 0, none⟩)), (2, .float .f32 L), (4, .pointer (some ⟨M.length + 1, 0, none⟩)), (5, .pointer (some ⟨M.length + 2, 0, none⟩)), (12, .int .i64 (k : Int)), (13, .int .i64 0)], M.set j B0 ++ [⟨I, none, true⟩, ⟨O1, none, true⟩, ⟨R, none, true⟩]⟩) 0 ⟨rfl, rfl⟩ ?_
      rintro k2 st ⟨rfl, rfl⟩
      repeat' (first | (refine d_AOs (h := ?_) ; first | refine o_move (h := ?_) | refine o_assign (h := ?_) | refine AOs.nil (h := ?_) | (refine d_bin (h := ?_) ; first | refine o_feqC (h := ?_) | refine o_fgtC (h := ?_) | refine o_addS (h := ?_) | refine o_lss (h := ?_)) | (refine d_grd (h := ?_) ; first | refine g_yes (h := ?_)) | refine o_load (hv := lr) (h := ?_) | refine o_load (hv := lo) (h := ?_) | refine o_at (h := ?_) | refine o_pick (h := ?_)) | (refine d_AW (h := ?_) ; first | refine AW.seq (h := ?_) | refine AW.region (h := ?_) | (refine AW.cond (ht := (fun hc => ?_)) (hf := (fun hc => ?_)) <;> (try (with_reducible first | exact absurd hc Bool.false_ne_true | exact absurd hc.symm Bool.false_ne_true)) <;> (try simp only [decide_eq_true_eq, decide_eq_false_iff_not, Int.ofNat_inj, Bool.not_eq_true', Bool.not_eq_false', Int.not_lt, Int.not_le] at hc) <;> (try (exfalso; omega)) <;> (try (exact absurd hc (by decide)))) | refine AW.exit (h := ?_)) | (first | refine t_normal ?_ | refine t_exit ?_ | refine b_normal ?_ | refine b_exit ?_) | fail)
      all_goals first | exact ⟨kk - 1, by omega, k + 1, by omega, by rw [eN]; rfl⟩ | (exfalso; first | omega | (simp_all; done))
  · have eN : rfB j0 s t (stR h t L r S0 S (k + 1)) = rfB j0 s t (stpS h (stR h t L r S0 S k) k 4) := by show rfB _ _ _ (if _ then _ else _) = _; rw [hC]; rfl
    have e0 : rfB j0 s t (stR h t L r S0 S k) = rfB j0 s t (stpS h (stR h t L r S0 S k) k 0) := (rfB_congr (stp_0 h _ k)).symm
    unfold hitR at hC
    rw [Bool.and_eq_true] at hC
    obtain ⟨hr, hq⟩ := hC
    rw [e0]
    clear e0
    generalize stR h t L r S0 S k = S1 at *
    unfold roundOf
    repeat' (first | (refine d_AOs (h := ?_) ; first | refine o_move (h := ?_) | refine o_assign (h := ?_) | refine AOs.nil (h := ?_) | (refine d_bin (h := ?_) ; first | refine o_lss (h := ?_))) | (refine d_AW (h := ?_) ; first | refine AW.seq (h := ?_) | refine AW.region (h := ?_) | (refine AW.cond (ht := (fun hc => ?_)) (hf := (fun hc => ?_)) <;> (try (with_reducible first | exact absurd hc Bool.false_ne_true | exact absurd hc.symm Bool.false_ne_true)) <;> (try simp only [decide_eq_true_eq, decide_eq_false_iff_not, Int.ofNat_inj, Bool.not_eq_true', Bool.not_eq_false', Int.not_lt, Int.not_le] at hc) <;> (try (exfalso; omega)) <;> (try (exact absurd hc (by decide)))) | refine AW.block (h := ?_) | refine AW.skip (h := ?_)) | (first | refine t_normal ?_) | fail)
    refine AW.loopN [0, 2, 4, 5, 12, 13] (fun k2 st => ∃ i : Nat, i + k2 = 4 ∧ st = ⟨281, [(0, .pointer (some ⟨j, 0, none⟩)), (2, .float .f32 L), (4, .pointer (some ⟨M.length + 1, 0, none⟩)), (5, .pointer (some ⟨M.length + 2, 0, none⟩)), (12, .int .i64 (k : Int)), (13, .int .i64 (i : Int))], M.set j (rfB j0 s t (stpS h S1 k i)) ++ [⟨I, none, true⟩, ⟨tab 4 fun q => Value.float .f32 (outsR t r S0 q), none, true⟩, ⟨tab 4 fun q => Value.float .f32 (r q), none, true⟩]⟩) 4 ⟨0, by omega, rfl⟩ ?_
    rintro k2 st ⟨i, hi, rfl⟩
    by_cases hi4 : i < 4
    · exact sR7 hj hne hb hk4 hr hq hi hi4
    · obtain rfl : i = 4 := by omega
      generalize rfB j0 s t (stpS h S1 k 4) = B4 at *
      clear hb
      repeat' (first | (refine d_AOs (h := ?_) ; first | refine o_move (h := ?_) | refine o_assign (h := ?_) | refine AOs.nil (h := ?_) | (refine d_bin (h := ?_) ; first | refine o_addS (h := ?_) | refine o_lss (h := ?_)) | (refine d_grd (h := ?_) ; first | refine g_no (h := ?_)) | refine o_pick (h := ?_)) | (refine d_AW (h := ?_) ; first | refine AW.seq (h := ?_) | refine AW.region (h := ?_) | (refine AW.cond (ht := (fun hc => ?_)) (hf := (fun hc => ?_)) <;> (try (with_reducible first | exact absurd hc Bool.false_ne_true | exact absurd hc.symm Bool.false_ne_true)) <;> (try simp only [decide_eq_true_eq, decide_eq_false_iff_not, Int.ofNat_inj, Bool.not_eq_true', Bool.not_eq_false', Int.not_lt, Int.not_le] at hc) <;> (try (exfalso; omega)) <;> (try (exact absurd hc (by decide)))) | refine AW.exit (h := ?_)) | (first | refine t_normal ?_ | refine t_exit ?_ | refine b_normal ?_ | refine b_exit ?_) | fail)
      all_goals first | exact ⟨kk - 1, by omega, k + 1, by omega, by rw [eN]; rfl⟩ | (exfalso; first | omega | (simp_all; done))
end
end Go.Proofs.Ytjghdagcmombnaa

/- A round of the reference's filling, whole. -/
namespace Go.Proofs.Ytjghdagcmombnaa
open Go.RowKit
attribute [local irreducible] AW AOs AO AQ AQW thenA inBlockA postA ACalls Pure
set_option linter.unusedSimpArgs false
set_option linter.unusedVariables false
set_option linter.unusedSectionVars false

section
variable {n o : Int} {j0 j : Nat} {h s t : Nat → Nat} {S : FSt} {M : Mem} (hj : j < M.length) (hne : j ≠ j0) (hb : M[j0]? = some (jnB n o h))
theorem rfB_z {S1 S2 : FSt} (h0 : feqS S1 S2) : rfB j0 s t S1 = rfB j0 s t S2 := rfB_congr h0
theorem flR_0 {L : Nat} : feqS (flR h L S 0) S := fun q _ => ⟨by unfold flR; simp, rfl, rfl, rfl⟩
theorem enR_0 {L : Nat} {S0 : FSt} : feqS (enR h s L S0 S 0) S := fun q _ => ⟨by unfold enR; simp, rfl, by unfold enR; simp, rfl⟩
theorem tabz {f : Nat → Nat} : (tab 4 fun q => Value.float .f32 (if q < 0 then f q else 0)) = tab 4 fun _ => .float .f32 0 := tab_congr fun q _ => by rw [if_neg (by omega)]
include hj hne hb in
set_option maxHeartbeats 16000000 in
theorem sround : Mut Try.prog 44 [.pointer (some ⟨j, 0, none⟩)] (M.set j (rfB j0 s t S)) (.tuple #[]) (M.set j (rfB j0 s t (rndR h s t S))) := by
  refine mut_of Try.func44 Try.ntmps44 rfl rfl (by simp) (by repeat' (first | exact flat_nil | refine flat_tuple ?_ | fail)) (fun hM => by have := hM.setB (b := j) (B := rfB j0 s t (rndR h s t S)) (rf_bel (by rw [List.length_set]; exact (List.getElem?_eq_some_iff.1 hb).1)); rwa [List.set_set] at this) ?_
  have zI : (tab 4 fun q => Value.float .f32 (if q < 0 then insF h s S q else 0)) = tab 4 fun _ => .float .f32 0 := tabz
  have zR : (tab 4 fun q => Value.float .f32 (rrR h S q 0)) = tab 4 fun _ => .float .f32 0 := rfl
  simp only [envOf, Nat.zero_add, Nat.reduceAdd]
  repeat' (first | (refine d_AOs (h := ?_) ; first | refine o_assign (h := ?_) | refine AOs.nil (h := ?_) | refine o_build (cs := tab 4 fun _ => .float .f32 0) (hf := by rfl) (h := ?_) | refine o_store (h := ?_) | refine o_alloc (h := ?_)) | (refine d_AW (h := ?_) ; first | refine AW.seq (h := ?_) | refine AW.region (h := ?_) | refine AW.block (h := ?_)) | (first | refine t_normal ?_) | fail)
  refine AW.loopN [0, 2, 3, 4, 5, 6] (fun kk st => ∃ i : Nat, i + kk = 4 ∧ st = ⟨281, [(0, .pointer (some ⟨j, 0, none⟩)), (2, .float .f32 (lsR h s S i)), (3, .pointer (some ⟨M.length, 0, none⟩)), (4, .pointer (some ⟨M.length + 1, 0, none⟩)), (5, .pointer (some ⟨M.length + 2, 0, none⟩)), (6, .int .i64 (i : Int))], M.set j (rfB j0 s t S) ++ [⟨tab 4 fun q => Value.float .f32 (if q < i then insF h s S q else 0), none, true⟩, ⟨tab 4 fun _ => Value.float .f32 0, none, true⟩, ⟨tab 4 fun q => Value.float .f32 (rrR h S q i), none, true⟩]⟩) 4 ⟨0, by omega, by rw [zI, zR]; rfl⟩ ?_
  rintro kk st ⟨i, hi, rfl⟩
  by_cases hi4 : i < 4
  · exact sR0 hj hne hb hi hi4
  obtain rfl : i = 4 := by omega
  rw [full_tab]
  have zO : (tab 4 fun q => Value.float .f32 (if q < 0 then outsR t (rtR h S) S q else 0)) = tab 4 fun _ => .float .f32 0 := tabz
  have e4 : (tab 4 fun q => Value.float .f32 (rrR h S q 4)) = tab 4 fun q => .float .f32 (rtR h S q) := rfl
  rw [e4, ← zO]
  clear hi hi4 zO e4 zI zR
  show AW _ _ _ ⟨_, [_, (2, .float .f32 (lsRO t (rtR h S) S (lsR h s S 4) 0)), _, _, _, _], _⟩
  repeat' (first | (refine d_AOs (h := ?_) ; first | refine o_move (h := ?_) | refine o_assign (h := ?_) | refine AOs.nil (h := ?_) | (refine d_bin (h := ?_) ; first | refine o_lss (h := ?_))) | (refine d_AW (h := ?_) ; first | refine AW.seq (h := ?_) | refine AW.region (h := ?_) | (refine AW.cond (ht := (fun hc => ?_)) (hf := (fun hc => ?_)) <;> (try (with_reducible first | exact absurd hc Bool.false_ne_true | exact absurd hc.symm Bool.false_ne_true)) <;> (try simp only [decide_eq_true_eq, decide_eq_false_iff_not, Int.ofNat_inj, Bool.not_eq_true', Bool.not_eq_false', Int.not_lt, Int.not_le] at hc) <;> (try (exfalso; omega)) <;> (try (exact absurd hc (by decide)))) | refine AW.block (h := ?_) | refine AW.exit (h := ?_)) | (first | refine t_normal ?_ | refine t_exit ?_ | refine b_exit ?_) | fail)
  refine AW.loopN [0, 2, 3, 4, 5, 8] (fun kk st => ∃ k : Nat, k + kk = 4 ∧ st = ⟨281, [(0, .pointer (some ⟨j, 0, none⟩)), (2, .float .f32 (lsRO t (rtR h S) S (lsR h s S 4) k)), (3, .pointer (some ⟨M.length, 0, none⟩)), (4, .pointer (some ⟨M.length + 1, 0, none⟩)), (5, .pointer (some ⟨M.length + 2, 0, none⟩)), (8, .int .i64 (k : Int))], M.set j (rfB j0 s t S) ++ [⟨tab 4 fun q => Value.float .f32 (insF h s S q), none, true⟩, ⟨tab 4 fun q => Value.float .f32 (if q < k then outsR t (rtR h S) S q else 0), none, true⟩, ⟨tab 4 fun q => Value.float .f32 (rtR h S q), none, true⟩]⟩) 4 ⟨0, by omega, rfl⟩ ?_
  rintro kk st ⟨k, hi, rfl⟩
  by_cases hi4 : k < 4
  · exact sR2 hj hi hi4
  obtain rfl : k = 4 := by omega
  have eL : lsRO t (rtR h S) S (lsR h s S 4) 4 = lstR h s t S := rfl
  rw [full_tab, eL]
  unfold rndR
  generalize lstR h s t S = L at *
  generalize rtR h S = r at *
  clear hi hi4 eL
  have e0 : rfB j0 s t (flR h L S 0) = rfB j0 s t S := rfB_z flR_0
  rw [← e0]
  clear e0
  generalize hI : (tab 4 fun q => Value.float .f32 (insF h s S q)) = I at *
  generalize hO : (tab 4 fun q => Value.float .f32 (outsR t r S q)) = O at *
  generalize hR : (tab 4 fun q => Value.float .f32 (r q)) = R at *
  repeat' (first | (refine d_AOs (h := ?_) ; first | refine o_move (h := ?_) | refine o_assign (h := ?_) | refine AOs.nil (h := ?_) | (refine d_bin (h := ?_) ; first | refine o_lss (h := ?_))) | (refine d_AW (h := ?_) ; first | refine AW.seq (h := ?_) | refine AW.region (h := ?_) | (refine AW.cond (ht := (fun hc => ?_)) (hf := (fun hc => ?_)) <;> (try (with_reducible first | exact absurd hc Bool.false_ne_true | exact absurd hc.symm Bool.false_ne_true)) <;> (try simp only [decide_eq_true_eq, decide_eq_false_iff_not, Int.ofNat_inj, Bool.not_eq_true', Bool.not_eq_false', Int.not_lt, Int.not_le] at hc) <;> (try (exfalso; omega)) <;> (try (exact absurd hc (by decide)))) | refine AW.block (h := ?_) | refine AW.exit (h := ?_)) | (first | refine t_normal ?_ | refine t_exit ?_ | refine b_exit ?_) | fail)
  subst hI hO hR
  refine AW.loopN [0, 2, 3, 4, 5, 9] (fun kk st => ∃ i : Nat, i + kk = 4 ∧ st = ⟨281, [(0, .pointer (some ⟨j, 0, none⟩)), (2, .float .f32 L), (3, .pointer (some ⟨M.length, 0, none⟩)), (4, .pointer (some ⟨M.length + 1, 0, none⟩)), (5, .pointer (some ⟨M.length + 2, 0, none⟩)), (9, .int .i64 (i : Int))], M.set j (rfB j0 s t (flR h L S i)) ++ [⟨tab 4 fun q => Value.float .f32 (insF h s S q), none, true⟩, ⟨tab 4 fun q => Value.float .f32 (outsR t r S q), none, true⟩, ⟨tab 4 fun q => Value.float .f32 (r q), none, true⟩]⟩) 4 ⟨0, by omega, rfl⟩ ?_
  rintro kk st ⟨i, hi, rfl⟩
  by_cases hi4 : i < 4
  · exact sR3 hj hne hb hi hi4
  obtain rfl : i = 4 := by omega
  generalize flR h L S 4 = S3 at *
  clear hi hi4
  generalize hI : (tab 4 fun q => Value.float .f32 (insF h s S q)) = I at *
  generalize hO : (tab 4 fun q => Value.float .f32 (outsR t r S q)) = O at *
  generalize hR : (tab 4 fun q => Value.float .f32 (r q)) = R at *
  repeat' (first | (refine d_AOs (h := ?_) ; first | refine o_move (h := ?_) | refine o_assign (h := ?_) | refine AOs.nil (h := ?_) | (refine d_bin (h := ?_) ; first | refine o_lss (h := ?_))) | (refine d_AW (h := ?_) ; first | refine AW.seq (h := ?_) | refine AW.region (h := ?_) | (refine AW.cond (ht := (fun hc => ?_)) (hf := (fun hc => ?_)) <;> (try (with_reducible first | exact absurd hc Bool.false_ne_true | exact absurd hc.symm Bool.false_ne_true)) <;> (try simp only [decide_eq_true_eq, decide_eq_false_iff_not, Int.ofNat_inj, Bool.not_eq_true', Bool.not_eq_false', Int.not_lt, Int.not_le] at hc) <;> (try (exfalso; omega)) <;> (try (exact absurd hc (by decide)))) | refine AW.block (h := ?_) | refine AW.exit (h := ?_)) | (first | refine t_normal ?_ | refine t_exit ?_ | refine b_exit ?_) | fail)
  subst hI hO hR
  refine AW.loopN [0, 2, 3, 4, 5, 10] (fun kk st => ∃ k : Nat, k + kk = 4 ∧ st = ⟨281, [(0, .pointer (some ⟨j, 0, none⟩)), (2, .float .f32 L), (3, .pointer (some ⟨M.length, 0, none⟩)), (4, .pointer (some ⟨M.length + 1, 0, none⟩)), (5, .pointer (some ⟨M.length + 2, 0, none⟩)), (10, .int .i64 (k : Int))], M.set j (rfB j0 s t (cmR L r S3 k)) ++ [⟨tab 4 fun q => Value.float .f32 (insF h s S q), none, true⟩, ⟨tab 4 fun q => Value.float .f32 (outsR t r S q), none, true⟩, ⟨tab 4 fun q => Value.float .f32 (r q), none, true⟩]⟩) 4 ⟨0, by omega, rfl⟩ ?_
  rintro kk st ⟨k, hi, rfl⟩
  by_cases hi4 : k < 4
  · exact sR4 hj hi hi4
  obtain rfl : k = 4 := by omega
  generalize cmR L r S3 4 = S4 at *
  clear hi hi4
  have e0 : rfB j0 s t (enR h s L S S4 0) = rfB j0 s t S4 := rfB_z enR_0
  rw [← e0]
  clear e0
  generalize hI : (tab 4 fun q => Value.float .f32 (insF h s S q)) = I at *
  generalize hO : (tab 4 fun q => Value.float .f32 (outsR t r S q)) = O at *
  generalize hR : (tab 4 fun q => Value.float .f32 (r q)) = R at *
  repeat' (first | (refine d_AOs (h := ?_) ; first | refine o_move (h := ?_) | refine o_assign (h := ?_) | refine AOs.nil (h := ?_) | (refine d_bin (h := ?_) ; first | refine o_lss (h := ?_))) | (refine d_AW (h := ?_) ; first | refine AW.seq (h := ?_) | refine AW.region (h := ?_) | (refine AW.cond (ht := (fun hc => ?_)) (hf := (fun hc => ?_)) <;> (try (with_reducible first | exact absurd hc Bool.false_ne_true | exact absurd hc.symm Bool.false_ne_true)) <;> (try simp only [decide_eq_true_eq, decide_eq_false_iff_not, Int.ofNat_inj, Bool.not_eq_true', Bool.not_eq_false', Int.not_lt, Int.not_le] at hc) <;> (try (exfalso; omega)) <;> (try (exact absurd hc (by decide)))) | refine AW.block (h := ?_) | refine AW.exit (h := ?_)) | (first | refine t_normal ?_ | refine t_exit ?_ | refine b_exit ?_) | fail)
  subst hI hO hR
  refine AW.loopN [0, 2, 3, 4, 5, 11] (fun kk st => ∃ i : Nat, i + kk = 4 ∧ st = ⟨281, [(0, .pointer (some ⟨j, 0, none⟩)), (2, .float .f32 L), (3, .pointer (some ⟨M.length, 0, none⟩)), (4, .pointer (some ⟨M.length + 1, 0, none⟩)), (5, .pointer (some ⟨M.length + 2, 0, none⟩)), (11, .int .i64 (i : Int))], M.set j (rfB j0 s t (enR h s L S S4 i)) ++ [⟨tab 4 fun q => Value.float .f32 (insF h s S q), none, true⟩, ⟨tab 4 fun q => Value.float .f32 (outsR t r S q), none, true⟩, ⟨tab 4 fun q => Value.float .f32 (r q), none, true⟩]⟩) 4 ⟨0, by omega, rfl⟩ ?_
  rintro kk st ⟨i, hi, rfl⟩
  by_cases hi4 : i < 4
  · exact sR5 hj hi hi4
  obtain rfl : i = 4 := by omega
  generalize enR h s L S S4 4 = S5 at *
  clear hi hi4
  generalize hI : (tab 4 fun q => Value.float .f32 (insF h s S q)) = I at *
  generalize hO : (tab 4 fun q => Value.float .f32 (outsR t r S q)) = O at *
  generalize hR : (tab 4 fun q => Value.float .f32 (r q)) = R at *
  repeat' (first | (refine d_AOs (h := ?_) ; first | refine o_move (h := ?_) | refine o_assign (h := ?_) | refine AOs.nil (h := ?_) | (refine d_bin (h := ?_) ; first | refine o_lss (h := ?_))) | (refine d_AW (h := ?_) ; first | refine AW.seq (h := ?_) | refine AW.region (h := ?_) | (refine AW.cond (ht := (fun hc => ?_)) (hf := (fun hc => ?_)) <;> (try (with_reducible first | exact absurd hc Bool.false_ne_true | exact absurd hc.symm Bool.false_ne_true)) <;> (try simp only [decide_eq_true_eq, decide_eq_false_iff_not, Int.ofNat_inj, Bool.not_eq_true', Bool.not_eq_false', Int.not_lt, Int.not_le] at hc) <;> (try (exfalso; omega)) <;> (try (exact absurd hc (by decide)))) | refine AW.block (h := ?_) | refine AW.exit (h := ?_)) | (first | refine t_normal ?_ | refine t_exit ?_ | refine b_exit ?_) | fail)
  subst hI hO hR
  refine AW.loopN [0, 2, 4, 5, 12] (fun kk st => ∃ k : Nat, k + kk = 4 ∧ st = ⟨281, [(0, .pointer (some ⟨j, 0, none⟩)), (2, .float .f32 L), (4, .pointer (some ⟨M.length + 1, 0, none⟩)), (5, .pointer (some ⟨M.length + 2, 0, none⟩)), (12, .int .i64 (k : Int))], M.set j (rfB j0 s t (stR h t L r S S5 k)) ++ [⟨tab 4 fun q => Value.float .f32 (insF h s S q), none, true⟩, ⟨tab 4 fun q => Value.float .f32 (outsR t r S q), none, true⟩, ⟨tab 4 fun q => Value.float .f32 (r q), none, true⟩]⟩) 4 ⟨0, by omega, rfl⟩ ?_
  rintro kk st ⟨k, hi, rfl⟩
  by_cases hi4 : k < 4
  · exact sR6 hj hne hb hi hi4
  obtain rfl : k = 4 := by omega
  repeat' (first | (refine d_AOs (h := ?_) ; first | refine o_move (h := ?_) | refine AOs.nil (h := ?_) | (refine d_bin (h := ?_) ; first | refine o_lss (h := ?_))) | (refine d_AW (h := ?_) ; first | refine AW.seq (h := ?_) | refine AW.region (h := ?_) | (refine AW.cond (ht := (fun hc => ?_)) (hf := (fun hc => ?_)) <;> (try (with_reducible first | exact absurd hc Bool.false_ne_true | exact absurd hc.symm Bool.false_ne_true)) <;> (try simp only [decide_eq_true_eq, decide_eq_false_iff_not, Int.ofNat_inj, Bool.not_eq_true', Bool.not_eq_false', Int.not_lt, Int.not_le] at hc) <;> (try (exfalso; omega)) <;> (try (exact absurd hc (by decide)))) | refine AW.exit (h := ?_)) | (first | refine t_normal ?_ | refine t_exit ?_ | refine b_exit ?_) | fail)
  exact fp_none rfl ⟨_, rfl⟩
end
end Go.Proofs.Ytjghdagcmombnaa
