/- A round of the reference's filling: what flows and comes, and which ways are at their end. -/
import Derived.Test.YtjghdagcmombnaaHi

namespace Go.Proofs.Ytjghdagcmombnaa
open Go.RowKit
attribute [local irreducible] AW AOs AO AQ AQW thenA inBlockA postA ACalls Pure
set_option linter.unusedSimpArgs false
set_option linter.unusedVariables false
set_option linter.unusedSectionVars false

section
variable {n o : Int} {j0 j : Nat} {h s t : Nat → Nat} {S : FSt} {M : Mem} (hj : j < M.length) (hne : j ≠ j0) (hb : M[j0]? = some (jnB n o h))
theorem flR_no {L i : Nat} (hg : S.g i = false) : feqS (flR h L S (i + 1)) (flR h L S i) := fun q _ => by
  refine ⟨?_, rfl, rfl, rfl⟩
  show (if _ then _ else _) = if _ then _ else _
  by_cases e : q = i
  · subst e; rw [hg]; simp
  · rw [show decide (q < i + 1) = decide (q < i) from decide_eq_decide.2 (by omega)]
theorem flR_go {L i : Nat} (hg : S.g i = true) : feqS { flR h L S i with f := upd (flR h L S i).f i (fadd .f32 (S.f i) (fmul .f32 (h (18 + i)) L)) } (flR h L S (i + 1)) := fun q _ => by
  refine ⟨?_, rfl, rfl, rfl⟩
  show upd _ i _ q = if _ then _ else _
  by_cases e : q = i
  · subst e; rw [upd_eq, hg]; simp
  · rw [upd_ne e]
    show (if _ then _ else _) = if _ then _ else _
    rw [show decide (q < i + 1) = decide (q < i) from decide_eq_decide.2 (by omega)]
theorem flR_f {L i : Nat} : (flR h L S i).f i = S.f i := by
  show (if decide (i < i) && _ then _ else _) = _
  rw [decide_eq_false (by omega)]; rfl
theorem enR_no {L i : Nat} {S0 : FSt} (hc : (S.g i && feq .f32 (insF h s S0 i) L) = false) : feqS (enR h s L S0 S (i + 1)) (enR h s L S0 S i) := fun q _ => by
  refine ⟨?_, rfl, ?_, rfl⟩
  all_goals show (if _ then _ else _) = if _ then _ else _
  all_goals by_cases e : q = i
  all_goals first | (subst e; rw [hc]; simp; done) | (rw [show decide (q < i + 1) = decide (q < i) from decide_eq_decide.2 (by omega)])
theorem enR_go {L i : Nat} {S0 : FSt} (hc : (S.g i && feq .f32 (insF h s S0 i) L) = true) : feqS { enR h s L S0 S i with g := upd (enR h s L S0 S i).g i false, f := upd (enR h s L S0 S i).f i (s i) } (enR h s L S0 S (i + 1)) := fun q _ => by
  refine ⟨?_, rfl, ?_, rfl⟩
  · show upd _ i _ q = if _ then _ else _
    by_cases e : q = i
    · subst e; rw [upd_eq, hc]; simp
    · rw [upd_ne e]
      show (if _ then _ else _) = if _ then _ else _
      rw [show decide (q < i + 1) = decide (q < i) from decide_eq_decide.2 (by omega)]
  · show upd _ i _ q = if _ then _ else _
    by_cases e : q = i
    · subst e; rw [upd_eq, hc]; simp
    · rw [upd_ne e]
      show (if _ then _ else _) = if _ then _ else _
      rw [show decide (q < i + 1) = decide (q < i) from decide_eq_decide.2 (by omega)]
theorem enR_g {L i : Nat} {S0 : FSt} : (enR h s L S0 S i).g i = S.g i := by
  show (if decide (i < i) && _ then _ else _) = _
  rw [decide_eq_false (by omega)]; rfl
include hj hne hb in
set_option maxHeartbeats 16000000 in
theorem sR3 {Q : Exit → St → Prop} {i kk L : Nat} {I O R : List Value} (hi : i + kk = 4) (hi4 : i < 4) :
    AW Try.prog (roundOf Try.f44 3) (thenA (fun s2 => ∃ k', k' < kk ∧ ∃ i : Nat, i + k' = 4 ∧ keep [0, 2, 3, 4, 5, 9] s2 = ⟨281, [(0, .pointer (some ⟨j, 0, none⟩)), (2, .float .f32 L), (3, .pointer (some ⟨M.length, 0, none⟩)), (4, .pointer (some ⟨M.length + 1, 0, none⟩)), (5, .pointer (some ⟨M.length + 2, 0, none⟩)), (9, .int .i64 (i : Int))], M.set j (rfB j0 s t (flR h L S i)) ++ [⟨I, none, true⟩, ⟨O, none, true⟩, ⟨R, none, true⟩]⟩) Q) ⟨281, [(0, .pointer (some ⟨j, 0, none⟩)), (2, .float .f32 L), (3, .pointer (some ⟨M.length, 0, none⟩)), (4, .pointer (some ⟨M.length + 1, 0, none⟩)), (5, .pointer (some ⟨M.length + 2, 0, none⟩)), (9, .int .i64 (i : Int))], M.set j (rfB j0 s t (flR h L S i)) ++ [⟨I, none, true⟩, ⟨O, none, true⟩, ⟨R, none, true⟩]⟩ := by
  obtain ⟨J, hJ⟩ : ∃ J, J = tab 25 (rfV j0 s t (flR h L S i)) := ⟨_, rfl⟩
  have eB : rfB j0 s t (flR h L S i) = ⟨J, none, true⟩ := by rw [hJ]
  obtain ⟨Jn, hJn⟩ : ∃ Jn, Jn = tab 22 (jnJ n o h) := ⟨_, rfl⟩
  have hb2 : M[j0]? = some ⟨Jn, none, true⟩ := by rw [hJn]; exact hb
  have lg : ldA .one (17 + i) J = some (.bool (S.g i)) := by rw [hJ]; exact fld_g rfl hi4 rfl
  cases hC : S.g i
  · have eN : rfB j0 s t (flR h L S (i + 1)) = ⟨J, none, true⟩ := by rw [← eB]; exact rfB_congr (flR_no hC)
    rw [hC] at lg
    rw [eB]
    clear hJ eB hJn hb
    unfold roundOf
    repeat' (first | (refine d_AOs (h := ?_) ; first | refine o_move (h := ?_) | refine o_assign (h := ?_) | refine AOs.nil (h := ?_) | (refine d_bin (h := ?_) ; first | refine o_addS (h := ?_) | refine o_lss (h := ?_)) | refine o_load (hv := lg) (h := ?_) | refine o_at (h := ?_) | refine o_field (h := ?_) | refine o_nil (h := ?_)) | (refine d_AW (h := ?_) ; first | refine AW.seq (h := ?_) | refine AW.region (h := ?_) | (refine AW.cond (ht := (fun hc => ?_)) (hf := (fun hc => ?_)) <;> (try (with_reducible first | exact absurd hc Bool.false_ne_true | exact absurd hc.symm Bool.false_ne_true)) <;> (try simp only [decide_eq_true_eq, decide_eq_false_iff_not, Int.ofNat_inj, Bool.not_eq_true', Bool.not_eq_false', Int.not_lt, Int.not_le] at hc) <;> (try (exfalso; omega)) <;> (try (exact absurd hc (by decide)))) | refine AW.block (h := ?_) | refine AW.skip (h := ?_)) | (first | refine t_normal ?_ | refine b_normal ?_) | fail)
    all_goals first | exact ⟨kk - 1, by omega, i + 1, by omega, by rw [eN]; rfl⟩ | (exfalso; first | omega | (simp_all; done))
  · obtain ⟨w, hw⟩ : ∃ w, fadd .f32 (S.f i) (fmul .f32 (h (18 + i)) L) = w := ⟨_, rfl⟩
    have hgo := flR_go (h := h) (L := L) hC
    rw [hw] at hgo
    obtain ⟨J', hJ'⟩ : ∃ J', J' = tab 25 (rfV j0 s t { flR h L S i with f := upd (flR h L S i).f i w }) := ⟨_, rfl⟩
    have eN : rfB j0 s t (flR h L S (i + 1)) = ⟨J', none, true⟩ := by rw [hJ']; exact (rfB_congr hgo).symm
    have lp : ldA .one 0 J = some (.pointer (some ⟨j0, 0, none⟩)) := by rw [hJ]; exact rf_ptr
    have lf : ldA .one (9 + i) J = some (.float .f32 (S.f i)) := by rw [hJ, ← flR_f (h := h) (L := L)]; exact fld_f rfl hi4 rfl
    have lq : ldA .one (18 + i) Jn = some (.float .f32 (h (18 + i))) := by rw [hJn]; exact jn_get (by omega) (by omega)
    have o1 : 9 + i + 1 ≤ J.length := by rw [hJ, rf_len]; omega
    have s1 : J.take (9 + i) ++ cellsA (.float .f32 w) ++ J.drop (9 + i + (cellsA (.float .f32 w)).length) = J' := by rw [hJ, hJ']; exact fst_f rfl hi4 rfl
    rw [hC] at lg
    rw [eB]
    clear hJ eB hJ' hJn hb hgo
    unfold roundOf
    repeat' (first | (refine d_AOs (h := ?_) ; first | refine o_move (h := ?_) | refine o_assign (h := ?_) | refine AOs.nil (h := ?_) | (refine d_bin (h := ?_) ; first | refine o_addS (h := ?_) | refine o_lss (h := ?_)) | refine o_load (hv := lg) (h := ?_) | refine o_at (h := ?_) | refine o_field (h := ?_) | refine o_nil (h := ?_)) | (refine d_AW (h := ?_) ; first | refine AW.seq (h := ?_) | refine AW.region (h := ?_) | refine AW.openW1M (M.set j ⟨J, none, true⟩ ++ [⟨I, none, true⟩, ⟨O, none, true⟩, ⟨R, none, true⟩]) 23 (M.set j ⟨J', none, true⟩ ++ [⟨I, none, true⟩, ⟨O, none, true⟩, ⟨R, none, true⟩]) (h := ?_) | (refine AW.cond (ht := (fun hc => ?_)) (hf := (fun hc => ?_)) <;> (try (with_reducible first | exact absurd hc Bool.false_ne_true | exact absurd hc.symm Bool.false_ne_true)) <;> (try simp only [decide_eq_true_eq, decide_eq_false_iff_not, Int.ofNat_inj, Bool.not_eq_true', Bool.not_eq_false', Int.not_lt, Int.not_le] at hc) <;> (try (exfalso; omega)) <;> (try (exact absurd hc (by decide)))) | refine AW.block (h := ?_) | refine AW.skip (h := ?_)) | (first | refine t_normal ?_ | refine b_normal ?_) | (refine d_W (h := ?_) ; first | refine w1_step (h1 := by (simp only [ObK, aft, cond_true, cond_false]; repeat' (first | refine And.intro ?_ ?_ | ((refine d_AOs ?_; first| (refine d_bin (h := ?_) ; first | refine o_faddH (he := hw) (h := ?_) )) <;> exact AOs.nil rfl)))) (h2 := ?_) | refine w1_stepN (h1 := by (simp only [ObK, aft, cond_true, cond_false]; repeat' (first | refine And.intro ?_ ?_ | ((refine d_AOs ?_; first | refine o_store (ho := by exact o1) (hcs := by exact s1) (h := ?_)) <;> exact AOs.nil rfl)))) (h2 := ?_) | refine w1_nil (h := ?_) | refine w1_step (h2 := ?_) | refine w1_step (h1 := by (simp only [ObK, aft, cond_true, cond_false]; repeat' (first | refine And.intro ?_ ?_ | ((refine d_AOs ?_; first | refine o_load (hv := lg) (h := ?_) | refine o_load (hv := lp) (h := ?_) | refine o_load (hv := lf) (h := ?_) | refine o_load (hv := lq) (h := ?_)) <;> exact AOs.nil rfl)))) (h2 := ?_)) | fail)
    all_goals first | exact ⟨kk - 1, by omega, i + 1, by omega, by rw [eN]; rfl⟩ | (exfalso; first | omega | (simp_all; done))
include hj in
set_option maxHeartbeats 16000000 in
theorem sR4 {Q : Exit → St → Prop} {k kk L : Nat} {I O : List Value} {r : Nat → Nat} (hk : k + kk = 4) (hk4 : k < 4) :
    AW Try.prog (roundOf Try.f44 4) (thenA (fun s2 => ∃ k', k' < kk ∧ ∃ k : Nat, k + k' = 4 ∧ keep [0, 2, 3, 4, 5, 10] s2 = ⟨281, [(0, .pointer (some ⟨j, 0, none⟩)), (2, .float .f32 L), (3, .pointer (some ⟨M.length, 0, none⟩)), (4, .pointer (some ⟨M.length + 1, 0, none⟩)), (5, .pointer (some ⟨M.length + 2, 0, none⟩)), (10, .int .i64 (k : Int))], M.set j (rfB j0 s t (cmR L r S k)) ++ [⟨I, none, true⟩, ⟨O, none, true⟩, ⟨tab 4 fun q => Value.float .f32 (r q), none, true⟩]⟩) Q) ⟨281, [(0, .pointer (some ⟨j, 0, none⟩)), (2, .float .f32 L), (3, .pointer (some ⟨M.length, 0, none⟩)), (4, .pointer (some ⟨M.length + 1, 0, none⟩)), (5, .pointer (some ⟨M.length + 2, 0, none⟩)), (10, .int .i64 (k : Int))], M.set j (rfB j0 s t (cmR L r S k)) ++ [⟨I, none, true⟩, ⟨O, none, true⟩, ⟨tab 4 fun q => Value.float .f32 (r q), none, true⟩]⟩ := by
  obtain ⟨J, hJ⟩ : ∃ J, J = tab 25 (rfV j0 s t (cmR L r S k)) := ⟨_, rfl⟩
  have eB : rfB j0 s t (cmR L r S k) = ⟨J, none, true⟩ := by rw [hJ]
  have lr : ldA .one k (tab 4 fun q => Value.float .f32 (r q)) = some (.float .f32 (r k)) := ld_tab hk4 rfl
  cases hC : fgt .f32 (r k) 0
  · have eN : rfB j0 s t (cmR L r S (k + 1)) = ⟨J, none, true⟩ := by rw [← eB]; show rfB _ _ _ (if _ then _ else _) = _; rw [hC]; rfl
    rw [eB]
    clear hJ eB
    generalize (tab 4 fun q => Value.float .f32 (r q)) = R at *
    unfold roundOf
    repeat' (first | (refine d_AOs (h := ?_) ; first | refine o_move (h := ?_) | refine o_assign (h := ?_) | refine AOs.nil (h := ?_) | (refine d_bin (h := ?_) ; first | refine o_fgtC (h := ?_) | refine o_addS (h := ?_) | refine o_lss (h := ?_)) | refine o_load (hv := lr) (h := ?_) | refine o_at (h := ?_)) | (refine d_AW (h := ?_) ; first | refine AW.seq (h := ?_) | refine AW.region (h := ?_) | (refine AW.cond (ht := (fun hc => ?_)) (hf := (fun hc => ?_)) <;> (try (with_reducible first | exact absurd hc Bool.false_ne_true | exact absurd hc.symm Bool.false_ne_true)) <;> (try simp only [decide_eq_true_eq, decide_eq_false_iff_not, Int.ofNat_inj, Bool.not_eq_true', Bool.not_eq_false', Int.not_lt, Int.not_le] at hc) <;> (try (exfalso; omega)) <;> (try (exact absurd hc (by decide)))) | refine AW.block (h := ?_) | refine AW.skip (h := ?_)) | (first | refine t_normal ?_ | refine b_normal ?_) | fail)
    all_goals first | exact ⟨kk - 1, by omega, k + 1, by omega, by rw [eN]; rfl⟩ | (exfalso; first | omega | (simp_all; done))
  · obtain ⟨w, hw⟩ : ∃ w, fadd .f32 ((cmR L r S k).c k) (fmul .f32 (r k) L) = w := ⟨_, rfl⟩
    obtain ⟨J', hJ'⟩ : ∃ J', J' = tab 25 (rfV j0 s t (cmS L r (cmR L r S k) k)) := ⟨_, rfl⟩
    have eN : rfB j0 s t (cmR L r S (k + 1)) = ⟨J', none, true⟩ := by rw [hJ']; show rfB _ _ _ (if _ then _ else _) = _; rw [hC]; rfl
    have lc : ldA .one (13 + k) J = some (.float .f32 ((cmR L r S k).c k)) := by rw [hJ]; exact fld_c rfl hk4 rfl
    have o1 : 13 + k + 1 ≤ J.length := by rw [hJ, rf_len]; omega
    have s1 : J.take (13 + k) ++ cellsA (.float .f32 w) ++ J.drop (13 + k + (cellsA (.float .f32 w)).length) = J' := by rw [hJ, hJ', ← hw]; exact fst_c rfl hk4 rfl
    rw [eB]
    clear hJ eB hJ'
    generalize (cmR L r S k).c k = ck at *
    generalize (tab 4 fun q => Value.float .f32 (r q)) = R at *
    unfold roundOf
    repeat' (first | (refine d_AOs (h := ?_) ; first | refine o_move (h := ?_) | refine o_assign (h := ?_) | refine AOs.nil (h := ?_) | (refine d_bin (h := ?_) ; first | refine o_fgtC (h := ?_) | refine o_addS (h := ?_) | refine o_lss (h := ?_)) | refine o_load (hv := lr) (h := ?_) | refine o_at (h := ?_)) | (refine d_AW (h := ?_) ; first | refine AW.seq (h := ?_) | refine AW.region (h := ?_) | refine AW.openW1M (M.set j ⟨J, none, true⟩ ++ [⟨I, none, true⟩, ⟨O, none, true⟩, ⟨R, none, true⟩]) 17 (M.set j ⟨J', none, true⟩ ++ [⟨I, none, true⟩, ⟨O, none, true⟩, ⟨R, none, true⟩]) (h := ?_) | (refine AW.cond (ht := (fun hc => ?_)) (hf := (fun hc => ?_)) <;> (try (with_reducible first | exact absurd hc Bool.false_ne_true | exact absurd hc.symm Bool.false_ne_true)) <;> (try simp only [decide_eq_true_eq, decide_eq_false_iff_not, Int.ofNat_inj, Bool.not_eq_true', Bool.not_eq_false', Int.not_lt, Int.not_le] at hc) <;> (try (exfalso; omega)) <;> (try (exact absurd hc (by decide)))) | refine AW.block (h := ?_) | refine AW.skip (h := ?_)) | (first | refine t_normal ?_ | refine b_normal ?_) | (refine d_W (h := ?_) ; first | refine w1_step (h1 := by (simp only [ObK, aft, cond_true, cond_false]; repeat' (first | refine And.intro ?_ ?_ | ((refine d_AOs ?_; first| (refine d_bin (h := ?_) ; first | refine o_fneS (h := ?_) | refine o_fneC (h := ?_) | refine o_feqC (h := ?_) | refine o_fltC (h := ?_) | refine o_fgtC (h := ?_) | refine o_fleC (h := ?_) | refine o_fgeC (h := ?_) | refine o_faddH (he := hw) (h := ?_) )) <;> exact AOs.nil rfl)))) (h2 := ?_) | refine w1_stepN (h1 := by (simp only [ObK, aft, cond_true, cond_false]; repeat' (first | refine And.intro ?_ ?_ | ((refine d_AOs ?_; first | refine o_store (ho := by exact o1) (hcs := by exact s1) (h := ?_)) <;> exact AOs.nil rfl)))) (h2 := ?_) | refine w1_nil (h := ?_) | refine w1_step (h2 := ?_) | refine w1_step (h1 := by (simp only [ObK, aft, cond_true, cond_false]; repeat' (first | refine And.intro ?_ ?_ | ((refine d_AOs ?_; first | refine o_load (hv := lr) (h := ?_) | refine o_load (hv := lc) (h := ?_)) <;> exact AOs.nil rfl)))) (h2 := ?_)) | fail)
    all_goals first | exact ⟨kk - 1, by omega, k + 1, by omega, by rw [eN]; rfl⟩ | (exfalso; first | omega | (simp_all; done))
include hj in
set_option maxHeartbeats 16000000 in
theorem sR5 {Q : Exit → St → Prop} {i kk L : Nat} {S0 : FSt} {O R : List Value} (hi : i + kk = 4) (hi4 : i < 4) :
    AW Try.prog (roundOf Try.f44 5) (thenA (fun s2 => ∃ k', k' < kk ∧ ∃ i : Nat, i + k' = 4 ∧ keep [0, 2, 3, 4, 5, 11] s2 = ⟨281, [(0, .pointer (some ⟨j, 0, none⟩)), (2, .float .f32 L), (3, .pointer (some ⟨M.length, 0, none⟩)), (4, .pointer (some ⟨M.length + 1, 0, none⟩)), (5, .pointer (some ⟨M.length + 2, 0, none⟩)), (11, .int .i64 (i : Int))], M.set j (rfB j0 s t (enR h s L S0 S i)) ++ [⟨tab 4 fun q => Value.float .f32 (insF h s S0 q), none, true⟩, ⟨O, none, true⟩, ⟨R, none, true⟩]⟩) Q) ⟨281, [(0, .pointer (some ⟨j, 0, none⟩)), (2, .float .f32 L), (3, .pointer (some ⟨M.length, 0, none⟩)), (4, .pointer (some ⟨M.length + 1, 0, none⟩)), (5, .pointer (some ⟨M.length + 2, 0, none⟩)), (11, .int .i64 (i : Int))], M.set j (rfB j0 s t (enR h s L S0 S i)) ++ [⟨tab 4 fun q => Value.float .f32 (insF h s S0 q), none, true⟩, ⟨O, none, true⟩, ⟨R, none, true⟩]⟩ := by
  obtain ⟨J, hJ⟩ : ∃ J, J = tab 25 (rfV j0 s t (enR h s L S0 S i)) := ⟨_, rfl⟩
  have eB : rfB j0 s t (enR h s L S0 S i) = ⟨J, none, true⟩ := by rw [hJ]
  have lg : ldA .one (17 + i) J = some (.bool (S.g i)) := by rw [hJ, ← enR_g (h := h) (s := s) (L := L) (S0 := S0)]; exact fld_g rfl hi4 rfl
  have li : ldA .one i (tab 4 fun q => Value.float .f32 (insF h s S0 q)) = some (.float .f32 (insF h s S0 i)) := ld_tab hi4 rfl
  cases hC : (S.g i && feq .f32 (insF h s S0 i) L)
  · have eN : rfB j0 s t (enR h s L S0 S (i + 1)) = ⟨J, none, true⟩ := by rw [← eB]; exact rfB_congr (enR_no hC)
    rw [eB]
    clear hJ eB
    generalize (tab 4 fun q => Value.float .f32 (insF h s S0 q)) = I at *
    generalize insF h s S0 i = x at *
    cases hg : S.g i
    · rw [hg] at lg
      unfold roundOf
      repeat' (first | (refine d_AOs (h := ?_) ; first | refine o_move (h := ?_) | refine o_assign (h := ?_) | refine AOs.nil (h := ?_) | (refine d_bin (h := ?_) ; first | refine o_addS (h := ?_) | refine o_lss (h := ?_)) | (refine d_grd (h := ?_) ; first | refine g_no (h := ?_)) | refine o_load (hv := lg) (h := ?_) | refine o_at (h := ?_) | refine o_field (h := ?_) | refine o_nil (h := ?_) | refine o_pick (h := ?_)) | (refine d_AW (h := ?_) ; first | refine AW.seq (h := ?_) | refine AW.region (h := ?_) | (refine AW.cond (ht := (fun hc => ?_)) (hf := (fun hc => ?_)) <;> (try (with_reducible first | exact absurd hc Bool.false_ne_true | exact absurd hc.symm Bool.false_ne_true)) <;> (try simp only [decide_eq_true_eq, decide_eq_false_iff_not, Int.ofNat_inj, Bool.not_eq_true', Bool.not_eq_false', Int.not_lt, Int.not_le] at hc) <;> (try (exfalso; omega)) <;> (try (exact absurd hc (by decide)))) | refine AW.block (h := ?_) | refine AW.skip (h := ?_)) | (first | refine t_normal ?_ | refine b_normal ?_) | fail)
      all_goals first | exact ⟨kk - 1, by omega, i + 1, by omega, by rw [eN]; rfl⟩ | (exfalso; first | omega | (simp_all; done))
    · rw [hg, Bool.true_and] at hC
      rw [hg] at lg
      unfold roundOf
      repeat' (first | (refine d_AOs (h := ?_) ; first | refine o_move (h := ?_) | refine o_assign (h := ?_) | refine AOs.nil (h := ?_) | (refine d_bin (h := ?_) ; first | refine o_feqC (h := ?_) | refine o_addS (h := ?_) | refine o_lss (h := ?_)) | (refine d_grd (h := ?_) ; first | refine g_yes (h := ?_)) | refine o_load (hv := lg) (h := ?_) | refine o_load (hv := li) (h := ?_) | refine o_at (h := ?_) | refine o_field (h := ?_) | refine o_nil (h := ?_) | refine o_pick (h := ?_)) | (refine d_AW (h := ?_) ; first | refine AW.seq (h := ?_) | refine AW.region (h := ?_) | (refine AW.cond (ht := (fun hc => ?_)) (hf := (fun hc => ?_)) <;> (try (with_reducible first | exact absurd hc Bool.false_ne_true | exact absurd hc.symm Bool.false_ne_true)) <;> (try simp only [decide_eq_true_eq, decide_eq_false_iff_not, Int.ofNat_inj, Bool.not_eq_true', Bool.not_eq_false', Int.not_lt, Int.not_le] at hc) <;> (try (exfalso; omega)) <;> (try (exact absurd hc (by decide)))) | refine AW.block (h := ?_) | refine AW.skip (h := ?_)) | (first | refine t_normal ?_ | refine b_normal ?_) | fail)
      all_goals first | exact ⟨kk - 1, by omega, i + 1, by omega, by rw [eN]; rfl⟩ | (exfalso; first | omega | (simp_all; done))
  · obtain ⟨J1, hJ1⟩ : ∃ J1, J1 = tab 25 (rfV j0 s t { enR h s L S0 S i with g := upd (enR h s L S0 S i).g i false }) := ⟨_, rfl⟩
    obtain ⟨J2, hJ2⟩ : ∃ J2, J2 = tab 25 (rfV j0 s t { enR h s L S0 S i with g := upd (enR h s L S0 S i).g i false, f := upd (enR h s L S0 S i).f i (s i) }) := ⟨_, rfl⟩
    have eN : rfB j0 s t (enR h s L S0 S (i + 1)) = ⟨J2, none, true⟩ := by rw [hJ2]; exact (rfB_congr (enR_go hC)).symm
    have ls : ldA .one (1 + i) J1 = some (.float .f32 (s i)) := by rw [hJ1]; exact fld_s rfl hi4 rfl
    have ls2 : ldA .one (1 + i) J2 = some (.float .f32 (s i)) := by rw [hJ2]; exact fld_s rfl hi4 rfl
    have o1 : 17 + i + 1 ≤ J.length := by rw [hJ, rf_len]; omega
    have s1 : J.take (17 + i) ++ cellsA (.bool false) ++ J.drop (17 + i + (cellsA (.bool false)).length) = J1 := by rw [hJ, hJ1]; exact fst_g rfl hi4 rfl
    have o2 : 9 + i + 1 ≤ J1.length := by rw [hJ1, rf_len]; omega
    have s2 : J1.take (9 + i) ++ cellsA (.float .f32 (s i)) ++ J1.drop (9 + i + (cellsA (.float .f32 (s i))).length) = J2 := by rw [hJ1, hJ2]; exact fst_f rfl hi4 rfl
    rw [Bool.and_eq_true] at hC
    obtain ⟨hg, hq⟩ := hC
    rw [hg] at lg
    rw [eB]
    clear hJ eB hJ1 hJ2
    generalize (tab 4 fun q => Value.float .f32 (insF h s S0 q)) = I at *
    generalize insF h s S0 i = x at *
    generalize s i = si at *
    unfold roundOf
    repeat' (first | (refine d_AOs (h := ?_) ; first | refine o_move (h := ?_) | refine o_assign (h := ?_) | refine AOs.nil (h := ?_) | (refine d_bin (h := ?_) ; first | refine o_feqC (h := ?_) | refine o_addS (h := ?_) | refine o_lss (h := ?_)) | (refine d_grd (h := ?_) ; first | refine g_yes (h := ?_)) | refine o_load (hv := lg) (h := ?_) | refine o_load (hv := li) (h := ?_) | refine o_store (ho := by exact o1) (hcs := by exact s1) (h := ?_) | refine o_at (h := ?_) | refine o_field (h := ?_) | refine o_nil (h := ?_) | refine o_pick (h := ?_)) | (refine d_AW (h := ?_) ; first | refine AW.seq (h := ?_) | refine AW.region (h := ?_) | refine AW.openW1M (M.set j ⟨J1, none, true⟩ ++ [⟨I, none, true⟩, ⟨O, none, true⟩, ⟨R, none, true⟩]) 11 (M.set j ⟨J2, none, true⟩ ++ [⟨I, none, true⟩, ⟨O, none, true⟩, ⟨R, none, true⟩]) (h := ?_) | (refine AW.cond (ht := (fun hc => ?_)) (hf := (fun hc => ?_)) <;> (try (with_reducible first | exact absurd hc Bool.false_ne_true | exact absurd hc.symm Bool.false_ne_true)) <;> (try simp only [decide_eq_true_eq, decide_eq_false_iff_not, Int.ofNat_inj, Bool.not_eq_true', Bool.not_eq_false', Int.not_lt, Int.not_le] at hc) <;> (try (exfalso; omega)) <;> (try (exact absurd hc (by decide)))) | refine AW.block (h := ?_) | refine AW.skip (h := ?_)) | (first | refine t_normal ?_ | refine b_normal ?_) | (refine d_W (h := ?_) ; first | refine w1_stepN (h1 := by (simp only [ObK, aft, cond_true, cond_false]; repeat' (first | refine And.intro ?_ ?_ | ((refine d_AOs ?_; first | refine o_store (ho := by exact o2) (hcs := by exact s2) (h := ?_)) <;> exact AOs.nil rfl)))) (h2 := ?_) | refine w1_nil (h := ?_) | refine w1_step (h2 := ?_) | refine w1_step (h1 := by (simp only [ObK, aft, cond_true, cond_false]; repeat' (first | refine And.intro ?_ ?_ | ((refine d_AOs ?_; first | refine o_load (hv := lg) (h := ?_) | refine o_load (hv := li) (h := ?_) | refine o_load (hv := ls) (h := ?_) | refine o_load (hv := ls2) (h := ?_) | refine o_store (ho := by exact o1) (hcs := by exact s1) (h := ?_)) <;> exact AOs.nil rfl)))) (h2 := ?_)) | fail)
    all_goals first | exact ⟨kk - 1, by omega, i + 1, by omega, by rw [eN]; rfl⟩ | (exfalso; first | omega | (simp_all; done))
end
end Go.Proofs.Ytjghdagcmombnaa
