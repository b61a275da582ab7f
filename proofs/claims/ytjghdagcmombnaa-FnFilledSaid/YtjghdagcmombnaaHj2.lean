/- A round of the reference's filling: how long outs take. -/
import Derived.Test.YtjghdagcmombnaaHi

namespace Go.Proofs.Ytjghdagcmombnaa
open Go.RowKit
attribute [local irreducible] AW AOs AO AQ AQW thenA inBlockA postA ACalls Pure
set_option linter.unusedSimpArgs false
set_option linter.unusedVariables false
set_option linter.unusedSectionVars false

section
variable {n o : Int} {j0 j : Nat} {h s t : Nat → Nat} {S : FSt} {M : Mem} (hj : j < M.length) (hne : j ≠ j0) (hb : M[j0]? = some (jnB n o h))
theorem outs_skipR {r : Nat → Nat} {k : Nat} (hg : fgt .f32 (r k) 0 = false) : (tab 4 fun q => Value.float .f32 (if q < k + 1 then outsR t r S q else 0)) = tab 4 fun q => .float .f32 (if q < k then outsR t r S q else 0) := tab_congr fun q _ => by
  by_cases e : q = k
  · subst e; rw [if_pos (by omega), if_neg (by omega)]; unfold outsR; rw [hg]; rfl
  · by_cases e2 : q < k
    · rw [if_pos (by omega), if_pos e2]
    · rw [if_neg (by omega), if_neg e2]
/-- A cell that is set twice. -/
theorem st_twice {f : Nat → Nat} {k x y : Nat} (hk : k < 4) : (tab 4 fun q => if q = k then Value.float .f32 x else .float .f32 (f q)).take k ++ cellsA (.float .f32 y) ++ (tab 4 fun q => if q = k then Value.float .f32 x else .float .f32 (f q)).drop (k + (cellsA (.float .f32 y)).length) = tab 4 fun q => if q = k then Value.float .f32 y else .float .f32 (f q) := by
  refine (st_tab1 hk).trans (tab_congr fun q _ => ?_)
  by_cases e : q = k
  · rw [if_pos e, if_pos e]
  · rw [if_neg e, if_neg e]; exact (if_neg e).symm
include hj in
set_option maxHeartbeats 16000000 in
theorem sR2 {Q : Exit → St → Prop} {k kk a : Nat} {I : List Value} {r : Nat → Nat} (hk : k + kk = 4) (hk4 : k < 4) :
    AW Try.prog (roundOf Try.f44 2) (thenA (fun s2 => ∃ k', k' < kk ∧ ∃ k : Nat, k + k' = 4 ∧ keep [0, 2, 3, 4, 5, 8] s2 = ⟨281, [(0, .pointer (some ⟨j, 0, none⟩)), (2, .float .f32 (lsRO t r S a k)), (3, .pointer (some ⟨M.length, 0, none⟩)), (4, .pointer (some ⟨M.length + 1, 0, none⟩)), (5, .pointer (some ⟨M.length + 2, 0, none⟩)), (8, .int .i64 (k : Int))], M.set j (rfB j0 s t S) ++ [⟨I, none, true⟩, ⟨tab 4 fun q => Value.float .f32 (if q < k then outsR t r S q else 0), none, true⟩, ⟨tab 4 fun q => Value.float .f32 (r q), none, true⟩]⟩) Q) ⟨281, [(0, .pointer (some ⟨j, 0, none⟩)), (2, .float .f32 (lsRO t r S a k)), (3, .pointer (some ⟨M.length, 0, none⟩)), (4, .pointer (some ⟨M.length + 1, 0, none⟩)), (5, .pointer (some ⟨M.length + 2, 0, none⟩)), (8, .int .i64 (k : Int))], M.set j (rfB j0 s t S) ++ [⟨I, none, true⟩, ⟨tab 4 fun q => Value.float .f32 (if q < k then outsR t r S q else 0), none, true⟩, ⟨tab 4 fun q => Value.float .f32 (r q), none, true⟩]⟩ := by
  obtain ⟨J, hJ⟩ : ∃ J, J = tab 25 (rfV j0 s t S) := ⟨_, rfl⟩
  have eB : rfB j0 s t S = ⟨J, none, true⟩ := by rw [hJ]
  have ct : ldA .one (5 + k) J = some (.float .f32 (t k)) := by rw [hJ]; exact fld_t rfl hk4 rfl
  have cc : ldA .one (13 + k) J = some (.float .f32 (S.c k)) := by rw [hJ]; exact fld_c rfl hk4 rfl
  have lr : ldA .one k (tab 4 fun q => Value.float .f32 (r q)) = some (.float .f32 (r k)) := ld_tab hk4 rfl
  rw [eB]
  clear hJ eB
  cases hC : fgt .f32 (r k) 0
  · have e1 : lsRO t r S a (k + 1) = lsRO t r S a k := by show (if _ then _ else _) = _; rw [hC]; rfl
    have e2 := outs_skipR (t := t) (S := S) hC
    generalize (tab 4 fun q => Value.float .f32 (r q)) = R at *
    unfold roundOf
    repeat' (first | (refine d_AOs (h := ?_) ; first | refine o_move (h := ?_) | refine o_assign (h := ?_) | refine AOs.nil (h := ?_) | (refine d_bin (h := ?_) ; first | refine o_fgtC (h := ?_) | refine o_addS (h := ?_) | refine o_lss (h := ?_)) | refine o_load (hv := lr) (h := ?_) | refine o_at (h := ?_) | refine o_not (h := ?_)) | (refine d_AW (h := ?_) ; first | refine AW.seq (h := ?_) | refine AW.region (h := ?_) | (refine AW.cond (ht := (fun hc => ?_)) (hf := (fun hc => ?_)) <;> (try (with_reducible first | exact absurd hc Bool.false_ne_true | exact absurd hc.symm Bool.false_ne_true)) <;> (try simp only [decide_eq_true_eq, decide_eq_false_iff_not, Int.ofNat_inj, Bool.not_eq_true', Bool.not_eq_false', Int.not_lt, Int.not_le] at hc) <;> (try (exfalso; omega)) <;> (try (exact absurd hc (by decide)))) | refine AW.block (h := ?_) | refine AW.skip (h := ?_) | refine AW.exit (h := ?_)) | (first | refine t_normal ?_ | refine t_exit ?_ | refine b_exit ?_) | fail)
    all_goals first | exact ⟨kk - 1, by omega, k + 1, by omega, by rw [e1, e2]; rfl⟩ | (exfalso; first | omega | (simp_all; done))
  · obtain ⟨x, hx⟩ : ∃ x, fdiv .f32 (fsub .f32 (t k) (S.c k)) (r k) = x := ⟨_, rfl⟩
    have eo : outsR t r S k = grR x := by unfold outsR outR; rw [hC, hx]; rfl
    have e1 : lsRO t r S a (k + 1) = less (lsRO t r S a k) (grR x) := by
      show (if fgt .f32 (r k) 0 then less (lsRO t r S a k) (outR t r S k) else lsRO t r S a k) = _
      rw [hC]; show less _ (grR (fdiv .f32 (fsub .f32 (t k) (S.c k)) (r k))) = _; rw [hx]
    have o1 : k + 1 ≤ (tab 4 fun q => Value.float .f32 (if q < k then outsR t r S q else 0)).length := by rw [tab_len]; omega
    have s1 : (tab 4 fun q => Value.float .f32 (if q < k then outsR t r S q else 0)).take k ++ cellsA (.float .f32 x) ++ (tab 4 fun q => Value.float .f32 (if q < k then outsR t r S q else 0)).drop (k + (cellsA (.float .f32 x)).length) = tab 4 fun q => if q = k then Value.float .f32 x else .float .f32 (if q < k then outsR t r S q else 0) := st_tab1 hk4
    have lx : ldA .one k (tab 4 fun q => if q = k then Value.float .f32 x else .float .f32 (if q < k then outsR t r S q else 0)) = some (.float .f32 x) := ld_tab hk4 (if_pos rfl)
    have o2 : k + 1 ≤ (tab 4 fun q => if q = k then Value.float .f32 x else .float .f32 (if q < k then outsR t r S q else 0)).length := by rw [tab_len]; omega
    have s2 := st_twice (f := fun q => if q < k then outsR t r S q else 0) (x := x) (y := 0) hk4
    have l0 : ldA .one k (tab 4 fun q => if q = k then Value.float .f32 0 else .float .f32 (if q < k then outsR t r S q else 0)) = some (.float .f32 0) := ld_tab hk4 (if_pos rfl)
    cases hN : flt .f32 x 0
    · have eg : grR x = x := by unfold grR; rw [hN]; rfl
      rw [eg] at eo e1
      have hst := step_tab (N := 4) (i := k) (f := outsR t r S) eo
      simp only at hst
      clear s2 l0 o2
      generalize (tab 4 fun q => Value.float .f32 (if q < k then outsR t r S q else 0)) = K1 at *
      rw [hst] at s1 lx
      clear hst
      generalize hK2 : (tab 4 fun q => Value.float .f32 (if q < k + 1 then outsR t r S q else 0)) = K2 at *
      generalize (tab 4 fun q => Value.float .f32 (r q)) = R at *
      generalize lsRO t r S a k = y at *
      cases hB : flt .f32 x y
      · have e2 : lsRO t r S a (k + 1) = y := by rw [e1]; unfold less; rw [hB]; rfl
        clear e1 eo eg
        unfold roundOf
        repeat' (first | (refine d_AOs (h := ?_) ; first | refine o_move (h := ?_) | refine o_assign (h := ?_) | refine AOs.nil (h := ?_) | (refine d_bin (h := ?_) ; first | refine o_fltC (h := ?_) | refine o_fgtC (h := ?_) | refine o_addS (h := ?_) | refine o_lss (h := ?_)) | refine o_load (hv := lr) (h := ?_) | refine o_load (hv := lx) (h := ?_) | refine o_at (h := ?_) | refine o_not (h := ?_)) | (refine d_AW (h := ?_) ; first | refine AW.seq (h := ?_) | refine AW.region (h := ?_) | refine AW.openW1M (M.set j ⟨J, none, true⟩ ++ [⟨I, none, true⟩, ⟨K1, none, true⟩, ⟨R, none, true⟩]) 19 (M.set j ⟨J, none, true⟩ ++ [⟨I, none, true⟩, ⟨K2, none, true⟩, ⟨R, none, true⟩]) (h := ?_) | (refine AW.cond (ht := (fun hc => ?_)) (hf := (fun hc => ?_)) <;> (try (with_reducible first | exact absurd hc Bool.false_ne_true | exact absurd hc.symm Bool.false_ne_true)) <;> (try simp only [decide_eq_true_eq, decide_eq_false_iff_not, Int.ofNat_inj, Bool.not_eq_true', Bool.not_eq_false', Int.not_lt, Int.not_le] at hc) <;> (try (exfalso; omega)) <;> (try (exact absurd hc (by decide)))) | refine AW.block (h := ?_) | refine AW.skip (h := ?_)) | (first | refine t_normal ?_ | refine b_normal ?_) | (refine d_W (h := ?_) ; first | refine w1_step (h1 := by (simp only [ObK, aft, cond_true, cond_false]; repeat' (first | refine And.intro ?_ ?_ | ((refine d_AOs ?_; first| (refine d_bin (h := ?_) ; first | refine o_fneS (h := ?_) | refine o_fneC (h := ?_) | refine o_feqC (h := ?_) | refine o_fltC (h := ?_) | refine o_fgtC (h := ?_) | refine o_fleC (h := ?_) | refine o_fgeC (h := ?_) | refine o_fdivH (he := hx) (h := ?_) )) <;> exact AOs.nil rfl)))) (h2 := ?_) | refine w1_stepN (h1 := by (simp only [ObK, aft, cond_true, cond_false]; repeat' (first | refine And.intro ?_ ?_ | ((refine d_AOs ?_; first | refine o_store (ho := by exact o1) (hcs := by exact s1) (h := ?_)) <;> exact AOs.nil rfl)))) (h2 := ?_) | refine w1_nil (h := ?_) | refine w1_step (h2 := ?_) | refine w1_step (h1 := by (simp only [ObK, aft, cond_true, cond_false]; repeat' (first | refine And.intro ?_ ?_ | ((refine d_AOs ?_; first | refine o_load (hv := ct) (h := ?_) | refine o_load (hv := cc) (h := ?_) | refine o_load (hv := lr) (h := ?_) | refine o_load (hv := lx) (h := ?_)) <;> exact AOs.nil rfl)))) (h2 := ?_)) | fail)
        all_goals first | exact ⟨kk - 1, by omega, k + 1, by omega, by rw [e2, hK2]; rfl⟩ | (exfalso; first | omega | (simp_all; done))
      · have e2 : lsRO t r S a (k + 1) = x := by rw [e1]; unfold less; rw [hB]; rfl
        clear e1 eo eg
        unfold roundOf
        repeat' (first | (refine d_AOs (h := ?_) ; first | refine o_move (h := ?_) | refine o_assign (h := ?_) | refine AOs.nil (h := ?_) | (refine d_bin (h := ?_) ; first | refine o_fltC (h := ?_) | refine o_fgtC (h := ?_) | refine o_addS (h := ?_) | refine o_lss (h := ?_)) | refine o_load (hv := lr) (h := ?_) | refine o_load (hv := lx) (h := ?_) | refine o_at (h := ?_) | refine o_not (h := ?_)) | (refine d_AW (h := ?_) ; first | refine AW.seq (h := ?_) | refine AW.region (h := ?_) | refine AW.openW1M (M.set j ⟨J, none, true⟩ ++ [⟨I, none, true⟩, ⟨K1, none, true⟩, ⟨R, none, true⟩]) 19 (M.set j ⟨J, none, true⟩ ++ [⟨I, none, true⟩, ⟨K2, none, true⟩, ⟨R, none, true⟩]) (h := ?_) | (refine AW.cond (ht := (fun hc => ?_)) (hf := (fun hc => ?_)) <;> (try (with_reducible first | exact absurd hc Bool.false_ne_true | exact absurd hc.symm Bool.false_ne_true)) <;> (try simp only [decide_eq_true_eq, decide_eq_false_iff_not, Int.ofNat_inj, Bool.not_eq_true', Bool.not_eq_false', Int.not_lt, Int.not_le] at hc) <;> (try (exfalso; omega)) <;> (try (exact absurd hc (by decide)))) | refine AW.block (h := ?_) | refine AW.skip (h := ?_)) | (first | refine t_normal ?_ | refine b_normal ?_) | (refine d_W (h := ?_) ; first | refine w1_step (h1 := by (simp only [ObK, aft, cond_true, cond_false]; repeat' (first | refine And.intro ?_ ?_ | ((refine d_AOs ?_; first| (refine d_bin (h := ?_) ; first | refine o_fneS (h := ?_) | refine o_fneC (h := ?_) | refine o_feqC (h := ?_) | refine o_fltC (h := ?_) | refine o_fgtC (h := ?_) | refine o_fleC (h := ?_) | refine o_fgeC (h := ?_) | refine o_fdivH (he := hx) (h := ?_) )) <;> exact AOs.nil rfl)))) (h2 := ?_) | refine w1_stepN (h1 := by (simp only [ObK, aft, cond_true, cond_false]; repeat' (first | refine And.intro ?_ ?_ | ((refine d_AOs ?_; first | refine o_store (ho := by exact o1) (hcs := by exact s1) (h := ?_)) <;> exact AOs.nil rfl)))) (h2 := ?_) | refine w1_nil (h := ?_) | refine w1_step (h2 := ?_) | refine w1_step (h1 := by (simp only [ObK, aft, cond_true, cond_false]; repeat' (first | refine And.intro ?_ ?_ | ((refine d_AOs ?_; first | refine o_load (hv := ct) (h := ?_) | refine o_load (hv := cc) (h := ?_) | refine o_load (hv := lr) (h := ?_) | refine o_load (hv := lx) (h := ?_)) <;> exact AOs.nil rfl)))) (h2 := ?_)) | fail)
        all_goals first | exact ⟨kk - 1, by omega, k + 1, by omega, by rw [e2, hK2]; rfl⟩ | (exfalso; first | omega | (simp_all; done))
    · have eg : grR x = 0 := by unfold grR; rw [hN]; rfl
      rw [eg] at eo e1
      have hst := step_tab (N := 4) (i := k) (f := outsR t r S) eo
      simp only at hst s2
      rw [hst] at s2 l0
      clear hst
      generalize (tab 4 fun q => Value.float .f32 (if q < k then outsR t r S q else 0)) = K1 at *
      generalize (tab 4 fun q => if q = k then Value.float .f32 x else .float .f32 (if q < k then outsR t r S q else 0)) = Kx at *
      generalize hK2 : (tab 4 fun q => Value.float .f32 (if q < k + 1 then outsR t r S q else 0)) = K2 at *
      generalize (tab 4 fun q => Value.float .f32 (r q)) = R at *
      generalize lsRO t r S a k = y at *
      cases hB : flt .f32 0 y
      · have e2 : lsRO t r S a (k + 1) = y := by rw [e1]; unfold less; rw [hB]; rfl
        clear e1 eo eg
        unfold roundOf
        repeat' (first | (refine d_AOs (h := ?_) ; first | refine o_move (h := ?_) | refine o_assign (h := ?_) | refine AOs.nil (h := ?_) | (refine d_bin (h := ?_) ; first | refine o_fltC (h := ?_) | refine o_fgtC (h := ?_) | refine o_addS (h := ?_) | refine o_lss (h := ?_)) | refine o_load (hv := lr) (h := ?_) | refine o_load (hv := lx) (h := ?_) | refine o_load (hv := l0) (h := ?_) | refine o_store (ho := by exact o2) (hcs := by exact s2) (h := ?_) | refine o_at (h := ?_) | refine o_not (h := ?_)) | (refine d_AW (h := ?_) ; first | refine AW.seq (h := ?_) | refine AW.region (h := ?_) | refine AW.openW1M (M.set j ⟨J, none, true⟩ ++ [⟨I, none, true⟩, ⟨K1, none, true⟩, ⟨R, none, true⟩]) 19 (M.set j ⟨J, none, true⟩ ++ [⟨I, none, true⟩, ⟨Kx, none, true⟩, ⟨R, none, true⟩]) (h := ?_) | (refine AW.cond (ht := (fun hc => ?_)) (hf := (fun hc => ?_)) <;> (try (with_reducible first | exact absurd hc Bool.false_ne_true | exact absurd hc.symm Bool.false_ne_true)) <;> (try simp only [decide_eq_true_eq, decide_eq_false_iff_not, Int.ofNat_inj, Bool.not_eq_true', Bool.not_eq_false', Int.not_lt, Int.not_le] at hc) <;> (try (exfalso; omega)) <;> (try (exact absurd hc (by decide)))) | refine AW.block (h := ?_) | refine AW.skip (h := ?_)) | (first | refine t_normal ?_ | refine b_normal ?_) | (refine d_W (h := ?_) ; first | refine w1_step (h1 := by (simp only [ObK, aft, cond_true, cond_false]; repeat' (first | refine And.intro ?_ ?_ | ((refine d_AOs ?_; first| (refine d_bin (h := ?_) ; first | refine o_fneS (h := ?_) | refine o_fneC (h := ?_) | refine o_feqC (h := ?_) | refine o_fltC (h := ?_) | refine o_fgtC (h := ?_) | refine o_fleC (h := ?_) | refine o_fgeC (h := ?_) | refine o_fdivH (he := hx) (h := ?_) )) <;> exact AOs.nil rfl)))) (h2 := ?_) | refine w1_stepN (h1 := by (simp only [ObK, aft, cond_true, cond_false]; repeat' (first | refine And.intro ?_ ?_ | ((refine d_AOs ?_; first | refine o_store (ho := by exact o1) (hcs := by exact s1) (h := ?_)) <;> exact AOs.nil rfl)))) (h2 := ?_) | refine w1_nil (h := ?_) | refine w1_step (h2 := ?_) | refine w1_step (h1 := by (simp only [ObK, aft, cond_true, cond_false]; repeat' (first | refine And.intro ?_ ?_ | ((refine d_AOs ?_; first | refine o_load (hv := ct) (h := ?_) | refine o_load (hv := cc) (h := ?_) | refine o_load (hv := lr) (h := ?_) | refine o_load (hv := lx) (h := ?_) | refine o_load (hv := l0) (h := ?_) | refine o_store (ho := by exact o2) (hcs := by exact s2) (h := ?_)) <;> exact AOs.nil rfl)))) (h2 := ?_)) | fail)
        all_goals first | exact ⟨kk - 1, by omega, k + 1, by omega, by rw [e2, hK2]; rfl⟩ | (exfalso; first | omega | (simp_all; done))
      · have e2 : lsRO t r S a (k + 1) = 0 := by rw [e1]; unfold less; rw [hB]; rfl
        clear e1 eo eg
        unfold roundOf
        repeat' (first | (refine d_AOs (h := ?_) ; first | refine o_move (h := ?_) | refine o_assign (h := ?_) | refine AOs.nil (h := ?_) | (refine d_bin (h := ?_) ; first | refine o_fltC (h := ?_) | refine o_fgtC (h := ?_) | refine o_addS (h := ?_) | refine o_lss (h := ?_)) | refine o_load (hv := lr) (h := ?_) | refine o_load (hv := lx) (h := ?_) | refine o_load (hv := l0) (h := ?_) | refine o_store (ho := by exact o2) (hcs := by exact s2) (h := ?_) | refine o_at (h := ?_) | refine o_not (h := ?_)) | (refine d_AW (h := ?_) ; first | refine AW.seq (h := ?_) | refine AW.region (h := ?_) | refine AW.openW1M (M.set j ⟨J, none, true⟩ ++ [⟨I, none, true⟩, ⟨K1, none, true⟩, ⟨R, none, true⟩]) 19 (M.set j ⟨J, none, true⟩ ++ [⟨I, none, true⟩, ⟨Kx, none, true⟩, ⟨R, none, true⟩]) (h := ?_) | (refine AW.cond (ht := (fun hc => ?_)) (hf := (fun hc => ?_)) <;> (try (with_reducible first | exact absurd hc Bool.false_ne_true | exact absurd hc.symm Bool.false_ne_true)) <;> (try simp only [decide_eq_true_eq, decide_eq_false_iff_not, Int.ofNat_inj, Bool.not_eq_true', Bool.not_eq_false', Int.not_lt, Int.not_le] at hc) <;> (try (exfalso; omega)) <;> (try (exact absurd hc (by decide)))) | refine AW.block (h := ?_) | refine AW.skip (h := ?_)) | (first | refine t_normal ?_ | refine b_normal ?_) | (refine d_W (h := ?_) ; first | refine w1_step (h1 := by (simp only [ObK, aft, cond_true, cond_false]; repeat' (first | refine And.intro ?_ ?_ | ((refine d_AOs ?_; first| (refine d_bin (h := ?_) ; first | refine o_fneS (h := ?_) | refine o_fneC (h := ?_) | refine o_feqC (h := ?_) | refine o_fltC (h := ?_) | refine o_fgtC (h := ?_) | refine o_fleC (h := ?_) | refine o_fgeC (h := ?_) | refine o_fdivH (he := hx) (h := ?_) )) <;> exact AOs.nil rfl)))) (h2 := ?_) | refine w1_stepN (h1 := by (simp only [ObK, aft, cond_true, cond_false]; repeat' (first | refine And.intro ?_ ?_ | ((refine d_AOs ?_; first | refine o_store (ho := by exact o1) (hcs := by exact s1) (h := ?_)) <;> exact AOs.nil rfl)))) (h2 := ?_) | refine w1_nil (h := ?_) | refine w1_step (h2 := ?_) | refine w1_step (h1 := by (simp only [ObK, aft, cond_true, cond_false]; repeat' (first | refine And.intro ?_ ?_ | ((refine d_AOs ?_; first | refine o_load (hv := ct) (h := ?_) | refine o_load (hv := cc) (h := ?_) | refine o_load (hv := lr) (h := ?_) | refine o_load (hv := lx) (h := ?_) | refine o_load (hv := l0) (h := ?_) | refine o_store (ho := by exact o2) (hcs := by exact s2) (h := ?_)) <;> exact AOs.nil rfl)))) (h2 := ?_)) | fail)
        all_goals first | exact ⟨kk - 1, by omega, k + 1, by omega, by rw [e2, hK2]; rfl⟩ | (exfalso; first | omega | (simp_all; done))
end
end Go.Proofs.Ytjghdagcmombnaa
