/- A round of the reference's filling: times and rates. -/
import Derived.Test.YtjghdagcmombnaaHi

namespace Go.Proofs.Ytjghdagcmombnaa
open Go.RowKit
attribute [local irreducible] AW AOs AO AQ AQW thenA inBlockA postA ACalls Pure
set_option linter.unusedSimpArgs false
set_option linter.unusedVariables false
set_option linter.unusedSectionVars false

section
variable {n o : Int} {j0 j : Nat} {h s t : Nat → Nat} {S : FSt} {M : Mem} (hj : j < M.length) (hne : j ≠ j0) (hb : M[j0]? = some (jnB n o h))
theorem rr_step {i k : Nat} (hg : S.g i = true) : tab 4 (fun q => if q = k then Value.float .f32 (fadd .f32 (rrR h S k i) (fmul .f32 (h (18 + i)) (jA h i k))) else (fun q => .float .f32 (if q < k then rrR h S q (i + 1) else rrR h S q i)) q) = tab 4 fun q => .float .f32 (if q < k + 1 then rrR h S q (i + 1) else rrR h S q i) := tab_congr fun q _ => by
  by_cases e : q = k
  · subst e; rw [if_pos rfl, if_pos (by omega)]; show _ = Value.float .f32 (if S.g i then _ else _); rw [hg]; rfl
  · rw [if_neg e]
    by_cases e2 : q < k
    · show Value.float .f32 (if q < k then _ else _) = _; rw [if_pos e2, if_pos (by omega)]
    · show Value.float .f32 (if q < k then _ else _) = _; rw [if_neg e2, if_neg (by omega)]
theorem rr_0 {i : Nat} : (tab 4 fun q => Value.float .f32 (if q < 0 then rrR h S q (i + 1) else rrR h S q i)) = tab 4 fun q => .float .f32 (rrR h S q i) := tab_congr fun q _ => by rw [if_neg (by omega)]
theorem rr_4 {i : Nat} : (tab 4 fun q => Value.float .f32 (if q < 4 then rrR h S q (i + 1) else rrR h S q i)) = tab 4 fun q => .float .f32 (rrR h S q (i + 1)) := tab_congr fun q hq => by rw [if_pos hq]
theorem rr_skip {i : Nat} (hg : S.g i = false) : (tab 4 fun q => Value.float .f32 (rrR h S q (i + 1))) = tab 4 fun q => .float .f32 (rrR h S q i) := tab_congr fun q _ => by
  show Value.float .f32 (if S.g i then _ else _) = _; rw [hg]; rfl
include hj hne hb in
set_option maxHeartbeats 16000000 in
theorem sR1 {Q : Exit → St → Prop} {i k kk L : Nat} {I O : List Value} (hi : i < 4) (hg : S.g i = true) (hk : k + kk = 4) (hk4 : k < 4) :
    AW Try.prog (roundOf Try.f44 1) (thenA (fun s2 => ∃ k', k' < kk ∧ ∃ k : Nat, k + k' = 4 ∧ keep [0, 2, 3, 4, 5, 6, 7] s2 = ⟨281, [(0, .pointer (some ⟨j, 0, none⟩)), (2, .float .f32 L), (3, .pointer (some ⟨M.length, 0, none⟩)), (4, .pointer (some ⟨M.length + 1, 0, none⟩)), (5, .pointer (some ⟨M.length + 2, 0, none⟩)), (6, .int .i64 (i : Int)), (7, .int .i64 (k : Int))], M.set j (rfB j0 s t S) ++ [⟨I, none, true⟩, ⟨O, none, true⟩, ⟨tab 4 fun q => Value.float .f32 (if q < k then rrR h S q (i + 1) else rrR h S q i), none, true⟩]⟩) Q) ⟨281, [(0, .pointer (some ⟨j, 0, none⟩)), (2, .float .f32 L), (3, .pointer (some ⟨M.length, 0, none⟩)), (4, .pointer (some ⟨M.length + 1, 0, none⟩)), (5, .pointer (some ⟨M.length + 2, 0, none⟩)), (6, .int .i64 (i : Int)), (7, .int .i64 (k : Int))], M.set j (rfB j0 s t S) ++ [⟨I, none, true⟩, ⟨O, none, true⟩, ⟨tab 4 fun q => Value.float .f32 (if q < k then rrR h S q (i + 1) else rrR h S q i), none, true⟩]⟩ := by
  obtain ⟨J, hJ⟩ : ∃ J, J = tab 25 (rfV j0 s t S) := ⟨_, rfl⟩
  have eB : rfB j0 s t S = ⟨J, none, true⟩ := by rw [hJ]
  have lp : ldA .one 0 J = some (.pointer (some ⟨j0, 0, none⟩)) := by rw [hJ]; exact rf_ptr
  obtain ⟨Jn, hJn⟩ : ∃ Jn, Jn = tab 22 (jnJ n o h) := ⟨_, rfl⟩
  have hb2 : M[j0]? = some ⟨Jn, none, true⟩ := by rw [hJn]; exact hb
  have lq : ldA .one (18 + i) Jn = some (.float .f32 (h (18 + i))) := by rw [hJn]; exact jn_get (by omega) (by omega)
  have la : ldA .one (2 + i * 4 + k) Jn = some (.float .f32 (jA h i k)) := by rw [hJn]; exact jn_ldA hi hk4
  have lr : ldA .one k (tab 4 fun q => Value.float .f32 (if q < k then rrR h S q (i + 1) else rrR h S q i)) = some (.float .f32 (rrR h S k i)) := ld_tab hk4 (by rw [if_neg (by omega)])
  obtain ⟨w, hw⟩ : ∃ w, fadd .f32 (rrR h S k i) (fmul .f32 (h (18 + i)) (jA h i k)) = w := ⟨_, rfl⟩
  have hst := rr_step (h := h) (k := k) hg
  rw [hw] at hst
  have s1 : (tab 4 fun q => Value.float .f32 (if q < k then rrR h S q (i + 1) else rrR h S q i)).take k ++ cellsA (.float .f32 w) ++ (tab 4 fun q => Value.float .f32 (if q < k then rrR h S q (i + 1) else rrR h S q i)).drop (k + (cellsA (.float .f32 w)).length) = tab 4 fun q => .float .f32 (if q < k + 1 then rrR h S q (i + 1) else rrR h S q i) := by
    rw [← hst]; exact st_tab1 hk4
  have o1 : k + 1 ≤ (tab 4 fun q => Value.float .f32 (if q < k then rrR h S q (i + 1) else rrR h S q i)).length := by rw [tab_len]; omega
  rw [eB]
  clear hJ eB hst hJn hb
  generalize (tab 4 fun q => Value.float .f32 (if q < k then rrR h S q (i + 1) else rrR h S q i)) = K1 at *
  generalize hK2 : (tab 4 fun q => Value.float .f32 (if q < k + 1 then rrR h S q (i + 1) else rrR h S q i)) = K2 at *
  generalize rrR h S k i = a at *
  unfold roundOf
  repeat' (first | (refine d_AOs (h := ?_) ; first | refine o_move (h := ?_) | refine o_assign (h := ?_) | refine AOs.nil (h := ?_) | (refine d_bin (h := ?_) ; first | refine o_addS (h := ?_) | refine o_lss (h := ?_))) | (refine d_AW (h := ?_) ; first | refine AW.seq (h := ?_) | refine AW.region (h := ?_) | refine AW.openW1M (M.set j ⟨J, none, true⟩ ++ [⟨I, none, true⟩, ⟨O, none, true⟩, ⟨K1, none, true⟩]) 27 (M.set j ⟨J, none, true⟩ ++ [⟨I, none, true⟩, ⟨O, none, true⟩, ⟨K2, none, true⟩]) (h := ?_) | (refine AW.cond (ht := (fun hc => ?_)) (hf := (fun hc => ?_)) <;> (try (with_reducible first | exact absurd hc Bool.false_ne_true | exact absurd hc.symm Bool.false_ne_true)) <;> (try simp only [decide_eq_true_eq, decide_eq_false_iff_not, Int.ofNat_inj, Bool.not_eq_true', Bool.not_eq_false', Int.not_lt, Int.not_le] at hc) <;> (try (exfalso; omega)) <;> (try (exact absurd hc (by decide)))) | refine AW.block (h := ?_) | refine AW.skip (h := ?_)) | (first | refine t_normal ?_ | refine b_normal ?_) | (refine d_W (h := ?_) ; first | refine w1_step (h1 := by (simp only [ObK, aft, cond_true, cond_false]; repeat' (first | refine And.intro ?_ ?_ | ((refine d_AOs ?_; first| (refine d_bin (h := ?_) ; first | refine o_faddH (he := hw) (h := ?_) )) <;> exact AOs.nil rfl)))) (h2 := ?_) | refine w1_stepN (h1 := by (simp only [ObK, aft, cond_true, cond_false]; repeat' (first | refine And.intro ?_ ?_ | ((refine d_AOs ?_; first | refine o_store (ho := by exact o1) (hcs := by exact s1) (h := ?_)) <;> exact AOs.nil rfl)))) (h2 := ?_) | refine w1_nil (h := ?_) | refine w1_step (h2 := ?_) | refine w1_step (h1 := by (simp only [ObK, aft, cond_true, cond_false]; repeat' (first | refine And.intro ?_ ?_ | ((refine d_AOs ?_; first | refine o_load (hv := lp) (h := ?_) | refine o_load (hv := lq) (h := ?_) | refine o_load (hv := la) (h := ?_) | refine o_load (hv := lr) (h := ?_)) <;> exact AOs.nil rfl)))) (h2 := ?_)) | fail)
  all_goals first | exact ⟨kk - 1, by omega, k + 1, by omega, by rw [hK2]; rfl⟩ | (exfalso; first | omega | (simp_all; done))
include hj hne hb in
set_option maxHeartbeats 16000000 in
theorem sR0 {Q : Exit → St → Prop} {i kk : Nat} {O : List Value} (hi : i + kk = 4) (hi4 : i < 4) :
    AW Try.prog (roundOf Try.f44 0) (thenA (fun s2 => ∃ k', k' < kk ∧ ∃ i : Nat, i + k' = 4 ∧ keep [0, 2, 3, 4, 5, 6] s2 = ⟨281, [(0, .pointer (some ⟨j, 0, none⟩)), (2, .float .f32 (lsR h s S i)), (3, .pointer (some ⟨M.length, 0, none⟩)), (4, .pointer (some ⟨M.length + 1, 0, none⟩)), (5, .pointer (some ⟨M.length + 2, 0, none⟩)), (6, .int .i64 (i : Int))], M.set j (rfB j0 s t S) ++ [⟨tab 4 fun q => Value.float .f32 (if q < i then insF h s S q else 0), none, true⟩, ⟨O, none, true⟩, ⟨tab 4 fun q => Value.float .f32 (rrR h S q i), none, true⟩]⟩) Q) ⟨281, [(0, .pointer (some ⟨j, 0, none⟩)), (2, .float .f32 (lsR h s S i)), (3, .pointer (some ⟨M.length, 0, none⟩)), (4, .pointer (some ⟨M.length + 1, 0, none⟩)), (5, .pointer (some ⟨M.length + 2, 0, none⟩)), (6, .int .i64 (i : Int))], M.set j (rfB j0 s t S) ++ [⟨tab 4 fun q => Value.float .f32 (if q < i then insF h s S q else 0), none, true⟩, ⟨O, none, true⟩, ⟨tab 4 fun q => Value.float .f32 (rrR h S q i), none, true⟩]⟩ := by
  obtain ⟨J, hJ⟩ : ∃ J, J = tab 25 (rfV j0 s t S) := ⟨_, rfl⟩
  have eB : rfB j0 s t S = ⟨J, none, true⟩ := by rw [hJ]
  have lg : ldA .one (17 + i) J = some (.bool (S.g i)) := by rw [hJ]; exact fld_g rfl hi4 rfl
  cases hC : S.g i
  · have e1 : lsR h s S (i + 1) = lsR h s S i := by show (if _ then _ else _) = _; rw [hC]; rfl
    have e2 := ins_skip h s hC
    have e3 := rr_skip (h := h) hC
    rw [hC] at lg
    rw [eB]
    clear hJ eB
    unfold roundOf
    repeat' (first | (refine d_AOs (h := ?_) ; first | refine o_move (h := ?_) | refine o_assign (h := ?_) | refine AOs.nil (h := ?_) | (refine d_bin (h := ?_) ; first | refine o_addS (h := ?_) | refine o_lss (h := ?_)) | refine o_load (hv := lg) (h := ?_) | refine o_at (h := ?_) | refine o_field (h := ?_) | refine o_nil (h := ?_) | refine o_not (h := ?_)) | (refine d_AW (h := ?_) ; first | refine AW.seq (h := ?_) | refine AW.region (h := ?_) | (refine AW.cond (ht := (fun hc => ?_)) (hf := (fun hc => ?_)) <;> (try (with_reducible first | exact absurd hc Bool.false_ne_true | exact absurd hc.symm Bool.false_ne_true)) <;> (try simp only [decide_eq_true_eq, decide_eq_false_iff_not, Int.ofNat_inj, Bool.not_eq_true', Bool.not_eq_false', Int.not_lt, Int.not_le] at hc) <;> (try (exfalso; omega)) <;> (try (exact absurd hc (by decide)))) | refine AW.block (h := ?_) | refine AW.skip (h := ?_) | refine AW.exit (h := ?_)) | (first | refine t_normal ?_ | refine t_exit ?_ | refine b_exit ?_) | fail)
    all_goals first | exact ⟨kk - 1, by omega, i + 1, by omega, by rw [e1, e2, e3]; rfl⟩ | (exfalso; first | omega | (simp_all; done))
  · have lp : ldA .one 0 J = some (.pointer (some ⟨j0, 0, none⟩)) := by rw [hJ]; exact rf_ptr
    have ls : ldA .one (1 + i) J = some (.float .f32 (s i)) := by rw [hJ]; exact fld_s rfl hi4 rfl
    have lf : ldA .one (9 + i) J = some (.float .f32 (S.f i)) := by rw [hJ]; exact fld_f rfl hi4 rfl
    obtain ⟨Jn, hJn⟩ : ∃ Jn, Jn = tab 22 (jnJ n o h) := ⟨_, rfl⟩
    have hb2 : M[j0]? = some ⟨Jn, none, true⟩ := by rw [hJn]; exact hb
    have lq : ldA .one (18 + i) Jn = some (.float .f32 (h (18 + i))) := by rw [hJn]; exact jn_get (by omega) (by omega)
    have e2 := ins_step h s hC
    have e1 : lsR h s S (i + 1) = if flt .f32 (lsR h s S i) 0 || flt .f32 (inI h s S i) (lsR h s S i) then inI h s S i else lsR h s S i := by show (if _ then _ else _) = _; rw [hC]; rfl
    have ld1 : ldA .one i (tab 4 fun q => Value.float .f32 (if q < i + 1 then insF h s S q else 0)) = some (.float .f32 (inI h s S i)) := ld_tab hi4 (by rw [if_pos (by omega)]; unfold insF; rw [hC]; rfl)
    have st1 : (tab 4 fun q => Value.float .f32 (if q < i then insF h s S q else 0)).take i ++ cellsA (.float .f32 (inI h s S i)) ++ (tab 4 fun q => Value.float .f32 (if q < i then insF h s S q else 0)).drop (i + (cellsA (.float .f32 (inI h s S i))).length) = tab 4 fun q => .float .f32 (if q < i + 1 then insF h s S q else 0) := by
      rw [← e2]; exact st_tab1 hi4
    have o1 : i + 1 ≤ (tab 4 fun q => Value.float .f32 (if q < i then insF h s S q else 0)).length := by rw [tab_len]; omega
    have z0 := rr_0 (h := h) (S := S) (i := i)
    have z4 := rr_4 (h := h) (S := S) (i := i)
    rw [hC] at lg
    obtain ⟨w, hw⟩ : ∃ w, w = inI h s S i := ⟨_, rfl⟩
    have hw2 : fdiv .f32 (fsub .f32 (s i) (S.f i)) (h (18 + i)) = w := hw.symm
    rw [← hw] at e1 ld1 st1
    generalize (tab 4 fun q => Value.float .f32 (if q < i then insF h s S q else 0)) = K1 at *
    generalize hK2 : (tab 4 fun q => Value.float .f32 (if q < i + 1 then insF h s S q else 0)) = K2 at *
    generalize lsR h s S i = a at *
    clear hw e2
    rw [← z0]
    have rest : ∀ {kk2 : Nat} {k : Nat} {L : Nat} {Q : Exit → St → Prop}, k + kk2 = 4 → k < 4 → _ := fun {kk2 k L Q} h1 h2 => sR1 hj hne hb (s := s) (t := t) (S := S) (i := i) (k := k) (kk := kk2) (L := L) (I := K2) (O := O) (Q := Q) hi4 hC h1 h2
    rw [eB] at rest ⊢
    clear hJ eB hJn hb
    cases hA : flt .f32 a 0
    · cases hB : flt .f32 w a
      · rw [hA, hB] at e1
        have e1 : lsR h s S (i + 1) = a := e1
        unfold roundOf
        repeat' (first | (refine d_AOs (h := ?_) ; first | refine o_move (h := ?_) | refine o_assign (h := ?_) | refine AOs.nil (h := ?_) | (refine d_bin (h := ?_) ; first | refine o_fltC (h := ?_) | refine o_lss (h := ?_)) | (refine d_grd (h := ?_) ; first | refine g_yes (h := ?_)) | refine o_load (hv := lg) (h := ?_) | refine o_load (hv := ld1) (h := ?_) | refine o_at (h := ?_) | refine o_field (h := ?_) | refine o_nil (h := ?_) | refine o_pick (h := ?_) | refine o_not (h := ?_)) | (refine d_AW (h := ?_) ; first | refine AW.seq (h := ?_) | refine AW.region (h := ?_) | refine AW.openW1M (M.set j ⟨J, none, true⟩ ++ [⟨K1, none, true⟩, ⟨O, none, true⟩, ⟨tab 4 fun q => Value.float .f32 (if q < 0 then rrR h S q (i + 1) else rrR h S q i), none, true⟩]) 25 (M.set j ⟨J, none, true⟩ ++ [⟨K2, none, true⟩, ⟨O, none, true⟩, ⟨tab 4 fun q => Value.float .f32 (if q < 0 then rrR h S q (i + 1) else rrR h S q i), none, true⟩]) (h := ?_) | (refine AW.cond (ht := (fun hc => ?_)) (hf := (fun hc => ?_)) <;> (try (with_reducible first | exact absurd hc Bool.false_ne_true | exact absurd hc.symm Bool.false_ne_true)) <;> (try simp only [decide_eq_true_eq, decide_eq_false_iff_not, Int.ofNat_inj, Bool.not_eq_true', Bool.not_eq_false', Int.not_lt, Int.not_le] at hc) <;> (try (exfalso; omega)) <;> (try (exact absurd hc (by decide)))) | refine AW.block (h := ?_) | refine AW.skip (h := ?_)) | (first | refine t_normal ?_) | (refine d_W (h := ?_) ; first | refine w1_step (h1 := by (simp only [ObK, aft, cond_true, cond_false]; repeat' (first | refine And.intro ?_ ?_ | ((refine d_AOs ?_; first| (refine d_bin (h := ?_) ; first | refine o_fneS (h := ?_) | refine o_fneC (h := ?_) | refine o_feqC (h := ?_) | refine o_fltC (h := ?_) | refine o_fgtC (h := ?_) | refine o_fleC (h := ?_) | refine o_fgeC (h := ?_) | refine o_fdivH (he := hw2) (h := ?_) )) <;> exact AOs.nil rfl)))) (h2 := ?_) | refine w1_stepN (h1 := by (simp only [ObK, aft, cond_true, cond_false]; repeat' (first | refine And.intro ?_ ?_ | ((refine d_AOs ?_; first | refine o_store (ho := by exact o1) (hcs := by exact st1) (h := ?_)) <;> exact AOs.nil rfl)))) (h2 := ?_) | refine w1_nil (h := ?_) | refine w1_step (h2 := ?_) | refine w1_step (h1 := by (simp only [ObK, aft, cond_true, cond_false]; repeat' (first | refine And.intro ?_ ?_ | ((refine d_AOs ?_; first | refine o_load (hv := lg) (h := ?_) | refine o_load (hv := lp) (h := ?_) | refine o_load (hv := ls) (h := ?_) | refine o_load (hv := lf) (h := ?_) | refine o_load (hv := lq) (h := ?_) | refine o_load (hv := ld1) (h := ?_)) <;> exact AOs.nil rfl)))) (h2 := ?_)) | fail)
        all_goals try (exfalso; first | omega | (simp_all; done))
        refine AW.loopN [0, 2, 3, 4, 5, 6, 7] (fun kk2 st => ∃ k : Nat, k + kk2 = 4 ∧ st = ⟨281, [(0, .pointer (some ⟨j, 0, none⟩)), (2, .float .f32 a), (3, .pointer (some ⟨M.length, 0, none⟩)), (4, .pointer (some ⟨M.length + 1, 0, none⟩)), (5, .pointer (some ⟨M.length + 2, 0, none⟩)), (6, .int .i64 (i : Int)), (7, .int .i64 (k : Int))], M.set j ⟨J, none, true⟩ ++ [⟨K2, none, true⟩, ⟨O, none, true⟩, ⟨tab 4 fun q => Value.float .f32 (if q < k then rrR h S q (i + 1) else rrR h S q i), none, true⟩]⟩) 4 ⟨0, by omega, rfl⟩ ?_
        clear lg lp ls lf lq ld1 st1 o1
        rintro kk2 st ⟨k, hk, rfl⟩
        by_cases hk4 : k < 4
        · exact rest hk hk4
        · obtain rfl : k = 4 := by omega
          rw [z4]
          clear rest z4
          repeat' (first | (refine d_AOs (h := ?_) ; first | refine o_move (h := ?_) | refine o_assign (h := ?_) | refine AOs.nil (h := ?_) | (refine d_bin (h := ?_) ; first | refine o_addS (h := ?_) | refine o_lss (h := ?_))) | (refine d_AW (h := ?_) ; first | refine AW.seq (h := ?_) | refine AW.region (h := ?_) | (refine AW.cond (ht := (fun hc => ?_)) (hf := (fun hc => ?_)) <;> (try (with_reducible first | exact absurd hc Bool.false_ne_true | exact absurd hc.symm Bool.false_ne_true)) <;> (try simp only [decide_eq_true_eq, decide_eq_false_iff_not, Int.ofNat_inj, Bool.not_eq_true', Bool.not_eq_false', Int.not_lt, Int.not_le] at hc) <;> (try (exfalso; omega)) <;> (try (exact absurd hc (by decide)))) | refine AW.exit (h := ?_)) | (first | refine t_normal ?_ | refine t_exit ?_ | refine b_normal ?_ | refine b_exit ?_) | fail)
          all_goals first | exact ⟨kk - 1, by omega, i + 1, by omega, by rw [hK2, e1]; rfl⟩ | (exfalso; first | omega | (simp_all; done))
      · rw [hA, hB] at e1
        have e1 : lsR h s S (i + 1) = w := e1
        unfold roundOf
        repeat' (first | (refine d_AOs (h := ?_) ; first | refine o_move (h := ?_) | refine o_assign (h := ?_) | refine AOs.nil (h := ?_) | (refine d_bin (h := ?_) ; first | refine o_fltC (h := ?_) | refine o_lss (h := ?_)) | (refine d_grd (h := ?_) ; first | refine g_yes (h := ?_)) | refine o_load (hv := lg) (h := ?_) | refine o_load (hv := ld1) (h := ?_) | refine o_at (h := ?_) | refine o_field (h := ?_) | refine o_nil (h := ?_) | refine o_pick (h := ?_) | refine o_not (h := ?_)) | (refine d_AW (h := ?_) ; first | refine AW.seq (h := ?_) | refine AW.region (h := ?_) | refine AW.openW1M (M.set j ⟨J, none, true⟩ ++ [⟨K1, none, true⟩, ⟨O, none, true⟩, ⟨tab 4 fun q => Value.float .f32 (if q < 0 then rrR h S q (i + 1) else rrR h S q i), none, true⟩]) 25 (M.set j ⟨J, none, true⟩ ++ [⟨K2, none, true⟩, ⟨O, none, true⟩, ⟨tab 4 fun q => Value.float .f32 (if q < 0 then rrR h S q (i + 1) else rrR h S q i), none, true⟩]) (h := ?_) | (refine AW.cond (ht := (fun hc => ?_)) (hf := (fun hc => ?_)) <;> (try (with_reducible first | exact absurd hc Bool.false_ne_true | exact absurd hc.symm Bool.false_ne_true)) <;> (try simp only [decide_eq_true_eq, decide_eq_false_iff_not, Int.ofNat_inj, Bool.not_eq_true', Bool.not_eq_false', Int.not_lt, Int.not_le] at hc) <;> (try (exfalso; omega)) <;> (try (exact absurd hc (by decide)))) | refine AW.block (h := ?_) | refine AW.skip (h := ?_)) | (first | refine t_normal ?_) | (refine d_W (h := ?_) ; first | refine w1_step (h1 := by (simp only [ObK, aft, cond_true, cond_false]; repeat' (first | refine And.intro ?_ ?_ | ((refine d_AOs ?_; first| (refine d_bin (h := ?_) ; first | refine o_fneS (h := ?_) | refine o_fneC (h := ?_) | refine o_feqC (h := ?_) | refine o_fltC (h := ?_) | refine o_fgtC (h := ?_) | refine o_fleC (h := ?_) | refine o_fgeC (h := ?_) | refine o_fdivH (he := hw2) (h := ?_) )) <;> exact AOs.nil rfl)))) (h2 := ?_) | refine w1_stepN (h1 := by (simp only [ObK, aft, cond_true, cond_false]; repeat' (first | refine And.intro ?_ ?_ | ((refine d_AOs ?_; first | refine o_store (ho := by exact o1) (hcs := by exact st1) (h := ?_)) <;> exact AOs.nil rfl)))) (h2 := ?_) | refine w1_nil (h := ?_) | refine w1_step (h2 := ?_) | refine w1_step (h1 := by (simp only [ObK, aft, cond_true, cond_false]; repeat' (first | refine And.intro ?_ ?_ | ((refine d_AOs ?_; first | refine o_load (hv := lg) (h := ?_) | refine o_load (hv := lp) (h := ?_) | refine o_load (hv := ls) (h := ?_) | refine o_load (hv := lf) (h := ?_) | refine o_load (hv := lq) (h := ?_) | refine o_load (hv := ld1) (h := ?_)) <;> exact AOs.nil rfl)))) (h2 := ?_)) | fail)
        all_goals try (exfalso; first | omega | (simp_all; done))
        refine AW.loopN [0, 2, 3, 4, 5, 6, 7] (fun kk2 st => ∃ k : Nat, k + kk2 = 4 ∧ st = ⟨281, [(0, .pointer (some ⟨j, 0, none⟩)), (2, .float .f32 w), (3, .pointer (some ⟨M.length, 0, none⟩)), (4, .pointer (some ⟨M.length + 1, 0, none⟩)), (5, .pointer (some ⟨M.length + 2, 0, none⟩)), (6, .int .i64 (i : Int)), (7, .int .i64 (k : Int))], M.set j ⟨J, none, true⟩ ++ [⟨K2, none, true⟩, ⟨O, none, true⟩, ⟨tab 4 fun q => Value.float .f32 (if q < k then rrR h S q (i + 1) else rrR h S q i), none, true⟩]⟩) 4 ⟨0, by omega, rfl⟩ ?_
        clear lg lp ls lf lq ld1 st1 o1
        rintro kk2 st ⟨k, hk, rfl⟩
        by_cases hk4 : k < 4
        · exact rest hk hk4
        · obtain rfl : k = 4 := by omega
          rw [z4]
          clear rest z4
          repeat' (first | (refine d_AOs (h := ?_) ; first | refine o_move (h := ?_) | refine o_assign (h := ?_) | refine AOs.nil (h := ?_) | (refine d_bin (h := ?_) ; first | refine o_addS (h := ?_) | refine o_lss (h := ?_))) | (refine d_AW (h := ?_) ; first | refine AW.seq (h := ?_) | refine AW.region (h := ?_) | (refine AW.cond (ht := (fun hc => ?_)) (hf := (fun hc => ?_)) <;> (try (with_reducible first | exact absurd hc Bool.false_ne_true | exact absurd hc.symm Bool.false_ne_true)) <;> (try simp only [decide_eq_true_eq, decide_eq_false_iff_not, Int.ofNat_inj, Bool.not_eq_true', Bool.not_eq_false', Int.not_lt, Int.not_le] at hc) <;> (try (exfalso; omega)) <;> (try (exact absurd hc (by decide)))) | refine AW.exit (h := ?_)) | (first | refine t_normal ?_ | refine t_exit ?_ | refine b_normal ?_ | refine b_exit ?_) | fail)
          all_goals first | exact ⟨kk - 1, by omega, i + 1, by omega, by rw [hK2, e1]; rfl⟩ | (exfalso; first | omega | (simp_all; done))
    · rw [hA] at e1
      have e1 : lsR h s S (i + 1) = w := e1
      unfold roundOf
      repeat' (first | (refine d_AOs (h := ?_) ; first | refine o_move (h := ?_) | refine o_assign (h := ?_) | refine AOs.nil (h := ?_) | (refine d_bin (h := ?_) ; first | refine o_fltC (h := ?_) | refine o_lss (h := ?_)) | (refine d_grd (h := ?_) ; first | refine g_no (h := ?_)) | refine o_load (hv := lg) (h := ?_) | refine o_load (hv := ld1) (h := ?_) | refine o_at (h := ?_) | refine o_field (h := ?_) | refine o_nil (h := ?_) | refine o_pick (h := ?_) | refine o_not (h := ?_)) | (refine d_AW (h := ?_) ; first | refine AW.seq (h := ?_) | refine AW.region (h := ?_) | refine AW.openW1M (M.set j ⟨J, none, true⟩ ++ [⟨K1, none, true⟩, ⟨O, none, true⟩, ⟨tab 4 fun q => Value.float .f32 (if q < 0 then rrR h S q (i + 1) else rrR h S q i), none, true⟩]) 25 (M.set j ⟨J, none, true⟩ ++ [⟨K2, none, true⟩, ⟨O, none, true⟩, ⟨tab 4 fun q => Value.float .f32 (if q < 0 then rrR h S q (i + 1) else rrR h S q i), none, true⟩]) (h := ?_) | (refine AW.cond (ht := (fun hc => ?_)) (hf := (fun hc => ?_)) <;> (try (with_reducible first | exact absurd hc Bool.false_ne_true | exact absurd hc.symm Bool.false_ne_true)) <;> (try simp only [decide_eq_true_eq, decide_eq_false_iff_not, Int.ofNat_inj, Bool.not_eq_true', Bool.not_eq_false', Int.not_lt, Int.not_le] at hc) <;> (try (exfalso; omega)) <;> (try (exact absurd hc (by decide)))) | refine AW.block (h := ?_) | refine AW.skip (h := ?_)) | (first | refine t_normal ?_) | (refine d_W (h := ?_) ; first | refine w1_step (h1 := by (simp only [ObK, aft, cond_true, cond_false]; repeat' (first | refine And.intro ?_ ?_ | ((refine d_AOs ?_; first| (refine d_bin (h := ?_) ; first | refine o_fneS (h := ?_) | refine o_fneC (h := ?_) | refine o_feqC (h := ?_) | refine o_fltC (h := ?_) | refine o_fgtC (h := ?_) | refine o_fleC (h := ?_) | refine o_fgeC (h := ?_) | refine o_fdivH (he := hw2) (h := ?_) )) <;> exact AOs.nil rfl)))) (h2 := ?_) | refine w1_stepN (h1 := by (simp only [ObK, aft, cond_true, cond_false]; repeat' (first | refine And.intro ?_ ?_ | ((refine d_AOs ?_; first | refine o_store (ho := by exact o1) (hcs := by exact st1) (h := ?_)) <;> exact AOs.nil rfl)))) (h2 := ?_) | refine w1_nil (h := ?_) | refine w1_step (h2 := ?_) | refine w1_step (h1 := by (simp only [ObK, aft, cond_true, cond_false]; repeat' (first | refine And.intro ?_ ?_ | ((refine d_AOs ?_; first | refine o_load (hv := lg) (h := ?_) | refine o_load (hv := lp) (h := ?_) | refine o_load (hv := ls) (h := ?_) | refine o_load (hv := lf) (h := ?_) | refine o_load (hv := lq) (h := ?_) | refine o_load (hv := ld1) (h := ?_)) <;> exact AOs.nil rfl)))) (h2 := ?_)) | fail)
      all_goals try (exfalso; first | omega | (simp_all; done))
      refine AW.loopN [0, 2, 3, 4, 5, 6, 7] (fun kk2 st => ∃ k : Nat, k + kk2 = 4 ∧ st = ⟨281, [(0, .pointer (some ⟨j, 0, none⟩)), (2, .float .f32 w), (3, .pointer (some ⟨M.length, 0, none⟩)), (4, .pointer (some ⟨M.length + 1, 0, none⟩)), (5, .pointer (some ⟨M.length + 2, 0, none⟩)), (6, .int .i64 (i : Int)), (7, .int .i64 (k : Int))], M.set j ⟨J, none, true⟩ ++ [⟨K2, none, true⟩, ⟨O, none, true⟩, ⟨tab 4 fun q => Value.float .f32 (if q < k then rrR h S q (i + 1) else rrR h S q i), none, true⟩]⟩) 4 ⟨0, by omega, rfl⟩ ?_
      clear lg lp ls lf lq ld1 st1 o1
      rintro kk2 st ⟨k, hk, rfl⟩
      by_cases hk4 : k < 4
      · exact rest hk hk4
      · obtain rfl : k = 4 := by omega
        rw [z4]
        clear rest z4
        repeat' (first | (refine d_AOs (h := ?_) ; first | refine o_move (h := ?_) | refine o_assign (h := ?_) | refine AOs.nil (h := ?_) | (refine d_bin (h := ?_) ; first | refine o_addS (h := ?_) | refine o_lss (h := ?_))) | (refine d_AW (h := ?_) ; first | refine AW.seq (h := ?_) | refine AW.region (h := ?_) | (refine AW.cond (ht := (fun hc => ?_)) (hf := (fun hc => ?_)) <;> (try (with_reducible first | exact absurd hc Bool.false_ne_true | exact absurd hc.symm Bool.false_ne_true)) <;> (try simp only [decide_eq_true_eq, decide_eq_false_iff_not, Int.ofNat_inj, Bool.not_eq_true', Bool.not_eq_false', Int.not_lt, Int.not_le] at hc) <;> (try (exfalso; omega)) <;> (try (exact absurd hc (by decide)))) | refine AW.exit (h := ?_)) | (first | refine t_normal ?_ | refine t_exit ?_ | refine b_normal ?_ | refine b_exit ?_) | fail)
        all_goals first | exact ⟨kk - 1, by omega, i + 1, by omega, by rw [hK2, e1]; rfl⟩ | (exfalso; first | omega | (simp_all; done))
end
end Go.Proofs.Ytjghdagcmombnaa
