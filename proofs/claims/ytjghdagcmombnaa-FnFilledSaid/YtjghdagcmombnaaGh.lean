/- What a junction's ways want: the reference's. -/
import Derived.Test.YtjghdagcmombnaaGe
import Derived.Test.YtjghdagcmombnaaGa
import Derived.Test.YtjghdagcmombnaaJn
import Derived.Test.YtjghdagcmombnaaTab
import Derived.Test.YtjghdagcmombnaaSlice

namespace Go.Proofs.Ytjghdagcmombnaa
open Go.RowKit
attribute [local irreducible] AW AOs AO AQ AQW thenA inBlockA postA ACalls Pure
set_option linter.unusedSimpArgs false
set_option linter.unusedVariables false
set_option linter.unusedSectionVars false

theorem sl03Fits (s : Nat → Nat) (n : Nat) (hs : SnOk n s) (M : Mem) : Pure Try.prog 31 [foV s, .int .i64 (n : Int)] M (.bool true) := by
  refine pure_of Try.func31 Try.ntmps31 rfl rfl (by repeat' (first | exact Flat.bool _ | fail)) ?_
  simp only [envOf, Nat.zero_add, Nat.reduceAdd]
  repeat' (first | (refine d_AOs (h := ?_) ; first | refine o_assign (h := ?_) | refine AOs.nil (h := ?_) | refine o_box (h := ?_)) | (refine d_AW (h := ?_) ; first | refine AW.seq (h := ?_) | refine AW.region (h := ?_) | refine AW.block (h := ?_)) | (first | refine t_normal ?_) | fail)
  refine AW.loopN [1, 2, 5] (fun k st => ∃ i : Nat, i + k = 4 ∧ st = ⟨26, [(1, .int .i64 (n : Int)), (2, .pointer (some ⟨M.length, 0, none⟩)), (5, .int .i64 (i : Int))], M ++ [⟨tab 4 fun q => .float .f32 (s q), none, true⟩]⟩) 4 ⟨0, by omega, rfl⟩ ?_
  rintro k st ⟨i, hi, rfl⟩
  by_cases hin : i < 4
  · have hA := fun M' => sl01Amount (s i) M'
    rw [hs.am i hin] at hA
    by_cases hz : n ≤ i
    · have h0 := hs.zero i hz hin
      repeat' (first | (refine d_AOs (h := ?_) ; first | refine o_move (h := ?_) | refine o_assign (h := ?_) | refine AOs.nil (h := ?_) | (refine d_bin (h := ?_) ; first | refine o_addS (h := ?_) | refine o_lss (h := ?_) | refine o_geq (h := ?_) | refine o_fne (h := ?_)) | (refine d_grd (h := ?_) ; first | refine g_yes (h := ?_) | (refine g_true (h1 := (fun hg => ?_)) (h0 := (fun hg => ?_)) <;> (try rw [hg]) <;> (try simp only [decide_eq_true_eq, decide_eq_false_iff_not, Int.ofNat_inj, Bool.not_eq_true', Bool.not_eq_false', Int.not_lt, Int.not_le] at hg) <;> (try (exfalso; omega)) <;> (try (exact absurd hg (by decide))))) | refine o_call (hc := (hA _)) (h := ?_) | refine o_load (h := ?_) | refine o_at (h := ?_) | refine o_pick (h := ?_) | refine o_not (h := ?_)) | (refine d_AW (h := ?_) ; first | refine AW.seq (h := ?_) | refine AW.region (h := ?_) | (refine AW.cond (ht := (fun hc => ?_)) (hf := (fun hc => ?_)) <;> (try (with_reducible first | exact absurd hc Bool.false_ne_true | exact absurd hc.symm Bool.false_ne_true)) <;> (try simp only [decide_eq_true_eq, decide_eq_false_iff_not, Int.ofNat_inj, Bool.not_eq_true', Bool.not_eq_false', Int.not_lt, Int.not_le] at hc) <;> (try (exfalso; omega)) <;> (try (exact absurd hc (by decide)))) | refine AW.block (h := ?_) | refine AW.ret (h := ?_) | refine AW.skip (h := ?_)) | (first | refine t_normal ?_ | refine t_ret ?_ | refine b_normal ?_ | refine b_ret ?_) | (refine d_post (h := ?_) ; first | refine p_ret1 rfl (h := ?_)) | fail)
      all_goals first | exact ⟨k - 1, by omega, i + 1, by omega, rfl⟩ | (exfalso; omega) | (exfalso; simp_all; done)
    · repeat' (first | (refine d_AOs (h := ?_) ; first | refine o_move (h := ?_) | refine o_assign (h := ?_) | refine AOs.nil (h := ?_) | (refine d_bin (h := ?_) ; first | refine o_addS (h := ?_) | refine o_lss (h := ?_) | refine o_geq (h := ?_)) | (refine d_grd (h := ?_) ; first | refine g_yes (h := ?_) | refine g_no (h := ?_) | (refine g_true (h1 := (fun hg => ?_)) (h0 := (fun hg => ?_)) <;> (try rw [hg]) <;> (try simp only [decide_eq_true_eq, decide_eq_false_iff_not, Int.ofNat_inj, Bool.not_eq_true', Bool.not_eq_false', Int.not_lt, Int.not_le] at hg) <;> (try (exfalso; omega)) <;> (try (exact absurd hg (by decide))))) | refine o_call (hc := (hA _)) (h := ?_) | refine o_load (h := ?_) | refine o_at (h := ?_) | refine o_pick (h := ?_) | refine o_not (h := ?_)) | (refine d_AW (h := ?_) ; first | refine AW.seq (h := ?_) | refine AW.region (h := ?_) | (refine AW.cond (ht := (fun hc => ?_)) (hf := (fun hc => ?_)) <;> (try (with_reducible first | exact absurd hc Bool.false_ne_true | exact absurd hc.symm Bool.false_ne_true)) <;> (try simp only [decide_eq_true_eq, decide_eq_false_iff_not, Int.ofNat_inj, Bool.not_eq_true', Bool.not_eq_false', Int.not_lt, Int.not_le] at hc) <;> (try (exfalso; omega)) <;> (try (exact absurd hc (by decide)))) | refine AW.block (h := ?_) | refine AW.skip (h := ?_)) | (first | refine t_normal ?_ | refine b_normal ?_) | fail)
      all_goals first | exact ⟨k - 1, by omega, i + 1, by omega, rfl⟩ | (exfalso; omega) | (exfalso; simp_all; done)
  · repeat' (first | (refine d_AOs (h := ?_) ; first | refine o_move (h := ?_) | refine o_assign (h := ?_) | refine AOs.nil (h := ?_) | (refine d_bin (h := ?_) ; first | refine o_lss (h := ?_))) | (refine d_AW (h := ?_) ; first | refine AW.seq (h := ?_) | refine AW.region (h := ?_) | (refine AW.cond (ht := (fun hc => ?_)) (hf := (fun hc => ?_)) <;> (try (with_reducible first | exact absurd hc Bool.false_ne_true | exact absurd hc.symm Bool.false_ne_true)) <;> (try simp only [decide_eq_true_eq, decide_eq_false_iff_not, Int.ofNat_inj, Bool.not_eq_true', Bool.not_eq_false', Int.not_lt, Int.not_le] at hc) <;> (try (exfalso; omega)) <;> (try (exact absurd hc (by decide)))) | refine AW.ret (h := ?_) | refine AW.exit (h := ?_)) | (first | refine t_normal ?_ | refine t_exit ?_ | refine b_exit ?_) | (refine d_post (h := ?_) ; first | refine p_ret1 rfl (h := ?_)) | fail)
    all_goals rfl
set_option maxHeartbeats 8000000 in
theorem sl03Told (g : Nat → Nat) (hf : ∀ q, q < 16 → fin32 (g q) = true) (M : Mem) : Pure Try.prog 32 [flV g] M (.tuple [flV g, .int .i64 0].toArray) := by
  refine pure_of Try.func32 Try.ntmps32 rfl rfl (by repeat' (first | exact Flat.int _ _ | exact flat_nil | exact flat_tabL (fun _ => Flat.float _ _) | refine flat_tuple ?_ | refine flat_agg ?_ | refine flat_cons ?_ ?_ | fail)) ?_
  simp only [envOf, Nat.zero_add, Nat.reduceAdd]
  repeat' (first | (refine d_AOs (h := ?_) ; first | refine o_assign (h := ?_) | refine AOs.nil (h := ?_) | refine o_box (h := ?_) | refine o_alloc (h := ?_)) | (refine d_AW (h := ?_) ; first | refine AW.seq (h := ?_) | refine AW.region (h := ?_) | refine AW.block (h := ?_)) | (first | refine t_normal ?_) | fail)
  refine AW.loopN [1, 2, 4] (fun k st => ∃ i : Nat, i + k = 4 ∧ st = ⟨23, [(1, .pointer (some ⟨M.length, 0, none⟩)), (2, .pointer (some ⟨M.length + 1, 0, none⟩)), (4, .int .i64 (i : Int))], M ++ [⟨tab 16 fun q => .float .f32 (g q), none, true⟩, ⟨tab 16 fun _ => .float .f32 0, none, true⟩]⟩) 4 ⟨0, by omega, rfl⟩ ?_
  rintro k st ⟨i, hi, rfl⟩
  by_cases hin : i < 4
  · repeat' (first | (refine d_AOs (h := ?_) ; first | refine o_move (h := ?_) | refine o_assign (h := ?_) | refine AOs.nil (h := ?_) | (refine d_bin (h := ?_) ; first | refine o_lss (h := ?_))) | (refine d_AW (h := ?_) ; first | refine AW.seq (h := ?_) | refine AW.region (h := ?_) | (refine AW.cond (ht := (fun hc => ?_)) (hf := (fun hc => ?_)) <;> (try (with_reducible first | exact absurd hc Bool.false_ne_true | exact absurd hc.symm Bool.false_ne_true)) <;> (try simp only [decide_eq_true_eq, decide_eq_false_iff_not, Int.ofNat_inj, Bool.not_eq_true', Bool.not_eq_false', Int.not_lt, Int.not_le] at hc) <;> (try (exfalso; omega)) <;> (try (exact absurd hc (by decide)))) | refine AW.block (h := ?_) | refine AW.skip (h := ?_)) | (first | refine t_normal ?_) | fail)
    refine AW.loopN [1, 2, 4, 5] (fun k st => ∃ q : Nat, q + k = 4 ∧ st = ⟨23, [(1, .pointer (some ⟨M.length, 0, none⟩)), (2, .pointer (some ⟨M.length + 1, 0, none⟩)), (4, .int .i64 (i : Int)), (5, .int .i64 (q : Int))], M ++ [⟨tab 16 fun q => .float .f32 (g q), none, true⟩, ⟨tab 16 fun _ => .float .f32 0, none, true⟩]⟩) 4 ⟨0, by omega, rfl⟩ ?_
    rintro k2 st ⟨q, hqk, rfl⟩
    by_cases hqn : q < 4
    · have hF := fun M' => sl01Finite (g (i * 4 + q)) M'
      rw [fin_ffin, show fin32 (g (i * 4 + q)) = true from hf _ (by omega)] at hF
      repeat' (first | (refine d_AOs (h := ?_) ; first | refine o_move (h := ?_) | refine o_assign (h := ?_) | refine AOs.nil (h := ?_) | (refine d_bin (h := ?_) ; first | refine o_addS (h := ?_) | refine o_lss (h := ?_)) | refine o_call (hc := (hF _)) (h := ?_) | refine o_load (h := ?_) | refine o_at (h := ?_) | refine o_not (h := ?_)) | (refine d_AW (h := ?_) ; first | refine AW.seq (h := ?_) | refine AW.region (h := ?_) | (refine AW.cond (ht := (fun hc => ?_)) (hf := (fun hc => ?_)) <;> (try (with_reducible first | exact absurd hc Bool.false_ne_true | exact absurd hc.symm Bool.false_ne_true)) <;> (try simp only [decide_eq_true_eq, decide_eq_false_iff_not, Int.ofNat_inj, Bool.not_eq_true', Bool.not_eq_false', Int.not_lt, Int.not_le] at hc) <;> (try (exfalso; omega)) <;> (try (exact absurd hc (by decide)))) | refine AW.block (h := ?_) | refine AW.skip (h := ?_)) | (first | refine t_normal ?_ | refine b_normal ?_) | fail)
      all_goals first | exact ⟨k2 - 1, by omega, q + 1, by omega, rfl⟩ | (exfalso; simp at hc; done)
    · obtain rfl : q = 4 := by omega
      repeat' (first | (refine d_AOs (h := ?_) ; first | refine o_move (h := ?_) | refine o_assign (h := ?_) | refine AOs.nil (h := ?_) | (refine d_bin (h := ?_) ; first | refine o_addS (h := ?_) | refine o_lss (h := ?_))) | (refine d_AW (h := ?_) ; first | refine AW.seq (h := ?_) | refine AW.region (h := ?_) | (refine AW.cond (ht := (fun hc => ?_)) (hf := (fun hc => ?_)) <;> (try (with_reducible first | exact absurd hc Bool.false_ne_true | exact absurd hc.symm Bool.false_ne_true)) <;> (try simp only [decide_eq_true_eq, decide_eq_false_iff_not, Int.ofNat_inj, Bool.not_eq_true', Bool.not_eq_false', Int.not_lt, Int.not_le] at hc) <;> (try (exfalso; omega)) <;> (try (exact absurd hc (by decide)))) | refine AW.exit (h := ?_)) | (first | refine t_normal ?_ | refine t_exit ?_ | refine b_normal ?_ | refine b_exit ?_) | fail)
      all_goals exact ⟨k - 1, by omega, i + 1, by omega, rfl⟩
  · repeat' (first | (refine d_AOs (h := ?_) ; first | refine o_move (h := ?_) | refine o_assign (h := ?_) | refine AOs.nil (h := ?_) | (refine d_bin (h := ?_) ; first | refine o_lss (h := ?_)) | refine o_store (hw := by exact whole_tab (fun i => rfl)) (hcs := by exact st_all (by rfl)) (h := ?_) | refine o_load (h := ?_)) | (refine d_AW (h := ?_) ; first | refine AW.seq (h := ?_) | refine AW.region (h := ?_) | (refine AW.cond (ht := (fun hc => ?_)) (hf := (fun hc => ?_)) <;> (try (with_reducible first | exact absurd hc Bool.false_ne_true | exact absurd hc.symm Bool.false_ne_true)) <;> (try simp only [decide_eq_true_eq, decide_eq_false_iff_not, Int.ofNat_inj, Bool.not_eq_true', Bool.not_eq_false', Int.not_lt, Int.not_le] at hc) <;> (try (exfalso; omega)) <;> (try (exact absurd hc (by decide)))) | refine AW.ret (h := ?_) | refine AW.exit (h := ?_)) | (first | refine t_normal ?_ | refine t_exit ?_ | refine b_exit ?_) | (refine d_post (h := ?_) ; first | refine p_ret2 rfl (h := ?_)) | fail)
    all_goals rfl
section
variable {n o : Nat} {h s : Nat → Nat} (hP : jnP (n : Int) (o : Int) h) (hn : 1 ≤ n ∧ n ≤ 4) (hs : SnOk n s) (hf : ∀ q, q < 16 → fin32 (wnF s h q) = true)
include hP hn hs hf
set_option maxHeartbeats 16000000 in
theorem sWantsOf (M : Mem) : Pure Try.prog 15 [jnV (n : Int) (o : Int) h, foV s] M (.tuple [flV (wnF s h), .int .i64 0].toArray) := by
  refine pure_of Try.func15 Try.ntmps15 rfl rfl (by repeat' (first | exact Flat.int _ _ | exact flat_nil | exact flat_tabL (fun _ => Flat.float _ _) | refine flat_tuple ?_ | refine flat_agg ?_ | refine flat_cons ?_ ?_ | fail)) ?_
  have hK := fun M' j h' => sl03Ok (n : Int) (o : Int) h j true M' h'
  rw [decide_eq_true hP] at hK
  have hF := fun M' => sl03Fits s n hs M'
  have hT := fun M' => sl03Told (wnF s h) hf M'
  clear hf hP
  simp only [envOf, Nat.zero_add, Nat.reduceAdd]
  repeat' (first | (refine d_AOs (h := ?_) ; first | refine o_assign (h := ?_) | refine AOs.nil (h := ?_) | refine o_build (cs := tab 16 fun _ => .float .f32 0) (hf := by rfl) (h := ?_) | refine o_load (hv := jn_ld0) (h := ?_) | refine o_call (hc := (hK _ _ (by first | (simp only [mem_tail, mem_tail0, List.getElem?_cons_zero, List.getElem?_cons_succ]; first | done | rfl) | exact mem_head (by assumption) | assumption | (simp only [mem_tailS, mem_tailS0, List.getElem?_cons_zero, List.getElem?_cons_succ]; first | done | rfl) | exact mem_set1 (by assumption) | exact mem_set0 (by assumption) | exact mem_setN1 (by assumption) (by assumption) | exact mem_setN (by assumption) (by assumption)))) (h := ?_) | refine o_call (hc := (hF _)) (h := ?_) | refine o_load (h := ?_) | refine o_field (h := ?_) | refine o_not (h := ?_) | refine o_store (h := ?_) | refine o_box (h := ?_) | refine o_alloc (h := ?_)) | (refine d_AW (h := ?_) ; first | refine AW.seq (h := ?_) | refine AW.region (h := ?_) | (refine AW.cond (ht := (fun hc => ?_)) (hf := (fun hc => ?_)) <;> (try (with_reducible first | exact absurd hc Bool.false_ne_true | exact absurd hc.symm Bool.false_ne_true)) <;> (try simp only [decide_eq_true_eq, decide_eq_false_iff_not, Int.ofNat_inj, Bool.not_eq_true', Bool.not_eq_false', Int.not_lt, Int.not_le] at hc) <;> (try (exfalso; omega)) <;> (try (exact absurd hc (by decide)))) | refine AW.block (h := ?_) | refine AW.skip (h := ?_)) | (first | refine t_normal ?_) | fail)
  all_goals try (exfalso; simp at hc; done)
  obtain ⟨J, hJ⟩ : ∃ J, J = tab 22 (jnJ (n : Int) (o : Int) h) := ⟨_, rfl⟩
  refine AW.loopN [2, 3, 4, 6, 7] (fun k st => ∃ i : Nat, i + k = 4 ∧ st = ⟨45, [(2, .pointer (some ⟨M.length, 0, none⟩)), (3, .pointer (some ⟨M.length + 1, 0, none⟩)), (4, .pointer (some ⟨M.length + 2, 0, none⟩)), (6, .pointer (some ⟨M.length + 3, 0, none⟩)), (7, .int .i64 (i : Int))], M ++ [⟨J, none, true⟩, ⟨tab 4 fun q => .float .f32 (s q), none, true⟩, ⟨tab 16 fun _ => .float .f32 0, none, true⟩, ⟨tab 16 fun q => .float .f32 (if q < i * 4 then wnF s h q else 0), none, true⟩]⟩) 4 ⟨0, by omega, by rw [hJ]; rfl⟩ ?_
  rintro k st ⟨i, hi, rfl⟩
  by_cases hin : i < 4
  · repeat' (first | (refine d_AOs (h := ?_) ; first | refine o_move (h := ?_) | refine o_assign (h := ?_) | refine AOs.nil (h := ?_) | (refine d_bin (h := ?_) ; first | refine o_lss (h := ?_))) | (refine d_AW (h := ?_) ; first | refine AW.seq (h := ?_) | refine AW.region (h := ?_) | (refine AW.cond (ht := (fun hc => ?_)) (hf := (fun hc => ?_)) <;> (try (with_reducible first | exact absurd hc Bool.false_ne_true | exact absurd hc.symm Bool.false_ne_true)) <;> (try simp only [decide_eq_true_eq, decide_eq_false_iff_not, Int.ofNat_inj, Bool.not_eq_true', Bool.not_eq_false', Int.not_lt, Int.not_le] at hc) <;> (try (exfalso; omega)) <;> (try (exact absurd hc (by decide)))) | refine AW.block (h := ?_) | refine AW.skip (h := ?_)) | (first | refine t_normal ?_) | fail)
    refine AW.loopN [2, 3, 4, 6, 7, 8] (fun k st => ∃ q : Nat, q + k = 4 ∧ st = ⟨45, [(2, .pointer (some ⟨M.length, 0, none⟩)), (3, .pointer (some ⟨M.length + 1, 0, none⟩)), (4, .pointer (some ⟨M.length + 2, 0, none⟩)), (6, .pointer (some ⟨M.length + 3, 0, none⟩)), (7, .int .i64 (i : Int)), (8, .int .i64 (q : Int))], M ++ [⟨J, none, true⟩, ⟨tab 4 fun q => .float .f32 (s q), none, true⟩, ⟨tab 16 fun _ => .float .f32 0, none, true⟩, ⟨tab 16 fun p => .float .f32 (if p < i * 4 + q then wnF s h p else 0), none, true⟩]⟩) 4 ⟨0, by omega, rfl⟩ ?_
    rintro k2 st ⟨q, hqk, rfl⟩
    by_cases hqn : q < 4
    · have hst := step_tab (N := 16) (i := i * 4 + q) (f := wnF s h) (v := fmul .f32 (s i) (jA h i q)) (by unfold wnF jA; rw [wn_div hqn])
      have hld : ldA .one (2 + i * 4 + q) J = some (.float .f32 (jA h i q)) := by rw [hJ]; exact jn_ldA hin hqn
      clear hJ
      repeat' (first | (refine d_AOs (h := ?_) ; first | refine o_move (h := ?_) | refine o_assign (h := ?_) | refine AOs.nil (h := ?_) | (refine d_bin (h := ?_) ; first | refine o_addS (h := ?_) | refine o_lss (h := ?_))) | (refine d_AW (h := ?_) ; first | refine AW.seq (h := ?_) | refine AW.region (h := ?_) | refine AW.openW1M (M ++ [⟨J, none, true⟩, ⟨tab 4 fun q => .float .f32 (s q), none, true⟩, ⟨tab 16 fun _ => .float .f32 0, none, true⟩, ⟨tab 16 fun p => .float .f32 (if p < i * 4 + q then wnF s h p else 0), none, true⟩]) 14 (M ++ [⟨J, none, true⟩, ⟨tab 4 fun q => .float .f32 (s q), none, true⟩, ⟨tab 16 fun _ => .float .f32 0, none, true⟩, ⟨tab 16 (fun p => if p = i * 4 + q then Value.float .f32 (fmul .f32 (s i) (jA h i q)) else (fun p => .float .f32 (if p < i * 4 + q then wnF s h p else 0)) p), none, true⟩]) (h := ?_) | (refine AW.cond (ht := (fun hc => ?_)) (hf := (fun hc => ?_)) <;> (try (with_reducible first | exact absurd hc Bool.false_ne_true | exact absurd hc.symm Bool.false_ne_true)) <;> (try simp only [decide_eq_true_eq, decide_eq_false_iff_not, Int.ofNat_inj, Bool.not_eq_true', Bool.not_eq_false', Int.not_lt, Int.not_le] at hc) <;> (try (exfalso; omega)) <;> (try (exact absurd hc (by decide)))) | refine AW.block (h := ?_) | refine AW.skip (h := ?_)) | (first | refine t_normal ?_ | refine b_normal ?_) | (refine d_W (h := ?_) ; first | refine w1_nil (h := ?_) | refine w1_stepN (h2 := ?_) | refine w1_step (h2 := ?_) | refine w1_step (h1 := by (simp only [ObK, aft, cond_true, cond_false]; repeat' (first | refine And.intro ?_ ?_ | ((refine d_AOs ?_; first | refine o_load (hv := hld) (h := ?_)) <;> exact AOs.nil rfl)))) (h2 := ?_)) | fail)
      all_goals exact ⟨k2 - 1, by omega, q + 1, by omega, by rw [← Nat.add_assoc, ← hst]; rfl⟩
    · obtain rfl : q = 4 := by omega
      repeat' (first | (refine d_AOs (h := ?_) ; first | refine o_move (h := ?_) | refine o_assign (h := ?_) | refine AOs.nil (h := ?_) | (refine d_bin (h := ?_) ; first | refine o_addS (h := ?_) | refine o_lss (h := ?_))) | (refine d_AW (h := ?_) ; first | refine AW.seq (h := ?_) | refine AW.region (h := ?_) | (refine AW.cond (ht := (fun hc => ?_)) (hf := (fun hc => ?_)) <;> (try (with_reducible first | exact absurd hc Bool.false_ne_true | exact absurd hc.symm Bool.false_ne_true)) <;> (try simp only [decide_eq_true_eq, decide_eq_false_iff_not, Int.ofNat_inj, Bool.not_eq_true', Bool.not_eq_false', Int.not_lt, Int.not_le] at hc) <;> (try (exfalso; omega)) <;> (try (exact absurd hc (by decide)))) | refine AW.exit (h := ?_)) | (first | refine t_normal ?_ | refine t_exit ?_ | refine b_normal ?_ | refine b_exit ?_) | fail)
      all_goals exact ⟨k - 1, by omega, i + 1, by omega, by rw [Nat.add_mul, Nat.one_mul]; rfl⟩
  · obtain rfl : i = 4 := by omega
    have e16 : (tab 16 fun q => Value.float .f32 (if q < 4 * 4 then wnF s h q else 0)) = tab 16 fun q => .float .f32 (wnF s h q) := full_tab
    rw [e16]
    repeat' (first | (refine d_AOs (h := ?_) ; first | refine o_move (h := ?_) | refine o_assign (h := ?_) | refine AOs.nil (h := ?_) | (refine d_bin (h := ?_) ; first | refine o_lss (h := ?_)) | refine o_call (hc := (hT _)) (h := ?_) | refine o_store (hw := by exact whole_tab (fun i => rfl)) (hcs := by exact st_all (by rfl)) (h := ?_) | refine o_load (h := ?_) | refine o_extract (h := ?_)) | (refine d_AW (h := ?_) ; first | refine AW.seq (h := ?_) | refine AW.region (h := ?_) | (refine AW.cond (ht := (fun hc => ?_)) (hf := (fun hc => ?_)) <;> (try (with_reducible first | exact absurd hc Bool.false_ne_true | exact absurd hc.symm Bool.false_ne_true)) <;> (try simp only [decide_eq_true_eq, decide_eq_false_iff_not, Int.ofNat_inj, Bool.not_eq_true', Bool.not_eq_false', Int.not_lt, Int.not_le] at hc) <;> (try (exfalso; omega)) <;> (try (exact absurd hc (by decide)))) | refine AW.ret (h := ?_) | refine AW.exit (h := ?_)) | (first | refine t_normal ?_ | refine t_exit ?_ | refine b_exit ?_) | (refine d_post (h := ?_) ; first | refine p_ret2 rfl (h := ?_)) | fail)
    all_goals rfl
variable (hfc : ∀ k, k < 4 → fin32 (clF (wnF s h) k) = true)
include hfc
end
end Go.Proofs.Ytjghdagcmombnaa

/- Junctions that are made or changed: even ones, priorities. -/
namespace Go.Proofs.Ytjghdagcmombnaa
open Go.RowKit
attribute [local irreducible] AW AOs AO AQ AQW thenA inBlockA postA ACalls Pure
set_option linter.unusedSimpArgs false
set_option linter.unusedVariables false
set_option linter.unusedSectionVars false

section
variable {P : Program} {ops l : List Oper} {K : St → Prop} {n : Nat} {t : Env} {m0 m1 : Mem} {d ty : Nat} {pos : String} {af : Array Edge} {op : Op} {p : Nat}
end
section
variable {a b : Int} {h : Nat → Nat}
end
section
variable {n o : Nat} {h : Nat → Nat} (hP : jnP (n : Int) (o : Int) h)
include hP
end
end Go.Proofs.Ytjghdagcmombnaa

/- Copies of junctions. -/
namespace Go.Proofs.Ytjghdagcmombnaa
open Go.RowKit
attribute [local irreducible] AW AOs AO AQ AQW thenA inBlockA postA ACalls Pure
set_option linter.unusedSimpArgs false
set_option linter.unusedVariables false
set_option linter.unusedSectionVars false

end Go.Proofs.Ytjghdagcmombnaa

/- Junctions that are the same; drawn numbers; nearness. -/
namespace Go.Proofs.Ytjghdagcmombnaa
open Go.RowKit
attribute [local irreducible] AW AOs AO AQ AQW thenA inBlockA postA ACalls Pure
set_option linter.unusedSimpArgs false
set_option linter.unusedVariables false
set_option linter.unusedSectionVars false

section
variable {a b : Int} {h : Nat → Nat}
end
/-! ### Nearness -/
def farG (d : Nat) : Nat := if flt .f32 d 0 = true then fneg .f32 d else d
theorem sFarOf2 (d : Nat) (hd : fnan .f32 d = false) (M : Mem) : Pure Try.prog 29 [.float .f32 d] M (.float .f32 (farG d)) := by
  refine pure_of Try.func29 Try.ntmps29 rfl rfl (by repeat' (first | exact Flat.float _ _ | fail)) ?_
  unfold farG
  simp only [envOf, Nat.zero_add, Nat.reduceAdd]
  repeat' (first | (refine d_AOs (h := ?_) ; first | refine o_move (h := ?_) | refine o_assign (h := ?_) | refine AOs.nil (h := ?_) | (refine d_bin (h := ?_) ; first | refine o_flt (h := ?_)) | refine o_fneg (h := ?_)) | (refine d_AW (h := ?_) ; first | refine AW.seq (h := ?_) | refine AW.region (h := ?_) | (refine AW.cond (ht := (fun hc => ?_)) (hf := (fun hc => ?_)) <;> (try (with_reducible first | exact absurd hc Bool.false_ne_true | exact absurd hc.symm Bool.false_ne_true)) <;> (try simp only [decide_eq_true_eq, decide_eq_false_iff_not, Int.ofNat_inj, Bool.not_eq_true', Bool.not_eq_false', Int.not_lt, Int.not_le] at hc) <;> (try (exfalso; omega)) <;> (try (exact absurd hc (by decide)))) | refine AW.ret (h := ?_) | refine AW.skip (h := ?_)) | (first | refine t_normal ?_ | refine t_ret ?_) | (refine d_post (h := ?_) ; first | refine p_ret1 rfl (h := ?_)) | fail)
  · rw [if_pos hc]
  · rw [if_neg (by rw [hc]; simp)]
theorem lf6 {x y z : Nat} (hn : fnan .f32 (fsub .f32 x y) = false) (he : fle .f32 (farG (fsub .f32 x y)) z = true) (M : Mem) : Pure Try.prog 14 [.float .f32 x, .float .f32 y, .float .f32 z] M (.bool true) := by
  refine pure_of Try.func14 Try.ntmps14 rfl rfl (by repeat' (first | exact Flat.bool _ | fail)) ?_
  have hF := fun M' => sFarOf2 (fsub .f32 x y) hn M'
  rw [← he]
  clear he
  generalize farG (fsub .f32 x y) = r at *
  simp only [envOf, Nat.zero_add, Nat.reduceAdd]
  repeat' (first | (refine d_AOs (h := ?_) ; first | refine o_move (h := ?_) | refine o_assign (h := ?_) | refine AOs.nil (h := ?_) | (refine d_bin (h := ?_) ; first | refine o_fle (h := ?_) | refine o_fsub (h := ?_)) | refine o_call (hc := (hF _)) (h := ?_)) | (refine d_AW (h := ?_) ; first | refine AW.seq (h := ?_) | refine AW.region (h := ?_) | refine AW.ret (h := ?_)) | (first | refine t_normal ?_) | (refine d_post (h := ?_) ; first | refine p_ret1 rfl (h := ?_)) | fail)
  all_goals rfl
/-! ### Drawn numbers -/
section
variable (a : Option Addr) (n cp : Nat) (cd : Nat → Int)
def p6F (n : Nat) (cd : Nat → Int) (m q : Nat) : Nat := if q < m then shw (pkV n cd (plS n cd (0, 0) q) 33) else 0
set_option maxHeartbeats 4000000 in
theorem sP6FourM (hcd : ∀ q, 0 ≤ cd q ∧ cd q ≤ 255) (hn : n ≤ 1048576) (m : Nat) (hm : m ≤ 4) (M : Mem) (hS : SlAt M a n (tab n fun q => .int .u8 (cd q))) :
    Pure Try.prog 6 [.slice a n cp, .int .i64 (m : Int)] M (foV (p6F n cd m)) := by
  refine pure_of Try.func6 Try.ntmps6 rfl rfl (by repeat' (first | exact flat_tabL (fun _ => Flat.float _ _) | refine flat_agg ?_ | fail)) ?_
  simp only [envOf, Nat.zero_add, Nat.reduceAdd]
  repeat' (first | (refine d_AOs (h := ?_) ; first | refine o_move (h := ?_) | refine o_assign (h := ?_) | refine AOs.nil (h := ?_) | refine o_callA (hc := (sfrom a n cp _)) (h := ?_) | refine o_build (cs := tab 4 fun _ => .float .f32 0) (hf := by rfl) (h := ?_) | refine o_store (h := ?_) | refine o_alloc (h := ?_)) | (refine d_AW (h := ?_) ; first | refine AW.seq (h := ?_) | refine AW.region (h := ?_) | refine AW.block (h := ?_)) | (first | refine t_normal ?_) | fail)
  refine AW.loopN [1, 4, 5, 6, 7] (fun k st => ∃ i : Nat, i + k = m ∧ st = ⟨27, [(1, .int .i64 (m : Int)), (4, .pointer (some ⟨M.length, 0, none⟩)), (5, .pointer (some ⟨M.length + 1, 0, none⟩)), (6, .pointer (some ⟨M.length + 2, 0, none⟩)), (7, .int .i64 (i : Int))], M ++ [⟨tab 4 fun _ => .float .f32 0, none, true⟩, srcB a n cp (plS n cd (0, 0) i), ⟨tab 4 fun q => .float .f32 (if q < i then shw (pkV n cd (plS n cd (0, 0) q) 33) else 0), none, true⟩]⟩) m ⟨0, by omega, rfl⟩ ?_
  rintro k st ⟨i, hi, rfl⟩
  have hat5 := plS_at n cd (0, 0) i
  have hat6 : (plS n cd (0, 0) i).1 ≤ i := by simpa using hat5
  by_cases hin : i < m
  · have pa := fun j M' h1 h2 => spick a n cp cd hcd hn (plS n cd (0, 0) i) 33 (by omega) j M' (by omega) h1 h2
    have e1 : pkS n cd (plS n cd (0, 0) i) 33 = plS n cd (0, 0) (i + 1) := rfl
    have e2 := step_tab (N := 4) (i := i) (f := fun q => shw (pkV n cd (plS n cd (0, 0) q) 33)) (v := shw (pkV n cd (plS n cd (0, 0) i) 33)) rfl
    have bw := pkV_bd (n := n) (cd := cd) (plS n cd (0, 0) i) (m := 33) (by omega)
    rw [e1] at pa
    repeat' (first | (refine d_AOs (h := ?_) ; first | refine o_move (h := ?_) | refine o_assign (h := ?_) | refine AOs.nil (h := ?_) | (refine d_bin (h := ?_) ; first | refine o_addS (h := ?_) | refine o_lss (h := ?_) | refine o_fdiv (h := ?_)) | (refine d_grd (h := ?_) ; first | refine g_yes (h := ?_) | (refine g_true (h1 := (fun hg => ?_)) (h0 := (fun hg => ?_)) <;> (try rw [hg]) <;> (try simp only [decide_eq_true_eq, decide_eq_false_iff_not, Int.ofNat_inj, Bool.not_eq_true', Bool.not_eq_false', Int.not_lt, Int.not_le] at hg) <;> (try (exfalso; omega)) <;> (try (exact absurd hg (by decide))))) | refine o_callM (hc := (pa _ _ (by first | (simp only [mem_tail, mem_tail0, List.getElem?_cons_zero, List.getElem?_cons_succ]; first | done | rfl) | exact mem_head (by assumption) | assumption | (simp only [mem_tailS, mem_tailS0, List.getElem?_cons_zero, List.getElem?_cons_succ]; first | done | rfl) | exact mem_set1 (by assumption) | exact mem_set0 (by assumption) | exact mem_setN1 (by assumption) (by assumption) | exact mem_setN (by assumption) (by assumption)) (by first | exact hS | exact hS.append))) (h := ?_) | refine o_at (h := ?_) | refine o_pick (h := ?_) | refine o_store (h := ?_) | refine o_fofInt (h := ?_)) | (refine d_AW (h := ?_) ; first | refine AW.seq (h := ?_) | refine AW.region (h := ?_) | (refine AW.cond (ht := (fun hc => ?_)) (hf := (fun hc => ?_)) <;> (try (with_reducible first | exact absurd hc Bool.false_ne_true | exact absurd hc.symm Bool.false_ne_true)) <;> (try simp only [decide_eq_true_eq, decide_eq_false_iff_not, Int.ofNat_inj, Bool.not_eq_true', Bool.not_eq_false', Int.not_lt, Int.not_le] at hc) <;> (try (exfalso; omega)) <;> (try (exact absurd hc (by decide)))) | refine AW.block (h := ?_) | refine AW.skip (h := ?_)) | (first | refine t_normal ?_ | refine b_normal ?_) | fail)
    all_goals first | (exact ⟨k - 1, by omega, i + 1, by omega, by rw [← e2]; rfl⟩) | (exfalso; omega)
  · obtain rfl : i = m := by omega
    repeat' (first | (refine d_AOs (h := ?_) ; first | refine o_move (h := ?_) | refine AOs.nil (h := ?_) | (refine d_bin (h := ?_) ; first | refine o_lss (h := ?_)) | (refine d_grd (h := ?_) ; first | refine g_no (h := ?_) | (refine g_true (h1 := (fun hg => ?_)) (h0 := (fun hg => ?_)) <;> (try rw [hg]) <;> (try simp only [decide_eq_true_eq, decide_eq_false_iff_not, Int.ofNat_inj, Bool.not_eq_true', Bool.not_eq_false', Int.not_lt, Int.not_le] at hg) <;> (try (exfalso; omega)) <;> (try (exact absurd hg (by decide))))) | refine o_load (h := ?_) | refine o_pick (h := ?_) | refine o_store (h := ?_)) | (refine d_AW (h := ?_) ; first | refine AW.seq (h := ?_) | refine AW.region (h := ?_) | (refine AW.cond (ht := (fun hc => ?_)) (hf := (fun hc => ?_)) <;> (try (with_reducible first | exact absurd hc Bool.false_ne_true | exact absurd hc.symm Bool.false_ne_true)) <;> (try simp only [decide_eq_true_eq, decide_eq_false_iff_not, Int.ofNat_inj, Bool.not_eq_true', Bool.not_eq_false', Int.not_lt, Int.not_le] at hc) <;> (try (exfalso; omega)) <;> (try (exact absurd hc (by decide)))) | refine AW.ret (h := ?_) | refine AW.exit (h := ?_)) | (first | refine t_normal ?_ | refine t_exit ?_ | refine b_exit ?_) | (refine d_post (h := ?_) ; first | refine p_cell1 rfl (h := ?_)) | fail)
    all_goals first | rfl | (exfalso; omega)
end
end Go.Proofs.Ytjghdagcmombnaa
