/- Flows of junctions: the program's. -/
import Derived.Test.YtjghdagcmombnaaGc

namespace Go.Proofs.Ytjghdagcmombnaa
open Go.RowKit
attribute [local irreducible] AW AOs AO AQ AQW thenA inBlockA postA ACalls Pure
set_option linter.unusedSimpArgs false
set_option linter.unusedVariables false
set_option linter.unusedSectionVars false

abbrev foV (g : Nat → Nat) : Value := .agg (tab 4 fun q => .float .f32 (g q)).toArray
abbrev flV (g : Nat → Nat) : Value := .agg (tab 16 fun q => .float .f32 (g q)).toArray
def wnF (s h : Nat → Nat) (q : Nat) : Nat := fmul .f32 (s (q / 4)) (h (2 + q))
def clF (g : Nat → Nat) (k : Nat) : Nat := fadd .f32 (fadd .f32 (fadd .f32 (g k) (g (4 + k))) (g (8 + k))) (g (12 + k))
def rwF (g : Nat → Nat) (i : Nat) : Nat := jSum (fun k => g (i * 4 + k)) 3
theorem step_tab {N i : Nat} {f : Nat → Nat} {v : Nat} (hv : f i = v) : tab N (fun q => if q = i then Value.float .f32 v else (fun q => .float .f32 (if q < i then f q else 0)) q) = tab N fun q => .float .f32 (if q < i + 1 then f q else 0) := tab_congr fun q _ => by
  by_cases h : q = i
  · subst h; rw [if_pos rfl, if_pos (by omega), hv]
  · rw [if_neg h]
    show Value.float .f32 (if q < i then f q else 0) = _
    by_cases h2 : q < i
    · rw [if_pos h2, if_pos (by omega)]
    · rw [if_neg h2, if_neg (by omega)]
theorem full_tab {N : Nat} {f : Nat → Nat} : (tab N fun q => Value.float .f32 (if q < N then f q else 0)) = tab N fun q => .float .f32 (f q) := tab_congr fun q hq => by rw [if_pos hq]
theorem iSumOfFour (g : Nat → Nat) (M : Mem) : Pure Try.prog 28 [foV g] M (.float .f32 (jSum g 3)) := by
  refine pure_of Try.func28 Try.ntmps28 rfl rfl (by repeat' (first | exact Flat.float _ _ | fail)) ?_
  simp only [envOf, Nat.zero_add, Nat.reduceAdd]
  repeat' (first | (refine d_AOs (h := ?_) ; first | refine o_assign (h := ?_) | refine AOs.nil (h := ?_) | refine o_slArr (h := ?_) | refine o_call (hc := (isumOf4 g _ true _ (by first | (simp only [mem_tail, mem_tail0, List.getElem?_cons_zero, List.getElem?_cons_succ]; first | done | rfl) | exact mem_head (by assumption) | assumption | (simp only [mem_tailS, mem_tailS0, List.getElem?_cons_zero, List.getElem?_cons_succ]; first | done | rfl) | exact mem_set1 (by assumption) | exact mem_set0 (by assumption) | exact mem_setN1 (by assumption) (by assumption) | exact mem_setN (by assumption) (by assumption)))) (h := ?_) | refine o_box (h := ?_)) | (refine d_AW (h := ?_) ; first | refine AW.seq (h := ?_) | refine AW.region (h := ?_) | refine AW.ret (h := ?_)) | (first | refine t_normal ?_) | (refine d_post (h := ?_) ; first | refine p_ret1 rfl (h := ?_)) | fail)
  all_goals rfl
theorem iSumCol (g : Nat → Nat) (k : Nat) (M : Mem) : Pure Try.prog 28 [.agg ([.float .f32 (g k), .float .f32 (g (4 + k)), .float .f32 (g (8 + k)), .float .f32 (g (12 + k))] : List Value).toArray] M (.float .f32 (clF g k)) := by
  have := iSumOfFour (fun i => if i = 0 then g k else if i = 1 then g (4 + k) else if i = 2 then g (8 + k) else g (12 + k)) M
  exact this
set_option maxHeartbeats 8000000 in
theorem iOutFlows (g : Nat → Nat) (M : Mem) : Pure Try.prog 13 [flV g] M (foV (clF g)) := by
  refine pure_of Try.func13 Try.ntmps13 rfl rfl (by repeat' (first | exact flat_tabL (fun _ => Flat.float _ _) | refine flat_agg ?_ | fail)) ?_
  simp only [envOf, Nat.zero_add, Nat.reduceAdd]
  repeat' (first | (refine d_AOs (h := ?_) ; first | refine o_move (h := ?_) | refine AOs.nil (h := ?_) | refine o_build (cs := tab 4 fun _ => .float .f32 0) (hf := by rfl) (h := ?_) | refine o_store (h := ?_) | refine o_box (h := ?_) | refine o_alloc (h := ?_)) | (refine d_AW (h := ?_) ; first | refine AW.seq (h := ?_) | refine AW.region (h := ?_) | refine AW.block (h := ?_)) | (first | refine t_normal ?_) | fail)
  refine AW.loopN [1, 2, 3, 6] (fun k st => ∃ i : Nat, i + k = 4 ∧ st = ⟨31, [(1, .pointer (some ⟨M.length, 0, none⟩)), (2, .pointer (some ⟨M.length + 1, 0, none⟩)), (3, .pointer (some ⟨M.length + 2, 0, none⟩)), (6, .int .i64 (i : Int))], M ++ [⟨tab 16 fun q => .float .f32 (g q), none, true⟩, ⟨tab 4 fun _ => .float .f32 0, none, true⟩, ⟨tab 4 fun q => .float .f32 (if q < i then clF g q else 0), none, true⟩]⟩) 4 ⟨0, by omega, rfl⟩ ?_
  rintro k st ⟨i, hi, rfl⟩
  by_cases hin : i < 4
  · have hS := fun M' => iSumCol g i M'
    have hst := step_tab (N := 4) (i := i) (f := clF g) rfl
    repeat' (first | (refine d_AOs (h := ?_) ; first | refine o_move (h := ?_) | refine o_assign (h := ?_) | refine AOs.nil (h := ?_) | (refine d_bin (h := ?_) ; first | refine o_addS (h := ?_) | refine o_lss (h := ?_))) | (refine d_AW (h := ?_) ; first | refine AW.seq (h := ?_) | refine AW.region (h := ?_) | refine AW.openW1M (M ++ [⟨tab 16 fun q => .float .f32 (g q), none, true⟩, ⟨tab 4 fun _ => .float .f32 0, none, true⟩, ⟨tab 4 fun q => .float .f32 (if q < i then clF g q else 0), none, true⟩]) 20 (M ++ [⟨tab 16 fun q => .float .f32 (g q), none, true⟩, ⟨tab 4 fun _ => .float .f32 0, none, true⟩, ⟨tab 4 (fun q => if q = i then Value.float .f32 (clF g i) else (fun q => .float .f32 (if q < i then clF g q else 0)) q), none, true⟩]) (h := ?_) | (refine AW.cond (ht := (fun hc => ?_)) (hf := (fun hc => ?_)) <;> (try (with_reducible first | exact absurd hc Bool.false_ne_true | exact absurd hc.symm Bool.false_ne_true)) <;> (try simp only [decide_eq_true_eq, decide_eq_false_iff_not, Int.ofNat_inj, Bool.not_eq_true', Bool.not_eq_false', Int.not_lt, Int.not_le] at hc) <;> (try (exfalso; omega)) <;> (try (exact absurd hc (by decide)))) | refine AW.block (h := ?_) | refine AW.skip (h := ?_)) | (first | refine t_normal ?_ | refine b_normal ?_) | (refine d_W (h := ?_) ; first | refine w1_nil (h := ?_) | refine w1_stepN (h2 := ?_) | refine w1_step (h2 := ?_) | refine w1_step (h1 := by (simp only [ObK, aft, cond_true, cond_false]; repeat' (first | refine And.intro ?_ ?_ | ((refine d_AOs ?_; first | refine o_build (cs := [.float .f32 (g i), .float .f32 (g (4 + i)), .float .f32 (g (8 + i)), .float .f32 (g (12 + i))]) (hf := by rfl) (h := ?_) | refine o_call (hc := (hS _)) (h := ?_)) <;> exact AOs.nil rfl)))) (h2 := ?_)) | fail)
    all_goals exact ⟨k - 1, by omega, i + 1, by omega, by rw [← hst]; rfl⟩
  · obtain rfl : i = 4 := by omega
    rw [full_tab]
    repeat' (first | (refine d_AOs (h := ?_) ; first | refine AOs.nil (h := ?_) | (refine d_bin (h := ?_) ; first | refine o_lss (h := ?_)) | refine o_load (h := ?_) | refine o_store (h := ?_)) | (refine d_AW (h := ?_) ; first | refine AW.seq (h := ?_) | refine AW.region (h := ?_) | (refine AW.cond (ht := (fun hc => ?_)) (hf := (fun hc => ?_)) <;> (try (with_reducible first | exact absurd hc Bool.false_ne_true | exact absurd hc.symm Bool.false_ne_true)) <;> (try simp only [decide_eq_true_eq, decide_eq_false_iff_not, Int.ofNat_inj, Bool.not_eq_true', Bool.not_eq_false', Int.not_lt, Int.not_le] at hc) <;> (try (exfalso; omega)) <;> (try (exact absurd hc (by decide)))) | refine AW.ret (h := ?_) | refine AW.exit (h := ?_)) | (first | refine t_normal ?_ | refine t_exit ?_ | refine b_exit ?_) | (refine d_post (h := ?_) ; first | refine p_cell1 rfl (h := ?_)) | fail)
    all_goals rfl
set_option maxHeartbeats 8000000 in
theorem iInFlows (g : Nat → Nat) (M : Mem) : Pure Try.prog 12 [flV g] M (foV (rwF g)) := by
  refine Pure.closed fun hM => ?_
  refine pure_of Try.func12 Try.ntmps12 rfl rfl (by repeat' (first | exact flat_tabL (fun _ => Flat.float _ _) | refine flat_agg ?_ | fail)) ?_
  simp only [envOf, Nat.zero_add, Nat.reduceAdd]
  repeat' (first | (refine d_AOs (h := ?_) ; first | refine o_move (h := ?_) | refine AOs.nil (h := ?_) | refine o_build (cs := tab 4 fun _ => .float .f32 0) (hf := by rfl) (h := ?_) | refine o_load (h := ?_) | refine o_store (h := ?_) | refine o_box (h := ?_) | refine o_alloc (h := ?_)) | (refine d_AW (h := ?_) ; first | refine AW.seq (h := ?_) | refine AW.region (h := ?_) | refine AW.block (h := ?_)) | (first | refine t_normal ?_) | fail)
  refine AW.loopG [2, 3, 7, 8] (fun k st => ∃ i : Nat, i + k = 4 ∧ st = ⟨18, [(2, .pointer (some ⟨M.length + 1, 0, none⟩)), (3, .pointer (some ⟨M.length + 2, 0, none⟩)), (7, flV g), (8, .int .i64 (i : Int))], M ++ [⟨tab 16 fun q => .float .f32 (g q), none, true⟩, ⟨tab 4 fun _ => .float .f32 0, none, true⟩, ⟨tab 4 fun q => .float .f32 (if q < i then rwF g q else 0), none, true⟩]⟩) 4 ⟨0, by omega, rfl⟩ ?_
  rintro k st ⟨i, hi, rfl⟩
  by_cases hin : i < 4
  · have hst := step_tab (N := 4) (i := i) (f := rwF g) rfl
    have hld : ldA (.agg 4) (i * 4) (tab 16 fun q => Value.float .f32 (g q)) = some (.agg (tab 4 fun q => .float .f32 (g (i * 4 + q))).toArray) := ld_part (by omega)
    have hS := fun j M' h => isumOf4 (fun k => g (i * 4 + k)) j true M' h
    rw [show jSum (fun k => g (i * 4 + k)) 3 = rwF g i from rfl] at hS
    repeat' (first | (refine d_AOs (h := ?_) ; first | refine o_move (h := ?_) | refine o_assign (h := ?_) | refine AOs.nil (h := ?_) | (refine d_bin (h := ?_) ; first | refine o_addS (h := ?_) | refine o_lss (h := ?_)) | refine o_ix (hv := hld) (h := ?_) | refine o_slArr (h := ?_) | refine o_call (hc := (hS _ _ (by first | (simp only [mem_tail, mem_tail0, List.getElem?_cons_zero, List.getElem?_cons_succ]; first | done | rfl) | exact mem_head (by assumption) | assumption | (simp only [mem_tailS, mem_tailS0, List.getElem?_cons_zero, List.getElem?_cons_succ]; first | done | rfl) | exact mem_set1 (by assumption) | exact mem_set0 (by assumption) | exact mem_setN1 (by assumption) (by assumption) | exact mem_setN (by assumption) (by assumption)))) (h := ?_) | refine o_at (h := ?_) | refine o_store (h := ?_) | refine o_alloc (h := ?_)) | (refine d_AW (h := ?_) ; first | refine AW.seq (h := ?_) | refine AW.region (h := ?_) | (refine AW.cond (ht := (fun hc => ?_)) (hf := (fun hc => ?_)) <;> (try (with_reducible first | exact absurd hc Bool.false_ne_true | exact absurd hc.symm Bool.false_ne_true)) <;> (try simp only [decide_eq_true_eq, decide_eq_false_iff_not, Int.ofNat_inj, Bool.not_eq_true', Bool.not_eq_false', Int.not_lt, Int.not_le] at hc) <;> (try (exfalso; omega)) <;> (try (exact absurd hc (by decide)))) | refine AW.block (h := ?_) | refine AW.skip (h := ?_)) | (first | refine t_normal ?_ | refine b_normal ?_) | fail)
    all_goals exact ⟨k - 1, M ++ [⟨tab 16 fun q => .float .f32 (g q), none, true⟩, ⟨tab 4 fun _ => .float .f32 0, none, true⟩, ⟨tab 4 (fun q => if q = i then Value.float .f32 (rwF g i) else (fun q => .float .f32 (if q < i then rwF g q else 0)) q), none, true⟩], [⟨tab 4 fun q => .float .f32 (g (i * 4 + q)), none, true⟩], by omega, next_TT (T := [⟨tab 16 fun q => .float .f32 (g q), none, true⟩, ⟨tab 4 fun _ => .float .f32 0, none, true⟩, ⟨tab 4 (fun q => if q = i then Value.float .f32 (rwF g i) else (fun q => .float .f32 (if q < i then rwF g q else 0)) q), none, true⟩]) (G := [⟨tab 4 fun q => .float .f32 (g (i * 4 + q)), none, true⟩]) rfl, by simp, by rw [hst]; exact closed3 hM (by repeat' (first | exact flat_tabL (fun _ => Flat.float _ _) | fail)) (by repeat' (first | exact flat_tabL (fun _ => Flat.float _ _) | fail)) (by repeat' (first | exact flat_tabL (fun _ => Flat.float _ _) | fail)), ⟨Bel.ptr (by simp), Bel.ptr (by simp), Bel.flat (by repeat' (first | exact flat_tabL (fun _ => Flat.float _ _) | refine flat_agg ?_ | fail)), Bel.flat (Flat.int _ _), trivial⟩, i + 1, by omega, by rw [← hst]; rfl⟩
  · obtain rfl : i = 4 := by omega
    rw [full_tab]
    repeat' (first | (refine d_AOs (h := ?_) ; first | refine AOs.nil (h := ?_) | (refine d_bin (h := ?_) ; first | refine o_lss (h := ?_)) | refine o_load (h := ?_) | refine o_store (h := ?_)) | (refine d_AW (h := ?_) ; first | refine AW.seq (h := ?_) | refine AW.region (h := ?_) | (refine AW.cond (ht := (fun hc => ?_)) (hf := (fun hc => ?_)) <;> (try (with_reducible first | exact absurd hc Bool.false_ne_true | exact absurd hc.symm Bool.false_ne_true)) <;> (try simp only [decide_eq_true_eq, decide_eq_false_iff_not, Int.ofNat_inj, Bool.not_eq_true', Bool.not_eq_false', Int.not_lt, Int.not_le] at hc) <;> (try (exfalso; omega)) <;> (try (exact absurd hc (by decide)))) | refine AW.ret (h := ?_) | refine AW.exit (h := ?_)) | (first | refine t_normal ?_ | refine t_exit ?_ | refine b_exit ?_) | (refine d_post (h := ?_) ; first | refine p_cell1 rfl (h := ?_)) | fail)
    all_goals rfl
end Go.Proofs.Ytjghdagcmombnaa
