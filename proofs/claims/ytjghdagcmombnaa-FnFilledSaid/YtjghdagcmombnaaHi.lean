/- A filling of the reference: in memory, and its begin. -/
import Derived.Test.YtjghdagcmombnaaRd
import Derived.Test.YtjghdagcmombnaaHg

namespace Go.Proofs.Ytjghdagcmombnaa
open Go.RowKit
attribute [local irreducible] AW AOs AO AQ AQW thenA inBlockA postA ACalls Pure
set_option linter.unusedSimpArgs false
set_option linter.unusedVariables false
set_option linter.unusedSectionVars false

theorem Closed.setB {M : Mem} {b : Nat} {B : Blk} (h : Closed M.length M) (hf : ∀ c ∈ B.cells, Bel M.length c) : Closed (M.set b B).length (M.set b B) := by
  rw [List.length_set]
  intro x hx c hc
  rcases List.mem_or_eq_of_mem_set hx with hx | rfl
  · exact h x hx c hc
  · exact hf c hc
/-- The reference's filling: a pointer to a junction lies ahead. -/
abbrev rfV (j0 : Nat) (s t : Nat → Nat) (S : FSt) : Nat → Value := fgV 1 (fun _ => .pointer (some ⟨j0, 0, none⟩)) s t S
abbrev rfB (j0 : Nat) (s t : Nat → Nat) (S : FSt) : Blk := ⟨tab 25 (rfV j0 s t S), none, true⟩
section
variable {j0 : Nat} {s t : Nat → Nat} {S : FSt}
theorem rf_bel {L : Nat} (hj : j0 < L) : ∀ c ∈ (rfB j0 s t S).cells, Bel L c := fun c hc => by
  obtain ⟨q, hq, rfl⟩ := List.mem_map.1 hc
  unfold rfV fgV
  split
  · exact Bel.ptr hj
  · refine Bel.flat ?_
    split
    · exact Flat.float _ _
    · split
      · exact Flat.float _ _
      · split
        · exact Flat.float _ _
        · split
          · exact Flat.float _ _
          · split
            · exact Flat.bool _
            · exact Flat.int _ _
theorem rf_ptr : ldA .one 0 (tab 25 (rfV j0 s t S)) = some (.pointer (some ⟨j0, 0, none⟩)) := ld_tab (by omega) (fg_x (by omega))
theorem rfB_congr {S' : FSt} (hS : feqS S S') : rfB j0 s t S = rfB j0 s t S' := by
  unfold rfB rfV
  rw [fg_congr rfl hS]
theorem rf_len : (tab 25 (rfV j0 s t S)).length = 25 := tab_len _ _
set_option maxHeartbeats 4000000 in
theorem sany (j : Nat) (M : Mem) (hb : M[j]? = some (rfB j0 s t S)) : Pure Try.prog 43 [.pointer (some ⟨j, 0, none⟩)] M (.bool (anyG S)) := by
  refine pure_of Try.func43 Try.ntmps43 rfl rfl (by repeat' (first | exact Flat.bool _ | fail)) ?_
  obtain ⟨J, hJ⟩ : ∃ J, J = tab 25 (rfV j0 s t S) := ⟨_, rfl⟩
  have hb : M[j]? = some ⟨J, none, true⟩ := by rw [hJ]; exact hb
  have l0 : ldA .one 17 J = some (.bool (S.g 0)) := by rw [hJ]; exact fld_g rfl (i := 0) (by omega) rfl
  have l1 : ldA .one 18 J = some (.bool (S.g 1)) := by rw [hJ]; exact fld_g rfl (i := 1) (by omega) rfl
  have l2 : ldA .one 19 J = some (.bool (S.g 2)) := by rw [hJ]; exact fld_g rfl (i := 2) (by omega) rfl
  have l3 : ldA .one 20 J = some (.bool (S.g 3)) := by rw [hJ]; exact fld_g rfl (i := 3) (by omega) rfl
  have e : anyG S = (S.g 0 || S.g 1 || S.g 2 || S.g 3) := rfl
  rw [e]
  clear hJ e
  generalize S.g 0 = g0 at *
  generalize S.g 1 = g1 at *
  generalize S.g 2 = g2 at *
  generalize S.g 3 = g3 at *
  cases g0
  · cases g1
    · cases g2
      · simp only [envOf, Nat.zero_add, Nat.reduceAdd]
        repeat' (first | (refine d_AOs (h := ?_) ; first | refine o_move (h := ?_) | refine o_assign (h := ?_) | refine AOs.nil (h := ?_) | (refine d_grd (h := ?_) ; first | refine g_yes (h := ?_)) | refine o_load (hv := l0) (h := ?_) | refine o_load (hv := l1) (h := ?_) | refine o_load (hv := l2) (h := ?_) | refine o_load (hv := l3) (h := ?_) | refine o_at (h := ?_) | refine o_field (h := ?_) | refine o_nil (h := ?_) | refine o_pick (h := ?_)) | (refine d_AW (h := ?_) ; first | refine AW.seq (h := ?_) | refine AW.region (h := ?_) | refine AW.ret (h := ?_)) | (first | refine t_normal ?_) | (refine d_post (h := ?_) ; first | refine p_ret1 rfl (h := ?_)) | fail)
        all_goals first | rfl | (exfalso; simp_all; done)
      · simp only [envOf, Nat.zero_add, Nat.reduceAdd]
        repeat' (first | (refine d_AOs (h := ?_) ; first | refine o_move (h := ?_) | refine o_assign (h := ?_) | refine AOs.nil (h := ?_) | (refine d_grd (h := ?_) ; first | refine g_yes (h := ?_) | refine g_no (h := ?_)) | refine o_load (hv := l0) (h := ?_) | refine o_load (hv := l1) (h := ?_) | refine o_load (hv := l2) (h := ?_) | refine o_at (h := ?_) | refine o_field (h := ?_) | refine o_nil (h := ?_) | refine o_pick (h := ?_)) | (refine d_AW (h := ?_) ; first | refine AW.seq (h := ?_) | refine AW.region (h := ?_) | refine AW.ret (h := ?_)) | (first | refine t_normal ?_) | (refine d_post (h := ?_) ; first | refine p_ret1 rfl (h := ?_)) | fail)
        all_goals first | rfl | (exfalso; simp_all; done)
    · simp only [envOf, Nat.zero_add, Nat.reduceAdd]
      repeat' (first | (refine d_AOs (h := ?_) ; first | refine o_move (h := ?_) | refine o_assign (h := ?_) | refine AOs.nil (h := ?_) | (refine d_grd (h := ?_) ; first | refine g_yes (h := ?_) | refine g_no (h := ?_)) | refine o_load (hv := l0) (h := ?_) | refine o_load (hv := l1) (h := ?_) | refine o_at (h := ?_) | refine o_field (h := ?_) | refine o_nil (h := ?_) | refine o_pick (h := ?_)) | (refine d_AW (h := ?_) ; first | refine AW.seq (h := ?_) | refine AW.region (h := ?_) | refine AW.ret (h := ?_)) | (first | refine t_normal ?_) | (refine d_post (h := ?_) ; first | refine p_ret1 rfl (h := ?_)) | fail)
      all_goals first | rfl | (exfalso; simp_all; done)
  · simp only [envOf, Nat.zero_add, Nat.reduceAdd]
    repeat' (first | (refine d_AOs (h := ?_) ; first | refine o_move (h := ?_) | refine o_assign (h := ?_) | refine AOs.nil (h := ?_) | (refine d_grd (h := ?_) ; first | refine g_no (h := ?_)) | refine o_load (hv := l0) (h := ?_) | refine o_at (h := ?_) | refine o_field (h := ?_) | refine o_nil (h := ?_) | refine o_pick (h := ?_)) | (refine d_AW (h := ?_) ; first | refine AW.seq (h := ?_) | refine AW.region (h := ?_) | refine AW.ret (h := ?_)) | (first | refine t_normal ?_) | (refine d_post (h := ?_) ; first | refine p_ret1 rfl (h := ?_)) | fail)
    all_goals first | rfl | (exfalso; simp_all; done)
end
/-! ### The begin -/
section
variable (h s t : Nat → Nat)
def brS (n o : Nat) (S : FSt) (i k : Nat) : FSt := ⟨S.f, S.c, fun q => if q < i then rGo h s t n o q else if q = i then brG h t i k else S.g q, fun q => if q < i then rBy h s t n o q else if q = i then brB h t i k else S.b q⟩
variable {h s t}
theorem oR_0 {n o : Nat} (S : FSt) : feqS (oR h s t n o S 0) S := fun q _ => ⟨rfl, rfl, by unfold oR; simp, by unfold oR; simp⟩
theorem oR_skip {n o : Nat} {i : Nat} (hc : (decide (n ≤ i) || !(fgt .f32 (s i) 0)) = true) : feqS { oR h s t n o S00 i with b := upd (oR h s t n o S00 i).b i (-1) } (oR h s t n o S00 (i + 1)) := fun q _ => by
  refine ⟨rfl, rfl, ?_, ?_⟩
  · show (if q < i then rGo h s t n o q else false) = if q < i + 1 then rGo h s t n o q else false
    by_cases e : q = i
    · subst e; rw [if_neg (by omega), if_pos (by omega)]; unfold rGo; rw [hc]; rfl
    · by_cases e2 : q < i
      · rw [if_pos e2, if_pos (by omega)]
      · rw [if_neg e2, if_neg (by omega)]
  · show upd (fun q => if q < i then rBy h s t n o q else 0) i (-1) q = if q < i + 1 then rBy h s t n o q else 0
    by_cases e : q = i
    · subst e; rw [upd_eq, if_pos (by omega)]; unfold rBy; rw [hc]; rfl
    · rw [upd_ne e]
      by_cases e2 : q < i
      · rw [if_pos e2, if_pos (by omega)]
      · rw [if_neg e2, if_neg (by omega)]
theorem brS_0 {n o : Nat} {i : Nat} : feqS { oR h s t n o S00 i with b := upd (oR h s t n o S00 i).b i (-1), g := upd (oR h s t n o S00 i).g i true } (brS h s t n o S00 i 0) := fun q _ => by
  refine ⟨rfl, rfl, ?_, ?_⟩
  · show upd (fun q => if q < i then rGo h s t n o q else false) i true q = if q < i then rGo h s t n o q else if q = i then true else false
    by_cases e : q = i
    · subst e; rw [upd_eq, if_neg (by omega), if_pos rfl]
    · rw [upd_ne e]
      by_cases e2 : q < i
      · rw [if_pos e2, if_pos e2]
      · rw [if_neg e2, if_neg e2, if_neg e]
  · show upd (fun q => if q < i then rBy h s t n o q else 0) i (-1) q = if q < i then rBy h s t n o q else if q = i then -1 else 0
    by_cases e : q = i
    · subst e; rw [upd_eq, if_neg (by omega), if_pos rfl]
    · rw [upd_ne e]
      by_cases e2 : q < i
      · rw [if_pos e2, if_pos e2]
      · rw [if_neg e2, if_neg e2, if_neg e]
theorem brS_no {n o : Nat} {i k : Nat} (hc : brC h t i k (brG h t i k) = false) : feqS (brS h s t n o S00 i (k + 1)) (brS h s t n o S00 i k) := fun q _ => by
  have e1 : brG h t i (k + 1) = brG h t i k := by show (if _ then _ else _) = _; rw [hc]; rfl
  have e2 : brB h t i (k + 1) = brB h t i k := by show (if _ then _ else _) = _; rw [hc]; rfl
  unfold brS
  rw [e1, e2]
  exact ⟨rfl, rfl, rfl, rfl⟩
theorem brS_yes {n o : Nat} {i k : Nat} (hc : brC h t i k (brG h t i k) = true) : feqS { brS h s t n o S00 i k with g := upd (brS h s t n o S00 i k).g i false, b := upd (brS h s t n o S00 i k).b i (k : Int) } (brS h s t n o S00 i (k + 1)) := fun q _ => by
  have e1 : brG h t i (k + 1) = false := by show (if _ then _ else _) = _; rw [hc]; rfl
  have e2 : brB h t i (k + 1) = (k : Int) := by show (if _ then _ else _) = _; rw [hc]; rfl
  refine ⟨rfl, rfl, ?_, ?_⟩
  · show upd (brS h s t n o S00 i k).g i false q = if q < i then rGo h s t n o q else if q = i then brG h t i (k + 1) else false
    rw [e1]
    by_cases e : q = i
    · subst e; rw [upd_eq, if_neg (by omega), if_pos rfl]
    · rw [upd_ne e]
      show (if q < i then rGo h s t n o q else if q = i then brG h t i k else false) = _
      rw [if_neg e, if_neg e]
  · show upd (brS h s t n o S00 i k).b i (k : Int) q = if q < i then rBy h s t n o q else if q = i then brB h t i (k + 1) else 0
    rw [e2]
    by_cases e : q = i
    · subst e; rw [upd_eq, if_neg (by omega), if_pos rfl]
    · rw [upd_ne e]
      show (if q < i then rBy h s t n o q else if q = i then brB h t i k else 0) = _
      rw [if_neg e, if_neg e]
theorem brS_end {n o : Nat} {i : Nat} (hc : (decide (n ≤ i) || !(fgt .f32 (s i) 0)) = false) : feqS (brS h s t n o S00 i o) (oR h s t n o S00 (i + 1)) := fun q _ => by
  refine ⟨rfl, rfl, ?_, ?_⟩
  · show (if q < i then rGo h s t n o q else if q = i then brG h t i o else false) = if q < i + 1 then rGo h s t n o q else false
    by_cases e : q = i
    · subst e; rw [if_neg (by omega), if_pos rfl, if_pos (by omega)]; unfold rGo; rw [hc]; rfl
    · by_cases e2 : q < i
      · rw [if_pos e2, if_pos (by omega)]
      · rw [if_neg e2, if_neg e, if_neg (by omega)]
  · show (if q < i then rBy h s t n o q else if q = i then brB h t i o else 0) = if q < i + 1 then rBy h s t n o q else 0
    by_cases e : q = i
    · subst e; rw [if_neg (by omega), if_pos rfl, if_pos (by omega)]; unfold rBy; rw [hc]; rfl
    · by_cases e2 : q < i
      · rw [if_pos e2, if_pos (by omega)]
      · rw [if_neg e2, if_neg e, if_neg (by omega)]
theorem brS_g {n o : Nat} {i k : Nat} : (brS h s t n o S00 i k).g i = brG h t i k := by
  show (if i < i then _ else if i = i then _ else _) = _
  rw [if_neg (by omega), if_pos rfl]
variable (n o : Nat) (ho : o ≤ 4)
include ho
set_option maxHeartbeats 16000000 in
theorem sBegin (j0 : Nat) (M : Mem) (hb : M[j0]? = some (jnB (n : Int) (o : Int) h)) : Alloc Try.prog 42 [.pointer (some ⟨j0, 0, none⟩), foV s, foV t] M (.pointer (some ⟨M.length, 0, none⟩)) [rfB j0 s t (oR h s t n o S00 4)] := by
  have hj0 : j0 < M.length := (List.getElem?_eq_some_iff.1 hb).1
  refine alloc_of [2] Try.func42 Try.ntmps42 rfl rfl rfl (by decide) ?_
  have e0 : rfB j0 s t (oR h s t n o S00 0) = rfB j0 s t S00 := rfB_congr (oR_0 S00)
  simp only [envOf, Nat.zero_add, Nat.reduceAdd]
  repeat' (first | (refine d_AOs (h := ?_) ; first | refine o_move (h := ?_) | refine o_assign (h := ?_) | refine AOs.nil (h := ?_) | refine o_build (cs := tab 25 (rfV j0 s t S00)) (hf := by rfl) (h := ?_) | refine o_load (h := ?_) | refine o_box (h := ?_)) | (refine d_AW (h := ?_) ; first | refine AW.seq (h := ?_) | refine AW.region (h := ?_) | refine AW.block (h := ?_)) | (first | refine t_normal ?_) | fail)
  refine AW.loopN [0, 4, 5, 7, 8] (fun kk st => ∃ i : Nat, i + kk = 4 ∧ st = ⟨86, [(0, .pointer (some ⟨j0, 0, none⟩)), (4, .pointer (some ⟨M.length, 0, none⟩)), (5, .pointer (some ⟨M.length + 1, 0, none⟩)), (7, .pointer (some ⟨M.length + 2, 0, none⟩)), (8, .int .i64 (i : Int))], M ++ [foB s, foB t, rfB j0 s t (oR h s t n o S00 i)]⟩) 4 ⟨0, by omega, by rw [e0]; rfl⟩ ?_
  clear e0
  rintro kk st ⟨i, hi, rfl⟩
  by_cases hi4 : i < 4
  · obtain ⟨J, hJ⟩ : ∃ J, J = tab 25 (rfV j0 s t (oR h s t n o S00 i)) := ⟨_, rfl⟩
    obtain ⟨J1, hJ1⟩ : ∃ J1, J1 = tab 25 (rfV j0 s t { oR h s t n o S00 i with b := upd (oR h s t n o S00 i).b i (-1) }) := ⟨_, rfl⟩
    have eB : rfB j0 s t (oR h s t n o S00 i) = ⟨J, none, true⟩ := by rw [hJ]
    have o1 : 21 + i + 1 ≤ J.length := by rw [hJ, rf_len]; omega
    have s1 : J.take (21 + i) ++ cellsA (.int .i64 (-1)) ++ J.drop (21 + i + (cellsA (.int .i64 (-1))).length) = J1 := by rw [hJ, hJ1]; exact fst_b rfl hi4 rfl
    have lds : ldA .one i (tab 4 fun q => Value.float .f32 (s q)) = some (.float .f32 (s i)) := ld_tab hi4 rfl
    cases hC : (decide (n ≤ i) || !(fgt .f32 (s i) 0))
    · obtain ⟨J2, hJ2⟩ : ∃ J2, J2 = tab 25 (rfV j0 s t { oR h s t n o S00 i with b := upd (oR h s t n o S00 i).b i (-1), g := upd (oR h s t n o S00 i).g i true }) := ⟨_, rfl⟩
      have o2 : 17 + i + 1 ≤ J1.length := by rw [hJ1, rf_len]; omega
      have s2 : J1.take (17 + i) ++ cellsA (.bool true) ++ J1.drop (17 + i + (cellsA (.bool true)).length) = J2 := by rw [hJ1, hJ2]; exact fst_g rfl hi4 rfl
      have eN : rfB j0 s t (brS h s t n o S00 i 0) = ⟨J2, none, true⟩ := by rw [hJ2]; exact (rfB_congr brS_0).symm
      have g1 : ¬ n ≤ i := by rw [Bool.or_eq_false_iff] at hC; exact of_decide_eq_false hC.1
      have g2 : fgt .f32 (s i) 0 = true := by rw [Bool.or_eq_false_iff, Bool.not_eq_false'] at hC; exact hC.2
      rw [eB]
      clear hJ hJ1 hJ2 eB
      repeat' (first | (refine d_AOs (h := ?_) ; first | refine o_move (h := ?_) | refine o_assign (h := ?_) | refine AOs.nil (h := ?_) | (refine d_bin (h := ?_) ; first | refine o_fgtC (h := ?_) | refine o_lss (h := ?_) | refine o_geq (h := ?_)) | (refine d_grd (h := ?_) ; first | refine g_yes (h := ?_) | (refine g_false (h1 := (fun hg => ?_)) (h0 := (fun hg => ?_)) <;> (try rw [hg]) <;> (try simp only [decide_eq_true_eq, decide_eq_false_iff_not, Int.ofNat_inj, Bool.not_eq_true', Bool.not_eq_false', Int.not_lt, Int.not_le] at hg) <;> (try (exfalso; omega)) <;> (try (exact absurd hg (by decide))))) | refine o_load (hv := jn_ld0) (h := ?_) | refine o_load (hv := lds) (h := ?_) | refine o_store (ho := by exact o1) (hcs := by exact s1) (h := ?_) | refine o_store (ho := by exact o2) (hcs := by exact s2) (h := ?_) | refine o_at (h := ?_) | refine o_field (h := ?_) | refine o_nil (h := ?_) | refine o_pick (h := ?_) | refine o_not (h := ?_)) | (refine d_AW (h := ?_) ; first | refine AW.seq (h := ?_) | refine AW.region (h := ?_) | (refine AW.cond (ht := (fun hc => ?_)) (hf := (fun hc => ?_)) <;> (try (with_reducible first | exact absurd hc Bool.false_ne_true | exact absurd hc.symm Bool.false_ne_true)) <;> (try simp only [decide_eq_true_eq, decide_eq_false_iff_not, Int.ofNat_inj, Bool.not_eq_true', Bool.not_eq_false', Int.not_lt, Int.not_le] at hc) <;> (try (exfalso; omega)) <;> (try (exact absurd hc (by decide)))) | refine AW.block (h := ?_) | refine AW.skip (h := ?_)) | (first | refine t_normal ?_) | fail)
      all_goals try (exfalso; first | omega | (simp_all; done))
      rw [← eN]
      clear eN o1 o2 s1 s2 lds
      refine AW.loopN [0, 4, 5, 7, 8, 9] (fun k2 st => ∃ k : Nat, k + k2 = o ∧ st = ⟨86, [(0, .pointer (some ⟨j0, 0, none⟩)), (4, .pointer (some ⟨M.length, 0, none⟩)), (5, .pointer (some ⟨M.length + 1, 0, none⟩)), (7, .pointer (some ⟨M.length + 2, 0, none⟩)), (8, .int .i64 (i : Int)), (9, .int .i64 (k : Int))], M ++ [foB s, foB t, rfB j0 s t (brS h s t n o S00 i k)]⟩) o ⟨0, by omega, rfl⟩ ?_
      rintro k2 st ⟨k, hk, rfl⟩
      by_cases hk4 : k < o
      · obtain ⟨J, hJ⟩ : ∃ J, J = tab 25 (rfV j0 s t (brS h s t n o S00 i k)) := ⟨_, rfl⟩
        have eB : rfB j0 s t (brS h s t n o S00 i k) = ⟨J, none, true⟩ := by rw [hJ]
        have lg : ldA .one (17 + i) J = some (.bool (brG h t i k)) := by rw [hJ, ← brS_g (s := s) (n := n) (o := o)]; exact fld_g rfl hi4 rfl
        have la := jn_ldA (ins := (n : Int)) (outs := (o : Int)) (h := h) hi4 (show k < 4 by omega)
        have lt : ldA .one k (tab 4 fun q => Value.float .f32 (t q)) = some (.float .f32 (t k)) := ld_tab (by omega) rfl
        cases hK : brC h t i k (brG h t i k)
        · have eN : rfB j0 s t (brS h s t n o S00 i (k + 1)) = ⟨J, none, true⟩ := by rw [← eB]; exact rfB_congr (brS_no hK)
          rw [eB]
          clear hJ eB
          unfold brC at hK
          cases hg : brG h t i k
          · rw [hg] at lg
            repeat' (first | (refine d_AOs (h := ?_) ; first | refine o_move (h := ?_) | refine o_assign (h := ?_) | refine AOs.nil (h := ?_) | (refine d_bin (h := ?_) ; first | refine o_addS (h := ?_) | refine o_lss (h := ?_)) | (refine d_grd (h := ?_) ; first | refine g_no (h := ?_)) | refine o_load (hv := jn_ld1) (h := ?_) | refine o_load (hv := lg) (h := ?_) | refine o_at (h := ?_) | refine o_field (h := ?_) | refine o_nil (h := ?_) | refine o_pick (h := ?_)) | (refine d_AW (h := ?_) ; first | refine AW.seq (h := ?_) | refine AW.region (h := ?_) | (refine AW.cond (ht := (fun hc => ?_)) (hf := (fun hc => ?_)) <;> (try (with_reducible first | exact absurd hc Bool.false_ne_true | exact absurd hc.symm Bool.false_ne_true)) <;> (try simp only [decide_eq_true_eq, decide_eq_false_iff_not, Int.ofNat_inj, Bool.not_eq_true', Bool.not_eq_false', Int.not_lt, Int.not_le] at hc) <;> (try (exfalso; omega)) <;> (try (exact absurd hc (by decide)))) | refine AW.block (h := ?_) | refine AW.skip (h := ?_)) | (first | refine t_normal ?_ | refine b_normal ?_) | fail)
            all_goals first | exact ⟨k2 - 1, by omega, k + 1, by omega, by rw [eN]; rfl⟩ | (exfalso; first | omega | (simp_all; done))
          · rw [hg, Bool.true_and] at hK
            rw [hg] at lg
            cases hA : fgt .f32 (jA h i k) 0
            · repeat' (first | (refine d_AOs (h := ?_) ; first | refine o_move (h := ?_) | refine o_assign (h := ?_) | refine AOs.nil (h := ?_) | (refine d_bin (h := ?_) ; first | refine o_fgtC (h := ?_) | refine o_addS (h := ?_) | refine o_lss (h := ?_)) | (refine d_grd (h := ?_) ; first | refine g_yes (h := ?_) | refine g_no (h := ?_)) | refine o_load (hv := jn_ld1) (h := ?_) | refine o_load (hv := lg) (h := ?_) | refine o_load (hv := la) (h := ?_) | refine o_at (h := ?_) | refine o_field (h := ?_) | refine o_nil (h := ?_) | refine o_pick (h := ?_)) | (refine d_AW (h := ?_) ; first | refine AW.seq (h := ?_) | refine AW.region (h := ?_) | (refine AW.cond (ht := (fun hc => ?_)) (hf := (fun hc => ?_)) <;> (try (with_reducible first | exact absurd hc Bool.false_ne_true | exact absurd hc.symm Bool.false_ne_true)) <;> (try simp only [decide_eq_true_eq, decide_eq_false_iff_not, Int.ofNat_inj, Bool.not_eq_true', Bool.not_eq_false', Int.not_lt, Int.not_le] at hc) <;> (try (exfalso; omega)) <;> (try (exact absurd hc (by decide)))) | refine AW.block (h := ?_) | refine AW.skip (h := ?_)) | (first | refine t_normal ?_ | refine b_normal ?_) | fail)
              all_goals first | exact ⟨k2 - 1, by omega, k + 1, by omega, by rw [eN]; rfl⟩ | (exfalso; first | omega | (simp_all; done))
            · rw [hA, Bool.true_and, Bool.not_eq_false'] at hK
              repeat' (first | (refine d_AOs (h := ?_) ; first | refine o_move (h := ?_) | refine o_assign (h := ?_) | refine AOs.nil (h := ?_) | (refine d_bin (h := ?_) ; first | refine o_fgtC (h := ?_) | refine o_addS (h := ?_) | refine o_lss (h := ?_)) | (refine d_grd (h := ?_) ; first | refine g_yes (h := ?_)) | refine o_load (hv := jn_ld1) (h := ?_) | refine o_load (hv := lg) (h := ?_) | refine o_load (hv := la) (h := ?_) | refine o_load (hv := lt) (h := ?_) | refine o_at (h := ?_) | refine o_field (h := ?_) | refine o_nil (h := ?_) | refine o_pick (h := ?_) | refine o_not (h := ?_)) | (refine d_AW (h := ?_) ; first | refine AW.seq (h := ?_) | refine AW.region (h := ?_) | (refine AW.cond (ht := (fun hc => ?_)) (hf := (fun hc => ?_)) <;> (try (with_reducible first | exact absurd hc Bool.false_ne_true | exact absurd hc.symm Bool.false_ne_true)) <;> (try simp only [decide_eq_true_eq, decide_eq_false_iff_not, Int.ofNat_inj, Bool.not_eq_true', Bool.not_eq_false', Int.not_lt, Int.not_le] at hc) <;> (try (exfalso; omega)) <;> (try (exact absurd hc (by decide)))) | refine AW.block (h := ?_) | refine AW.skip (h := ?_)) | (first | refine t_normal ?_ | refine b_normal ?_) | fail)
              all_goals first | exact ⟨k2 - 1, by omega, k + 1, by omega, by rw [eN]; rfl⟩ | (exfalso; first | omega | (simp_all; done))
        · obtain ⟨J3, hJ3⟩ : ∃ J3, J3 = tab 25 (rfV j0 s t { brS h s t n o S00 i k with g := upd (brS h s t n o S00 i k).g i false, b := upd (brS h s t n o S00 i k).b i (k : Int) }) := ⟨_, rfl⟩
          have eN : rfB j0 s t (brS h s t n o S00 i (k + 1)) = ⟨J3, none, true⟩ := by rw [hJ3]; exact (rfB_congr (brS_yes hK)).symm
          obtain ⟨J1, J2, ⟨o1, o2, o3, o4⟩, ⟨s1, s2, s3, s4⟩, _⟩ := two_gb (d := 1) rfl hi4 false (k : Int) hJ hJ3 (x1 := 17 + i) (x2 := 21 + i) (x3 := 1 + i) rfl rfl rfl
          unfold brC at hK
          simp only [Bool.and_eq_true, Bool.not_eq_true'] at hK
          obtain ⟨⟨hg, hA⟩, hT⟩ := hK
          rw [hg] at lg
          rw [eB]
          clear hJ hJ3 eB
          repeat' (first | (refine d_AOs (h := ?_) ; first | refine o_move (h := ?_) | refine o_assign (h := ?_) | refine AOs.nil (h := ?_) | (refine d_bin (h := ?_) ; first | refine o_fgtC (h := ?_) | refine o_addS (h := ?_) | refine o_lss (h := ?_)) | (refine d_grd (h := ?_) ; first | refine g_yes (h := ?_)) | refine o_load (hv := jn_ld1) (h := ?_) | refine o_load (hv := lg) (h := ?_) | refine o_load (hv := la) (h := ?_) | refine o_load (hv := lt) (h := ?_) | refine o_store (ho := by exact o1) (hcs := by exact s1) (h := ?_) | refine o_store (ho := by exact o3) (hcs := by exact s3) (h := ?_) | refine o_at (h := ?_) | refine o_field (h := ?_) | refine o_nil (h := ?_) | refine o_pick (h := ?_) | refine o_not (h := ?_)) | (refine d_AW (h := ?_) ; first | refine AW.seq (h := ?_) | refine AW.region (h := ?_) | (refine AW.cond (ht := (fun hc => ?_)) (hf := (fun hc => ?_)) <;> (try (with_reducible first | exact absurd hc Bool.false_ne_true | exact absurd hc.symm Bool.false_ne_true)) <;> (try simp only [decide_eq_true_eq, decide_eq_false_iff_not, Int.ofNat_inj, Bool.not_eq_true', Bool.not_eq_false', Int.not_lt, Int.not_le] at hc) <;> (try (exfalso; omega)) <;> (try (exact absurd hc (by decide)))) | refine AW.block (h := ?_) | refine AW.skip (h := ?_)) | (first | refine t_normal ?_ | refine b_normal ?_) | fail)
          all_goals first | exact ⟨k2 - 1, by omega, k + 1, by omega, by rw [eN]; rfl⟩ | (exfalso; first | omega | (simp_all; done))
      · obtain rfl : k = o := by omega
        have e4 : rfB j0 s t (brS h s t n k S00 i k) = rfB j0 s t (oR h s t n k S00 (i + 1)) := rfB_congr (brS_end hC)
        rw [e4]
        repeat' (first | (refine d_AOs (h := ?_) ; first | refine o_move (h := ?_) | refine o_assign (h := ?_) | refine AOs.nil (h := ?_) | (refine d_bin (h := ?_) ; first | refine o_addS (h := ?_) | refine o_lss (h := ?_)) | refine o_load (hv := jn_ld1) (h := ?_) | refine o_field (h := ?_) | refine o_nil (h := ?_)) | (refine d_AW (h := ?_) ; first | refine AW.seq (h := ?_) | refine AW.region (h := ?_) | (refine AW.cond (ht := (fun hc => ?_)) (hf := (fun hc => ?_)) <;> (try (with_reducible first | exact absurd hc Bool.false_ne_true | exact absurd hc.symm Bool.false_ne_true)) <;> (try simp only [decide_eq_true_eq, decide_eq_false_iff_not, Int.ofNat_inj, Bool.not_eq_true', Bool.not_eq_false', Int.not_lt, Int.not_le] at hc) <;> (try (exfalso; omega)) <;> (try (exact absurd hc (by decide)))) | refine AW.exit (h := ?_)) | (first | refine t_normal ?_ | refine t_exit ?_ | refine b_normal ?_ | refine b_exit ?_) | fail)
        all_goals first | exact ⟨kk - 1, by omega, i + 1, by omega, rfl⟩ | (exfalso; omega)
    · have eN : rfB j0 s t (oR h s t n o S00 (i + 1)) = ⟨J1, none, true⟩ := by rw [hJ1]; exact (rfB_congr (oR_skip hC)).symm
      rw [eB]
      clear hJ hJ1 eB
      by_cases g1 : n ≤ i
      · repeat' (first | (refine d_AOs (h := ?_) ; first | refine o_move (h := ?_) | refine o_assign (h := ?_) | refine AOs.nil (h := ?_) | (refine d_bin (h := ?_) ; first | refine o_addS (h := ?_) | refine o_lss (h := ?_) | refine o_geq (h := ?_)) | (refine d_grd (h := ?_) ; first | refine g_no (h := ?_) | (refine g_false (h1 := (fun hg => ?_)) (h0 := (fun hg => ?_)) <;> (try rw [hg]) <;> (try simp only [decide_eq_true_eq, decide_eq_false_iff_not, Int.ofNat_inj, Bool.not_eq_true', Bool.not_eq_false', Int.not_lt, Int.not_le] at hg) <;> (try (exfalso; omega)) <;> (try (exact absurd hg (by decide))))) | refine o_load (hv := jn_ld0) (h := ?_) | refine o_store (ho := by exact o1) (hcs := by exact s1) (h := ?_) | refine o_at (h := ?_) | refine o_field (h := ?_) | refine o_nil (h := ?_) | refine o_pick (h := ?_)) | (refine d_AW (h := ?_) ; first | refine AW.seq (h := ?_) | refine AW.region (h := ?_) | (refine AW.cond (ht := (fun hc => ?_)) (hf := (fun hc => ?_)) <;> (try (with_reducible first | exact absurd hc Bool.false_ne_true | exact absurd hc.symm Bool.false_ne_true)) <;> (try simp only [decide_eq_true_eq, decide_eq_false_iff_not, Int.ofNat_inj, Bool.not_eq_true', Bool.not_eq_false', Int.not_lt, Int.not_le] at hc) <;> (try (exfalso; omega)) <;> (try (exact absurd hc (by decide)))) | refine AW.block (h := ?_) | refine AW.skip (h := ?_) | refine AW.exit (h := ?_)) | (first | refine t_normal ?_ | refine t_exit ?_ | refine b_exit ?_) | fail)
        all_goals first | exact ⟨kk - 1, by omega, i + 1, by omega, by rw [eN]; rfl⟩ | (exfalso; first | omega | (simp_all; done))
      · rw [decide_eq_false g1, Bool.false_or, Bool.not_eq_true'] at hC
        repeat' (first | (refine d_AOs (h := ?_) ; first | refine o_move (h := ?_) | refine o_assign (h := ?_) | refine AOs.nil (h := ?_) | (refine d_bin (h := ?_) ; first | refine o_fgtC (h := ?_) | refine o_addS (h := ?_) | refine o_lss (h := ?_) | refine o_geq (h := ?_)) | (refine d_grd (h := ?_) ; first | refine g_yes (h := ?_) | (refine g_false (h1 := (fun hg => ?_)) (h0 := (fun hg => ?_)) <;> (try rw [hg]) <;> (try simp only [decide_eq_true_eq, decide_eq_false_iff_not, Int.ofNat_inj, Bool.not_eq_true', Bool.not_eq_false', Int.not_lt, Int.not_le] at hg) <;> (try (exfalso; omega)) <;> (try (exact absurd hg (by decide))))) | refine o_load (hv := jn_ld0) (h := ?_) | refine o_load (hv := lds) (h := ?_) | refine o_store (ho := by exact o1) (hcs := by exact s1) (h := ?_) | refine o_at (h := ?_) | refine o_field (h := ?_) | refine o_nil (h := ?_) | refine o_pick (h := ?_) | refine o_not (h := ?_)) | (refine d_AW (h := ?_) ; first | refine AW.seq (h := ?_) | refine AW.region (h := ?_) | (refine AW.cond (ht := (fun hc => ?_)) (hf := (fun hc => ?_)) <;> (try (with_reducible first | exact absurd hc Bool.false_ne_true | exact absurd hc.symm Bool.false_ne_true)) <;> (try simp only [decide_eq_true_eq, decide_eq_false_iff_not, Int.ofNat_inj, Bool.not_eq_true', Bool.not_eq_false', Int.not_lt, Int.not_le] at hc) <;> (try (exfalso; omega)) <;> (try (exact absurd hc (by decide)))) | refine AW.block (h := ?_) | refine AW.skip (h := ?_) | refine AW.exit (h := ?_)) | (first | refine t_normal ?_ | refine t_exit ?_ | refine b_exit ?_) | fail)
        all_goals first | exact ⟨kk - 1, by omega, i + 1, by omega, by rw [eN]; rfl⟩ | (exfalso; first | omega | (simp_all; done))
  · obtain rfl : i = 4 := by omega
    repeat' (first | (refine d_AOs (h := ?_) ; first | refine o_move (h := ?_) | refine o_assign (h := ?_) | refine AOs.nil (h := ?_) | (refine d_bin (h := ?_) ; first | refine o_lss (h := ?_))) | (refine d_AW (h := ?_) ; first | refine AW.seq (h := ?_) | refine AW.region (h := ?_) | (refine AW.cond (ht := (fun hc => ?_)) (hf := (fun hc => ?_)) <;> (try (with_reducible first | exact absurd hc Bool.false_ne_true | exact absurd hc.symm Bool.false_ne_true)) <;> (try simp only [decide_eq_true_eq, decide_eq_false_iff_not, Int.ofNat_inj, Bool.not_eq_true', Bool.not_eq_false', Int.not_lt, Int.not_le] at hc) <;> (try (exfalso; omega)) <;> (try (exact absurd hc (by decide)))) | refine AW.ret (h := ?_) | refine AW.exit (h := ?_)) | (first | refine t_normal ?_ | refine t_exit ?_ | refine b_exit ?_) | fail)
    all_goals first | exact p_allocP rfl (by rfl) (by rfl) rfl rfl (rf_bel hj0) | (exfalso; omega)
end
end Go.Proofs.Ytjghdagcmombnaa
