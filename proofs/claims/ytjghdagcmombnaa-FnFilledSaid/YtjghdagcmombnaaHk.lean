/- A filling: the reference's, whole; flows and stops. -/
import Derived.Test.YtjghdagcmombnaaHj5
import Derived.Test.YtjghdagcmombnaaGh

namespace Go.Proofs.Ytjghdagcmombnaa
open Go.RowKit
attribute [local irreducible] AW AOs AO AQ AQW thenA inBlockA postA ACalls Pure
set_option linter.unusedSimpArgs false
set_option linter.unusedVariables false
set_option linter.unusedSectionVars false

section
variable {n o : Nat} {h s t : Nat → Nat}
theorem sroundE {j0 : Nat} (S : FSt) (M : Mem) (hb : M[j0]? = some (jnB (n : Int) (o : Int) h)) (x y : Blk) :
    Mut Try.prog 44 [.pointer (some ⟨M.length + 2, 0, none⟩)] (M ++ [x, y, rfB j0 s t S]) (.tuple #[]) (M ++ [x, y, rfB j0 s t (rndR h s t S)]) := by
  have hj0 := (List.getElem?_eq_some_iff.1 hb).1
  have := sround (n := (n : Int)) (o := (o : Int)) (h := h) (s := s) (t := t) (S := S) (j := M.length + 2) (j0 := j0) (M := M ++ [x, y, rfB j0 s t S]) (by simp) (by omega) (mem_head hb)
  rw [set_tail, set_tail] at this
  exact this
variable (ho : o ≤ 4)
include ho
set_option maxHeartbeats 16000000 in
theorem sfilled (j0 : Nat) (M : Mem) (hb : M[j0]? = some (jnB (n : Int) (o : Int) h)) : Alloc Try.prog 24 [.pointer (some ⟨j0, 0, none⟩), foV s, foV t] M (.pointer (some ⟨M.length, 0, none⟩)) [rfB j0 s t (filR h s t n o)] := by
  have hj0 := (List.getElem?_eq_some_iff.1 hb).1
  refine alloc_of [2] Try.func24 Try.ntmps24 rfl rfl rfl (by decide) ?_
  have hB := fun M' hb' => sBegin (h := h) (s := s) (t := t) n o ho j0 M' hb'
  simp only [envOf, Nat.zero_add, Nat.reduceAdd]
  repeat' (first | (refine d_AOs (h := ?_) ; first | refine o_move (h := ?_) | refine o_assign (h := ?_) | refine AOs.nil (h := ?_) | refine o_callA (hc := (hB _ (by first | exact hb | exact mem_head hb))) (h := ?_) | refine o_load (h := ?_) | refine o_box (h := ?_)) | (refine d_AW (h := ?_) ; first | refine AW.seq (h := ?_) | refine AW.region (h := ?_) | refine AW.block (h := ?_)) | (first | refine t_normal ?_) | fail)
  refine AW.loopN [7, 8] (fun kk st => ∃ (r : Nat) (S : FSt), r + kk = 8 ∧ itR h s t kk S = filR h s t n o ∧ st = ⟨24, [(7, .pointer (some ⟨M.length + 2, 0, none⟩)), (8, .int .i64 (r : Int))], M ++ [foB s, foB t, rfB j0 s t S]⟩) 8 ⟨0, oR h s t n o S00 4, by omega, rfl, rfl⟩ ?_
  clear hB
  rintro kk st ⟨r, S, hr, hS, rfl⟩
  have hA := fun M' hb' => sany (j0 := j0) (s := s) (t := t) (S := S) (M.length + 2) M' hb'
  by_cases hr8 : r < 8
  · obtain ⟨k', rfl⟩ : ∃ k', kk = k' + 1 := ⟨kk - 1, by omega⟩
    cases hg : anyG S
    · have e : itR h s t (k' + 1) S = S := by show (if anyG S then _ else _) = _; rw [hg]; rfl
      rw [e] at hS
      rw [hg] at hA
      subst hS
      clear e hg
      generalize filR h s t n o = F at *
      repeat' (first | (refine d_AOs (h := ?_) ; first | refine o_move (h := ?_) | refine o_assign (h := ?_) | refine AOs.nil (h := ?_) | (refine d_bin (h := ?_) ; first | refine o_lss (h := ?_)) | (refine d_grd (h := ?_) ; first | refine g_yes (h := ?_) | (refine g_true (h1 := (fun hg => ?_)) (h0 := (fun hg => ?_)) <;> (try rw [hg]) <;> (try simp only [decide_eq_true_eq, decide_eq_false_iff_not, Int.ofNat_inj, Bool.not_eq_true', Bool.not_eq_false', Int.not_lt, Int.not_le] at hg) <;> (try (exfalso; omega)) <;> (try (exact absurd hg (by decide))))) | refine o_call (hc := (hA _ (by first | (simp only [mem_tail, mem_tail0, List.getElem?_cons_zero, List.getElem?_cons_succ]; first | done | rfl) | exact mem_head (by assumption) | assumption | (simp only [mem_tailS, mem_tailS0, List.getElem?_cons_zero, List.getElem?_cons_succ]; first | done | rfl) | exact mem_set1 (by assumption) | exact mem_set0 (by assumption) | exact mem_setN1 (by assumption) (by assumption) | exact mem_setN (by assumption) (by assumption)))) (h := ?_) | refine o_pick (h := ?_)) | (refine d_AW (h := ?_) ; first | refine AW.seq (h := ?_) | refine AW.region (h := ?_) | (refine AW.cond (ht := (fun hc => ?_)) (hf := (fun hc => ?_)) <;> (try (with_reducible first | exact absurd hc Bool.false_ne_true | exact absurd hc.symm Bool.false_ne_true)) <;> (try simp only [decide_eq_true_eq, decide_eq_false_iff_not, Int.ofNat_inj, Bool.not_eq_true', Bool.not_eq_false', Int.not_lt, Int.not_le] at hc) <;> (try (exfalso; omega)) <;> (try (exact absurd hc (by decide)))) | refine AW.ret (h := ?_) | refine AW.exit (h := ?_)) | (first | refine t_normal ?_ | refine t_exit ?_ | refine b_exit ?_) | fail)
      all_goals first | exact p_allocP rfl (by rfl) (by rfl) rfl rfl (rf_bel hj0) | (exfalso; first | omega | (simp_all; done))
    · have e : itR h s t (k' + 1) S = itR h s t k' (rndR h s t S) := by show (if anyG S then _ else _) = _; rw [hg]; rfl
      rw [e] at hS
      have hm := fun x y => sroundE (s := s) (t := t) S M hb x y
      rw [hg] at hA
      clear e hg
      generalize rndR h s t S = S' at *
      repeat' (first | (refine d_AOs (h := ?_) ; first | refine o_move (h := ?_) | refine o_assign (h := ?_) | refine AOs.nil (h := ?_) | (refine d_bin (h := ?_) ; first | refine o_addS (h := ?_) | refine o_lss (h := ?_)) | (refine d_grd (h := ?_) ; first | refine g_yes (h := ?_) | (refine g_true (h1 := (fun hg => ?_)) (h0 := (fun hg => ?_)) <;> (try rw [hg]) <;> (try simp only [decide_eq_true_eq, decide_eq_false_iff_not, Int.ofNat_inj, Bool.not_eq_true', Bool.not_eq_false', Int.not_lt, Int.not_le] at hg) <;> (try (exfalso; omega)) <;> (try (exact absurd hg (by decide))))) | refine o_call (hc := (hA _ (by first | (simp only [mem_tail, mem_tail0, List.getElem?_cons_zero, List.getElem?_cons_succ]; first | done | rfl) | exact mem_head (by assumption) | assumption | (simp only [mem_tailS, mem_tailS0, List.getElem?_cons_zero, List.getElem?_cons_succ]; first | done | rfl) | exact mem_set1 (by assumption) | exact mem_set0 (by assumption) | exact mem_setN1 (by assumption) (by assumption) | exact mem_setN (by assumption) (by assumption)))) (h := ?_) | refine o_callM (hc := (hm _ _)) (h := ?_) | refine o_pick (h := ?_)) | (refine d_AW (h := ?_) ; first | refine AW.seq (h := ?_) | refine AW.region (h := ?_) | (refine AW.cond (ht := (fun hc => ?_)) (hf := (fun hc => ?_)) <;> (try (with_reducible first | exact absurd hc Bool.false_ne_true | exact absurd hc.symm Bool.false_ne_true)) <;> (try simp only [decide_eq_true_eq, decide_eq_false_iff_not, Int.ofNat_inj, Bool.not_eq_true', Bool.not_eq_false', Int.not_lt, Int.not_le] at hc) <;> (try (exfalso; omega)) <;> (try (exact absurd hc (by decide)))) | refine AW.block (h := ?_) | refine AW.skip (h := ?_)) | (first | refine t_normal ?_ | refine b_normal ?_) | fail)
      all_goals first | exact ⟨k', by omega, r + 1, S', by omega, hS, rfl⟩ | (exfalso; first | omega | (simp_all; done))
  · obtain rfl : kk = 0 := by omega
    have e : S = filR h s t n o := hS
    subst e
    generalize filR h s t n o = F at *
    repeat' (first | (refine d_AOs (h := ?_) ; first | refine o_move (h := ?_) | refine o_assign (h := ?_) | refine AOs.nil (h := ?_) | (refine d_bin (h := ?_) ; first | refine o_lss (h := ?_)) | (refine d_grd (h := ?_) ; first | refine g_no (h := ?_) | (refine g_true (h1 := (fun hg => ?_)) (h0 := (fun hg => ?_)) <;> (try rw [hg]) <;> (try simp only [decide_eq_true_eq, decide_eq_false_iff_not, Int.ofNat_inj, Bool.not_eq_true', Bool.not_eq_false', Int.not_lt, Int.not_le] at hg) <;> (try (exfalso; omega)) <;> (try (exact absurd hg (by decide))))) | refine o_pick (h := ?_)) | (refine d_AW (h := ?_) ; first | refine AW.seq (h := ?_) | refine AW.region (h := ?_) | (refine AW.cond (ht := (fun hc => ?_)) (hf := (fun hc => ?_)) <;> (try (with_reducible first | exact absurd hc Bool.false_ne_true | exact absurd hc.symm Bool.false_ne_true)) <;> (try simp only [decide_eq_true_eq, decide_eq_false_iff_not, Int.ofNat_inj, Bool.not_eq_true', Bool.not_eq_false', Int.not_lt, Int.not_le] at hc) <;> (try (exfalso; omega)) <;> (try (exact absurd hc (by decide)))) | refine AW.ret (h := ?_) | refine AW.exit (h := ?_)) | (first | refine t_normal ?_ | refine t_exit ?_ | refine b_exit ?_) | fail)
    all_goals first | exact p_allocP rfl (by rfl) (by rfl) rfl rfl (rf_bel hj0) | (exfalso; first | omega | (simp_all; done))
variable (hf : ∀ q, q < 16 → fin32 (wnF (filR h s t n o).f h q) = true)
include hf
set_option maxHeartbeats 16000000 in
theorem sflows (j0 : Nat) (M : Mem) (hb : M[j0]? = some (jnB (n : Int) (o : Int) h)) : Pure Try.prog 22 [.pointer (some ⟨j0, 0, none⟩), foV s, foV t] M (.tuple [flV (wnF (filR h s t n o).f h), .int .i64 0].toArray) := by
  refine pure_of Try.func22 Try.ntmps22 rfl rfl (by repeat' (first | exact Flat.int _ _ | exact flat_nil | exact flat_tabL (fun _ => Flat.float _ _) | refine flat_tuple ?_ | refine flat_agg ?_ | refine flat_cons ?_ ?_ | fail)) ?_
  have hF := fun M' hb' => sfilled (n := n) (o := o) (h := h) (s := s) (t := t) ho j0 M' hb'
  have hT := fun M' => sl03Told (wnF (filR h s t n o).f h) hf M'
  obtain ⟨Jn, hJn⟩ : ∃ Jn, Jn = tab 22 (jnJ (n : Int) (o : Int) h) := ⟨_, rfl⟩
  have hb2 : M[j0]? = some ⟨Jn, none, true⟩ := by rw [hJn]; exact hb
  clear hf
  generalize filR h s t n o = F at *
  obtain ⟨J, hJ⟩ : ∃ J, J = tab 25 (rfV j0 s t F) := ⟨_, rfl⟩
  have eB : rfB j0 s t F = ⟨J, none, true⟩ := by rw [hJ]
  have lf : ∀ i, i < 4 → ldA .one (9 + i) J = some (.float .f32 (F.f i)) := fun i hi => by rw [hJ]; exact fld_f rfl hi rfl
  have la : ∀ i k, i < 4 → k < 4 → ldA .one (2 + i * 4 + k) Jn = some (.float .f32 (jA h i k)) := fun i k hi hk => by rw [hJn]; exact jn_ldA hi hk
  rw [eB] at hF
  clear hJ hJn eB
  simp only [envOf, Nat.zero_add, Nat.reduceAdd]
  repeat' (first | (refine d_AOs (h := ?_) ; first | refine o_move (h := ?_) | refine o_assign (h := ?_) | refine AOs.nil (h := ?_) | refine o_callA (hc := (hF _ (by first | exact hb | exact mem_head hb))) (h := ?_) | refine o_build (cs := tab 16 fun _ => .float .f32 0) (hf := by rfl) (h := ?_) | refine o_load (h := ?_) | refine o_store (h := ?_) | refine o_box (h := ?_) | refine o_alloc (h := ?_)) | (refine d_AW (h := ?_) ; first | refine AW.seq (h := ?_) | refine AW.region (h := ?_) | refine AW.block (h := ?_)) | (first | refine t_normal ?_) | fail)
  have z0 : (tab 16 fun q => Value.float .f32 (if q < 0 * 4 then wnF F.f h q else 0)) = tab 16 fun _ => .float .f32 0 := tab_congr fun q _ => by rw [if_neg (by omega)]
  refine AW.loopN [0, 6, 8, 9, 10] (fun k st => ∃ i : Nat, i + k = 4 ∧ st = ⟨48, [(0, .pointer (some ⟨j0, 0, none⟩)), (6, .pointer (some ⟨M.length + 2, 0, none⟩)), (8, .pointer (some ⟨M.length + 3, 0, none⟩)), (9, .pointer (some ⟨M.length + 4, 0, none⟩)), (10, .int .i64 (i : Int))], M ++ [foB s, foB t, flB fun _ => 0, ⟨J, none, true⟩, ⟨tab 16 fun q => .float .f32 (if q < i * 4 then wnF F.f h q else 0), none, true⟩]⟩) 4 ⟨0, by omega, by rw [z0]; rfl⟩ ?_
  clear z0 hF hb
  rintro k st ⟨i, hi, rfl⟩
  by_cases hin : i < 4
  · repeat' (first | (refine d_AOs (h := ?_) ; first | refine o_move (h := ?_) | refine o_assign (h := ?_) | refine AOs.nil (h := ?_) | (refine d_bin (h := ?_) ; first | refine o_lss (h := ?_))) | (refine d_AW (h := ?_) ; first | refine AW.seq (h := ?_) | refine AW.region (h := ?_) | (refine AW.cond (ht := (fun hc => ?_)) (hf := (fun hc => ?_)) <;> (try (with_reducible first | exact absurd hc Bool.false_ne_true | exact absurd hc.symm Bool.false_ne_true)) <;> (try simp only [decide_eq_true_eq, decide_eq_false_iff_not, Int.ofNat_inj, Bool.not_eq_true', Bool.not_eq_false', Int.not_lt, Int.not_le] at hc) <;> (try (exfalso; omega)) <;> (try (exact absurd hc (by decide)))) | refine AW.block (h := ?_) | refine AW.skip (h := ?_)) | (first | refine t_normal ?_) | fail)
    refine AW.loopN [0, 6, 8, 9, 10, 11] (fun k st => ∃ q : Nat, q + k = 4 ∧ st = ⟨48, [(0, .pointer (some ⟨j0, 0, none⟩)), (6, .pointer (some ⟨M.length + 2, 0, none⟩)), (8, .pointer (some ⟨M.length + 3, 0, none⟩)), (9, .pointer (some ⟨M.length + 4, 0, none⟩)), (10, .int .i64 (i : Int)), (11, .int .i64 (q : Int))], M ++ [foB s, foB t, flB fun _ => 0, ⟨J, none, true⟩, ⟨tab 16 fun p => .float .f32 (if p < i * 4 + q then wnF F.f h p else 0), none, true⟩]⟩) 4 ⟨0, by omega, rfl⟩ ?_
    rintro k2 st ⟨q, hqk, rfl⟩
    by_cases hqn : q < 4
    · have hst := step_tab (N := 16) (i := i * 4 + q) (f := wnF F.f h) (v := fmul .f32 (F.f i) (jA h i q)) (by unfold wnF jA; rw [wn_div hqn])
      have hlf := lf i hin
      have hla := la i q hin hqn
      clear lf la hT
      repeat' (first | (refine d_AOs (h := ?_) ; first | refine o_move (h := ?_) | refine o_assign (h := ?_) | refine AOs.nil (h := ?_) | (refine d_bin (h := ?_) ; first | refine o_addS (h := ?_) | refine o_lss (h := ?_))) | (refine d_AW (h := ?_) ; first | refine AW.seq (h := ?_) | refine AW.region (h := ?_) | refine AW.openW1M (M ++ [foB s, foB t, flB fun _ => 0, ⟨J, none, true⟩, ⟨tab 16 fun p => .float .f32 (if p < i * 4 + q then wnF F.f h p else 0), none, true⟩]) 19 (M ++ [foB s, foB t, flB fun _ => 0, ⟨J, none, true⟩, ⟨tab 16 (fun p => if p = i * 4 + q then Value.float .f32 (fmul .f32 (F.f i) (jA h i q)) else (fun p => .float .f32 (if p < i * 4 + q then wnF F.f h p else 0)) p), none, true⟩]) (h := ?_) | (refine AW.cond (ht := (fun hc => ?_)) (hf := (fun hc => ?_)) <;> (try (with_reducible first | exact absurd hc Bool.false_ne_true | exact absurd hc.symm Bool.false_ne_true)) <;> (try simp only [decide_eq_true_eq, decide_eq_false_iff_not, Int.ofNat_inj, Bool.not_eq_true', Bool.not_eq_false', Int.not_lt, Int.not_le] at hc) <;> (try (exfalso; omega)) <;> (try (exact absurd hc (by decide)))) | refine AW.block (h := ?_) | refine AW.skip (h := ?_)) | (first | refine t_normal ?_ | refine b_normal ?_) | (refine d_W (h := ?_) ; first | refine w1_nil (h := ?_) | refine w1_stepN (h2 := ?_) | refine w1_step (h2 := ?_) | refine w1_step (h1 := by (simp only [ObK, aft, cond_true, cond_false]; repeat' (first | refine And.intro ?_ ?_ | ((refine d_AOs ?_; first | refine o_load (hv := hlf) (h := ?_) | refine o_load (hv := hla) (h := ?_)) <;> exact AOs.nil rfl)))) (h2 := ?_)) | fail)
      all_goals exact ⟨k2 - 1, by omega, q + 1, by omega, by rw [← Nat.add_assoc, ← hst]; rfl⟩
    · obtain rfl : q = 4 := by omega
      repeat' (first | (refine d_AOs (h := ?_) ; first | refine o_move (h := ?_) | refine o_assign (h := ?_) | refine AOs.nil (h := ?_) | (refine d_bin (h := ?_) ; first | refine o_addS (h := ?_) | refine o_lss (h := ?_))) | (refine d_AW (h := ?_) ; first | refine AW.seq (h := ?_) | refine AW.region (h := ?_) | (refine AW.cond (ht := (fun hc => ?_)) (hf := (fun hc => ?_)) <;> (try (with_reducible first | exact absurd hc Bool.false_ne_true | exact absurd hc.symm Bool.false_ne_true)) <;> (try simp only [decide_eq_true_eq, decide_eq_false_iff_not, Int.ofNat_inj, Bool.not_eq_true', Bool.not_eq_false', Int.not_lt, Int.not_le] at hc) <;> (try (exfalso; omega)) <;> (try (exact absurd hc (by decide)))) | refine AW.exit (h := ?_)) | (first | refine t_normal ?_ | refine t_exit ?_ | refine b_normal ?_ | refine b_exit ?_) | fail)
      all_goals exact ⟨k - 1, by omega, i + 1, by omega, by rw [Nat.add_mul, Nat.one_mul]; rfl⟩
  · obtain rfl : i = 4 := by omega
    have e16 : (tab 16 fun q => Value.float .f32 (if q < 4 * 4 then wnF F.f h q else 0)) = tab 16 fun q => .float .f32 (wnF F.f h q) := full_tab
    rw [e16]
    repeat' (first | (refine d_AOs (h := ?_) ; first | refine o_move (h := ?_) | refine o_assign (h := ?_) | refine AOs.nil (h := ?_) | (refine d_bin (h := ?_) ; first | refine o_lss (h := ?_)) | refine o_call (hc := (hT _)) (h := ?_) | refine o_store (hw := by exact whole_tab (fun i => rfl)) (hcs := by exact st_all (by rfl)) (h := ?_) | refine o_load (h := ?_) | refine o_extract (h := ?_)) | (refine d_AW (h := ?_) ; first | refine AW.seq (h := ?_) | refine AW.region (h := ?_) | (refine AW.cond (ht := (fun hc => ?_)) (hf := (fun hc => ?_)) <;> (try (with_reducible first | exact absurd hc Bool.false_ne_true | exact absurd hc.symm Bool.false_ne_true)) <;> (try simp only [decide_eq_true_eq, decide_eq_false_iff_not, Int.ofNat_inj, Bool.not_eq_true', Bool.not_eq_false', Int.not_lt, Int.not_le] at hc) <;> (try (exfalso; omega)) <;> (try (exact absurd hc (by decide)))) | refine AW.ret (h := ?_) | refine AW.exit (h := ?_)) | (first | refine t_normal ?_ | refine t_exit ?_ | refine b_exit ?_) | (refine d_post (h := ?_) ; first | refine p_ret2 rfl (h := ?_)) | fail)
    all_goals first | rfl | (exfalso; first | omega | (simp_all; done))
variable (hP : jnP (n : Int) (o : Int) h) (hn1 : 1 ≤ n ∧ n ≤ 4) (ho1 : 1 ≤ o ∧ o ≤ 4) (hs : SnOk n s) (ht : SnOk o t)
include hP hn1 ho1 hs ht
omit ho hf in
set_option maxHeartbeats 8000000 in
theorem sasked (j0 : Nat) (M : Mem) (hb : M[j0]? = some (jnB (n : Int) (o : Int) h)) : Pure Try.prog 21 [.pointer (some ⟨j0, 0, none⟩), foV s, foV t] M (.int .i64 0) := by
  refine pure_of Try.func21 Try.ntmps21 rfl rfl (by repeat' (first | exact Flat.int _ _ | fail)) ?_
  have hK := fun M' h' => sl03Ok (n : Int) (o : Int) h j0 true M' h'
  rw [decide_eq_true hP] at hK
  have hF1 := fun M' => sl03Fits s n hs M'
  have hF2 := fun M' => sl03Fits t o ht M'
  clear hP
  simp only [envOf, Nat.zero_add, Nat.reduceAdd]
  repeat' (first | (refine d_AOs (h := ?_) ; first | refine o_move (h := ?_) | refine o_assign (h := ?_) | refine AOs.nil (h := ?_) | refine o_call (hc := (hK _ (by first | exact hb | exact mem_head hb))) (h := ?_) | refine o_not (h := ?_) | refine o_box (h := ?_)) | (refine d_AW (h := ?_) ; first | refine AW.seq (h := ?_) | refine AW.region (h := ?_) | refine AW.open_ (h := ?_) | (refine AW.cond (ht := (fun hc => ?_)) (hf := (fun hc => ?_)) <;> (try (with_reducible first | exact absurd hc Bool.false_ne_true | exact absurd hc.symm Bool.false_ne_true)) <;> (try simp only [decide_eq_true_eq, decide_eq_false_iff_not, Int.ofNat_inj, Bool.not_eq_true', Bool.not_eq_false', Int.not_lt, Int.not_le] at hc) <;> (try (exfalso; omega)) <;> (try (exact absurd hc (by decide)))) | refine AW.ret (h := ?_) | refine AW.skip (h := ?_)) | (first | refine t_normal ?_) | (refine d_AQ (h := ?_) ; first | refine q_nil (h := ?_) | refine q_step (h2 := ?_) | refine q_yes (h2 := ?_) | refine q_step (h1 := by (refine d_AOs ?_; first | refine o_load (hv := jn_ld0) (h := ?_) | refine o_load (hv := jn_ld1) (h := ?_) | refine o_call (hc := (hK _ (by first | exact hb | exact mem_head hb))) (h := ?_) | refine o_call (hc := (hF1 _)) (h := ?_) | refine o_call (hc := (hF2 _)) (h := ?_)) <;> exact AOs.nil rfl) (h2 := ?_) | refine q_yes (h1 := by (refine d_AOs ?_; first | refine o_load (hv := jn_ld0) (h := ?_) | refine o_load (hv := jn_ld1) (h := ?_) | refine o_call (hc := (hK _ (by first | exact hb | exact mem_head hb))) (h := ?_) | refine o_call (hc := (hF1 _)) (h := ?_) | refine o_call (hc := (hF2 _)) (h := ?_)) <;> exact AOs.nil rfl) (h2 := ?_)) | (refine d_post (h := ?_) ; first | refine p_ret1 rfl (h := ?_)) | fail)
  all_goals first | rfl | (exfalso; simp at hc; done)
set_option maxHeartbeats 8000000 in
theorem sFlowsOf (M : Mem) : Pure Try.prog 8 [jnV (n : Int) (o : Int) h, foV s, foV t] M (.tuple [flV (wnF (filR h s t n o).f h), .int .i64 0].toArray) := by
  refine pure_of Try.func8 Try.ntmps8 rfl rfl (by repeat' (first | exact Flat.int _ _ | exact flat_nil | exact flat_tabL (fun _ => Flat.float _ _) | refine flat_tuple ?_ | refine flat_agg ?_ | refine flat_cons ?_ ?_ | fail)) ?_
  have hA := fun M' h' => sasked hP hn1 ho1 hs ht M.length M' h'
  have hF := fun M' h' => sflows (n := n) (o := o) (h := h) (s := s) (t := t) ho hf M.length M' h'
  generalize wnF (filR h s t n o).f h = g at *
  simp only [envOf, Nat.zero_add, Nat.reduceAdd]
  repeat' (first | (refine d_AOs (h := ?_) ; first | refine o_move (h := ?_) | refine o_assign (h := ?_) | refine AOs.nil (h := ?_) | (refine d_bin (h := ?_) ; first | refine o_nei (h := ?_)) | refine o_call (hc := (hA _ (by first | (simp only [mem_tail, mem_tail0, List.getElem?_cons_zero, List.getElem?_cons_succ]; first | done | rfl) | exact mem_head (by assumption) | assumption | (simp only [mem_tailS, mem_tailS0, List.getElem?_cons_zero, List.getElem?_cons_succ]; first | done | rfl) | exact mem_set1 (by assumption) | exact mem_set0 (by assumption) | exact mem_setN1 (by assumption) (by assumption) | exact mem_setN (by assumption) (by assumption)))) (h := ?_) | refine o_call (hc := (hF _ (by first | (simp only [mem_tail, mem_tail0, List.getElem?_cons_zero, List.getElem?_cons_succ]; first | done | rfl) | exact mem_head (by assumption) | assumption | (simp only [mem_tailS, mem_tailS0, List.getElem?_cons_zero, List.getElem?_cons_succ]; first | done | rfl) | exact mem_set1 (by assumption) | exact mem_set0 (by assumption) | exact mem_setN1 (by assumption) (by assumption) | exact mem_setN (by assumption) (by assumption)))) (h := ?_) | refine o_store (hw := by exact whole_tab (fun i => rfl)) (hcs := by exact st_all (by rfl)) (h := ?_) | refine o_load (h := ?_) | refine o_box (h := ?_) | refine o_alloc (h := ?_) | refine o_extract (h := ?_)) | (refine d_AW (h := ?_) ; first | refine AW.seq (h := ?_) | refine AW.region (h := ?_) | (refine AW.cond (ht := (fun hc => ?_)) (hf := (fun hc => ?_)) <;> (try (with_reducible first | exact absurd hc Bool.false_ne_true | exact absurd hc.symm Bool.false_ne_true)) <;> (try simp only [decide_eq_true_eq, decide_eq_false_iff_not, Int.ofNat_inj, Bool.not_eq_true', Bool.not_eq_false', Int.not_lt, Int.not_le] at hc) <;> (try (exfalso; omega)) <;> (try (exact absurd hc (by decide)))) | refine AW.ret (h := ?_) | refine AW.skip (h := ?_)) | (first | refine t_normal ?_) | (refine d_post (h := ?_) ; first | refine p_ret2 rfl (h := ?_)) | fail)
  all_goals first | rfl | (exfalso; simp at hc; done)
omit hf in
set_option maxHeartbeats 8000000 in
theorem sStoppedBy (M : Mem) : Pure Try.prog 10 [jnV (n : Int) (o : Int) h, foV s, foV t] M (.tuple [byV (filR h s t n o).b, .int .i64 0].toArray) := by
  refine pure_of Try.func10 Try.ntmps10 rfl rfl (by repeat' (first | exact Flat.int _ _ | exact flat_nil | exact flat_tabL (fun _ => Flat.int _ _) | refine flat_tuple ?_ | refine flat_agg ?_ | refine flat_cons ?_ ?_ | fail)) ?_
  have hA := fun M' h' => sasked hP hn1 ho1 hs ht M.length M' h'
  have hF := fun M' h' => sfilled (n := n) (o := o) (h := h) (s := s) (t := t) ho M.length M' h'
  have hB := fld_B (d := 1) (N := 25) (X := fun _ => .pointer (some ⟨M.length, 0, none⟩)) (s := s) (t := t) (S := filR h s t n o) rfl
  generalize filR h s t n o = F at *
  simp only [envOf, Nat.zero_add, Nat.reduceAdd]
  repeat' (first | (refine d_AOs (h := ?_) ; first | refine o_move (h := ?_) | refine o_assign (h := ?_) | refine AOs.nil (h := ?_) | (refine d_bin (h := ?_) ; first | refine o_nei (h := ?_)) | refine o_call (hc := (hA _ (by first | (simp only [mem_tail, mem_tail0, List.getElem?_cons_zero, List.getElem?_cons_succ]; first | done | rfl) | exact mem_head (by assumption) | assumption | (simp only [mem_tailS, mem_tailS0, List.getElem?_cons_zero, List.getElem?_cons_succ]; first | done | rfl) | exact mem_set1 (by assumption) | exact mem_set0 (by assumption) | exact mem_setN1 (by assumption) (by assumption) | exact mem_setN (by assumption) (by assumption)))) (h := ?_) | refine o_callA (hc := (hF _ (by first | (simp only [mem_tail, mem_tail0, List.getElem?_cons_zero, List.getElem?_cons_succ]; first | done | rfl) | exact mem_head (by assumption) | assumption | (simp only [mem_tailS, mem_tailS0, List.getElem?_cons_zero, List.getElem?_cons_succ]; first | done | rfl) | exact mem_set1 (by assumption) | exact mem_set0 (by assumption) | exact mem_setN1 (by assumption) (by assumption) | exact mem_setN (by assumption) (by assumption)))) (h := ?_) | refine o_load (hv := hB) (h := ?_) | refine o_store (hw := by exact whole_tab (fun i => rfl)) (hcs := by exact st_all (by rfl)) (h := ?_) | refine o_load (h := ?_) | refine o_field (h := ?_) | refine o_nil (h := ?_) | refine o_box (h := ?_) | refine o_alloc (h := ?_)) | (refine d_AW (h := ?_) ; first | refine AW.seq (h := ?_) | refine AW.region (h := ?_) | (refine AW.cond (ht := (fun hc => ?_)) (hf := (fun hc => ?_)) <;> (try (with_reducible first | exact absurd hc Bool.false_ne_true | exact absurd hc.symm Bool.false_ne_true)) <;> (try simp only [decide_eq_true_eq, decide_eq_false_iff_not, Int.ofNat_inj, Bool.not_eq_true', Bool.not_eq_false', Int.not_lt, Int.not_le] at hc) <;> (try (exfalso; omega)) <;> (try (exact absurd hc (by decide)))) | refine AW.ret (h := ?_) | refine AW.skip (h := ?_)) | (first | refine t_normal ?_) | (refine d_post (h := ?_) ; first | refine p_ret2 rfl (h := ?_)) | fail)
  all_goals first | rfl | (exfalso; simp at hc; done)
end
end Go.Proofs.Ytjghdagcmombnaa
