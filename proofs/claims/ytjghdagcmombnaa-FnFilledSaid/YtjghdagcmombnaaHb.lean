/- Junctions that are valid: the program's check. -/
import Derived.Test.YtjghdagcmombnaaJv
import Derived.Test.YtjghdagcmombnaaGc
import Derived.Test.YtjghdagcmombnaaGd

namespace Go.Proofs.Ytjghdagcmombnaa
open Go.RowKit
attribute [local irreducible] AW AOs AO AQ AQW thenA inBlockA postA ACalls Pure
set_option linter.unusedSimpArgs false
set_option linter.unusedVariables false
set_option linter.unusedSectionVars false

/-- What is told of all floats within a value. -/
theorem Pure.givenAll {P : Program} {f : FuncId} {args : List Value} {M : Mem} {v : Value} {cs : List Value} (i : Nat) (hi : args[i]? = some (.agg cs.toArray)) (h : (∀ (j : Nat) (k : FloatKind) (a : Nat), cs[j]? = some (.float k a) → FltOk k a) → Pure P f args M v) : Pure P f args M v := by
  unfold Pure ACalls at h ⊢
  intro B0 w0 r w cargs hs hv
  have hl : i < cargs.length := by rw [← hv.1]; exact (List.getElem?_eq_some_iff.1 hi).1
  have h1 := hv.2 i _ _ hi (List.getElem?_eq_getElem hl)
  obtain ⟨ys, hy, hyl, hys⟩ := h1.agg_inv
  refine h (fun j k a hj => ?_) B0 w0 r w cargs hs hv
  have hl2 : j < ys.length := by rw [← hyl]; simpa using (List.getElem?_eq_some_iff.1 hj).1
  exact (hys j _ _ (by simpa using hj) (List.getElem?_eq_getElem hl2)).fltOk

section
variable (ins outs : Int) (h : Nat → Nat)
set_option maxHeartbeats 16000000 in
theorem iValidJunction (M : Mem) : Pure Try.prog 35 [jnV ins outs h] M (.bool (decide (jnP ins outs h))) := by
  refine Pure.closed fun hM => ?_
  refine Pure.givenAll 0 rfl fun hfl => ?_
  have hbd : ∀ i k, i < 4 → k < 4 → jA h i k < 4294967296 := fun i k hi hk => by
    have := hfl (2 + (i * 4 + k)) .f32 (jA h i k) (by
      rw [tab_get (by omega)]
      unfold jnJ jA
      rw [if_neg (by omega), if_neg (by omega)])
    exact this.1
  clear hfl
  refine pure_of Try.func35 Try.ntmps35 rfl rfl (by repeat' (first | exact Flat.bool _ | fail)) ?_
  have hA := fun M' => iisArms ins M'
  have hB := fun M' => iisArms outs M'
  by_cases hi : 1 ≤ ins ∧ ins ≤ 4
  · rw [decide_eq_true hi] at hA
    by_cases ho : 1 ≤ outs ∧ outs ≤ 4
    · rw [decide_eq_true ho] at hB
      simp only [envOf, Nat.zero_add, Nat.reduceAdd]
      repeat' (first | (refine d_AOs (h := ?_) ; first | refine o_move (h := ?_) | refine o_assign (h := ?_) | refine AOs.nil (h := ?_) | (refine d_grd (h := ?_) ; first | refine g_yes (h := ?_)) | refine o_load (hv := jn_ld0) (h := ?_) | refine o_load (hv := jn_ld1) (h := ?_) | refine o_load (hv := jn_ldT) (h := ?_) | refine o_call (hc := (hA _)) (h := ?_) | refine o_call (hc := (hB _)) (h := ?_) | refine o_field (h := ?_) | refine o_pick (h := ?_) | refine o_not (h := ?_) | refine o_box (h := ?_)) | (refine d_AW (h := ?_) ; first | refine AW.seq (h := ?_) | refine AW.region (h := ?_) | (refine AW.cond (ht := (fun hc => ?_)) (hf := (fun hc => ?_)) <;> (try (with_reducible first | exact absurd hc Bool.false_ne_true | exact absurd hc.symm Bool.false_ne_true)) <;> (try simp only [decide_eq_true_eq, decide_eq_false_iff_not, Int.ofNat_inj, Bool.not_eq_true', Bool.not_eq_false', Int.not_lt, Int.not_le] at hc) <;> (try (exfalso; omega)) <;> (try (exact absurd hc (by decide)))) | refine AW.block (h := ?_) | refine AW.skip (h := ?_)) | (first | refine t_normal ?_) | fail)
      all_goals try (exfalso; simp at hc; done)
      clear hA hB
      refine AW.loopG [1, 20, 21] (fun k st => ∃ i : Nat, i + k = 4 ∧ (∀ q, q < i → (∀ k : Nat, k < 4 → jC ins outs h q k = true) ∧ jE ins h q = true) ∧ st = ⟨84, [(1, .pointer (some ⟨M.length, 0, none⟩)), (20, .agg (tab 16 fun q => Value.float .f32 (h (2 + q))).toArray), (21, .int .i64 (i : Int))], M ++ [⟨tab 22 (jnJ ins outs h), none, true⟩]⟩) 4 ⟨0, by omega, fun q hq => by omega, rfl⟩ ?_
      rintro k st ⟨i, hik, hR, rfl⟩
      by_cases hin : i < 4
      · have hldT := jn_ldR (h := h) hin
        have hldP : ldA .one (18 + i) (tab 22 (jnJ ins outs h)) = some (.float .f32 (h (18 + i))) := jn_ldP hin
        obtain ⟨vb, hvb⟩ : ∃ vb, decide ((i : Int) < ins) = vb := ⟨_, rfl⟩
        repeat' (first | (refine d_AOs (h := ?_) ; first | refine o_move (h := ?_) | refine o_assign (h := ?_) | refine AOs.nil (h := ?_) | (refine d_bin (h := ?_) ; first | refine o_lss (h := ?_)) | refine o_load (hv := jn_ld0) (h := ?_) | refine o_ix (hv := hldT) (h := ?_) | refine o_load (h := ?_) | refine o_field (h := ?_) | refine o_store (h := ?_) | refine o_alloc (h := ?_)) | (refine d_AW (h := ?_) ; first | refine AW.seq (h := ?_) | refine AW.region (h := ?_) | (refine AW.cond (ht := (fun hc => ?_)) (hf := (fun hc => ?_)) <;> (try (with_reducible first | exact absurd hc Bool.false_ne_true | exact absurd hc.symm Bool.false_ne_true)) <;> (try simp only [decide_eq_true_eq, decide_eq_false_iff_not, Int.ofNat_inj, Bool.not_eq_true', Bool.not_eq_false', Int.not_lt, Int.not_le] at hc) <;> (try (exfalso; omega)) <;> (try (exact absurd hc (by decide)))) | refine AW.block (h := ?_) | refine AW.skip (h := ?_)) | (first | refine t_normal ?_) | fail)
        refine AW.loopN [1, 3, 4, 5, 20, 21, 29, 30] (fun k st => ∃ q : Nat, q + k = 4 ∧ (∀ p, p < q → jC ins outs h i p = true) ∧ st = ⟨84, [(1, .pointer (some ⟨M.length, 0, none⟩)), (3, .int .i64 (i : Int)), (4, .pointer (some ⟨M.length + 1, 0, none⟩)), (5, .bool vb), (20, .agg (tab 16 fun q => Value.float .f32 (h (2 + q))).toArray), (21, .int .i64 (i : Int)), (29, .agg (tab 4 fun q => Value.float .f32 (jA h i q)).toArray), (30, .int .i64 (q : Int))], M ++ [⟨tab 22 (jnJ ins outs h), none, true⟩, ⟨tab 4 fun q => .float .f32 (jA h i q), none, true⟩]⟩) 4 ⟨0, by omega, fun q hq => by omega, by rw [← hvb]; rfl⟩ ?_
        rintro k2 st ⟨q, hqk, hQ, rfl⟩
        by_cases hqn : q < 4
        · have hS1 := fun M' => iIsShare (jA h i q) M'
          have hld2 : ldA .one q (tab 4 fun q => Value.float .f32 (jA h i q)) = some (.float .f32 (jA h i q)) := ld_tab hqn rfl
          have hF : jC ins outs h i q = false → ¬ jnP ins outs h := fun e hP => by have := (hP.2.2 i hin).1 q hqn; rw [e] at this; cases this
          have hT : jC ins outs h i q = true → ∀ p, p < q + 1 → jC ins outs h i p = true := fun e p hp => by
            by_cases e2 : p = q
            · subst e2; exact e
            · exact hQ p (by omega)
          unfold jC at hF
          generalize hC : jC ins outs h i q = vc at hT
          unfold jC at hC
          clear hR hQ hbd hldT hldP
          generalize jA h i q = a at *
          subst hC
          cases hs : isSh a
          · rw [hs] at hS1 hF
            have hN := jn_no ins outs h (hF rfl)
            clear hF hT
            rw [← hN]
            clear hN
            repeat' (first | (refine d_AOs (h := ?_) ; first | refine o_move (h := ?_) | refine o_assign (h := ?_) | refine AOs.nil (h := ?_) | (refine d_bin (h := ?_) ; first | refine o_lss (h := ?_)) | (refine d_grd (h := ?_) ; first | refine g_no (h := ?_) | refine g_undef (h := ?_)) | refine o_ix (hq := by simp) (hv := hld2) (h := ?_) | refine o_call (hc := (hS1 _)) (h := ?_) | refine o_pick (h := ?_) | refine o_not (h := ?_)) | (refine d_AW (h := ?_) ; first | refine AW.seq (h := ?_) | refine AW.region (h := ?_) | (refine AW.cond (ht := (fun hc => ?_)) (hf := (fun hc => ?_)) <;> (try (with_reducible first | exact absurd hc Bool.false_ne_true | exact absurd hc.symm Bool.false_ne_true)) <;> (try simp only [decide_eq_true_eq, decide_eq_false_iff_not, Int.ofNat_inj, Bool.not_eq_true', Bool.not_eq_false', Int.not_lt, Int.not_le] at hc) <;> (try (exfalso; omega)) <;> (try (exact absurd hc (by decide)))) | refine AW.block (h := ?_) | refine AW.ret (h := ?_) | refine AW.skip (h := ?_)) | (first | refine t_normal ?_ | refine t_ret ?_ | refine b_ret ?_) | (refine d_post (h := ?_) ; first | refine p_ret1 rfl (h := ?_)) | fail)
            all_goals first | rfl | (exfalso; simp at hc; done)
          · rw [hs] at hS1 hF hT
            have hvb2 : vb = !decide (ins ≤ (i : Int)) := by
              rw [← hvb, ← decide_not]
              exact decide_eq_decide.2 (by omega)
            clear hvb
            cases hz : feq .f32 a 0
            all_goals rw [hz] at hF hT
            all_goals by_cases e1 : ins ≤ (i : Int)
            all_goals by_cases e2 : outs ≤ (q : Int)
            all_goals simp only [e1, e2, decide_true, decide_false, Bool.or_true, Bool.or_false, Bool.true_or, Bool.false_or, Bool.not_true, Bool.not_false, Bool.and_true, Bool.and_false, Bool.true_and, Bool.or_self, forall_const, Bool.true_eq_false, Bool.false_eq_true, false_implies] at hF hT hvb2
            all_goals subst hvb2
            all_goals clear hs
            all_goals repeat' (first | (refine d_AOs (h := ?_) ; first | refine o_move (h := ?_) | refine o_assign (h := ?_) | refine AOs.nil (h := ?_) | (refine d_bin (h := ?_) ; first | refine o_fneC (h := ?_) | refine o_addS (h := ?_) | refine o_lss (h := ?_) | refine o_geq (h := ?_)) | (refine d_grd (h := ?_) ; first | refine g_yes (h := ?_) | refine g_no (h := ?_) | (refine g_true (h1 := (fun hg => ?_)) (h0 := (fun hg => ?_)) <;> (try rw [hg]) <;> (try simp only [decide_eq_true_eq, decide_eq_false_iff_not, Int.ofNat_inj, Bool.not_eq_true', Bool.not_eq_false', Int.not_lt, Int.not_le] at hg) <;> (try (exfalso; omega)) <;> (try (exact absurd hg (by decide))))) | refine o_load (hv := jn_ld1) (h := ?_) | refine o_ix (hq := by simp) (hv := hld2) (h := ?_) | refine o_call (hc := (hS1 _)) (h := ?_) | refine o_field (h := ?_) | refine o_pick (h := ?_) | refine o_not (h := ?_)) | (refine d_AW (h := ?_) ; first | refine AW.seq (h := ?_) | refine AW.region (h := ?_) | (refine AW.cond (ht := (fun hc => ?_)) (hf := (fun hc => ?_)) <;> (try (with_reducible first | exact absurd hc Bool.false_ne_true | exact absurd hc.symm Bool.false_ne_true)) <;> (try simp only [decide_eq_true_eq, decide_eq_false_iff_not, Int.ofNat_inj, Bool.not_eq_true', Bool.not_eq_false', Int.not_lt, Int.not_le] at hc) <;> (try (exfalso; omega)) <;> (try (exact absurd hc (by decide)))) | refine AW.block (h := ?_) | refine AW.ret (h := ?_) | refine AW.skip (h := ?_)) | (first | refine t_normal ?_ | refine t_ret ?_ | refine b_normal ?_ | refine b_ret ?_) | (refine d_post (h := ?_) ; first | refine p_ret1 rfl (h := ?_)) | fail)
            all_goals first | exact jn_no ins outs h hF | exact ⟨k2 - 1, by omega, q + 1, by omega, hT, rfl⟩ | (exfalso; simp at hc; done)
        · obtain rfl : q = 4 := by omega
          have hP1 := fun M' => iisPrior (h (18 + i)) M'
          have hN1 := fun M' => iisNothing (h (18 + i)) M'
          have hcmp := jS_cmp (g := jA h i) (fun k hk => by have := hQ k hk; unfold jC at this; rw [Bool.and_eq_true] at this; exact this.1) (fun k hk => hbd i k hin hk)
          have hsum := fun M' hb => isumOf4 (jA h i) (M.length + 1) true M' hb
          have hF : jE ins h i = false → ¬ jnP ins outs h := fun e hP => by have := (hP.2.2 i hin).2; rw [e] at this; cases this
          have hT : jE ins h i = true → ∀ q, q < i + 1 → (∀ k : Nat, k < 4 → jC ins outs h q k = true) ∧ jE ins h q = true := fun e p hp => by
            by_cases e2 : p = i
            · subst e2; exact ⟨hQ, e⟩
            · exact hR p (by omega)
          have hE : jE ins h i = if (i : Int) < ins then (!flt .f32 (jSum (jA h i) 3) 1065336439 && !fgt .f32 (jSum (jA h i) 3) 1065361605) && prB (h (18 + i)) else noB (h (18 + i)) := by
            rw [← hcmp.1, ← hcmp.2]; rfl
          generalize jE ins h i = ve at *
          clear hcmp hR hQ hbd hldT
          generalize h (18 + i) = pr at *
          generalize jSum (jA h i) 3 = s0 at *
          have hCl := closed1 hM (b1 := ⟨tab 22 (jnJ ins outs h), none, true⟩) jn_flat
          by_cases e1 : (i : Int) < ins
          · rw [decide_eq_true e1] at hvb
            rw [if_pos e1] at hE
            subst hvb hE
            cases hz1 : flt .f32 s0 1065336439
            · cases hz2 : fgt .f32 s0 1065361605
              all_goals cases hz3 : prB pr
              all_goals rw [hz1, hz2, hz3] at hF hT
              all_goals rw [hz3] at hP1
              all_goals simp only [Bool.not_true, Bool.not_false, Bool.and_true, Bool.and_false, Bool.true_and, Bool.false_and, Bool.and_self, forall_const, Bool.true_eq_false, Bool.false_eq_true, false_implies] at hF hT
              all_goals clear hz3
              all_goals repeat' (first | (refine d_AOs (h := ?_) ; first | refine o_move (h := ?_) | refine o_assign (h := ?_) | refine AOs.nil (h := ?_) | (refine d_bin (h := ?_) ; first | refine o_fltC (h := ?_) | refine o_fgtC (h := ?_) | refine o_addS (h := ?_) | refine o_lss (h := ?_)) | (refine d_grd (h := ?_) ; first | refine g_yes (h := ?_) | refine g_no (h := ?_) | refine g_undef (h := ?_)) | refine o_slArr (h := ?_) | refine o_load (hv := hldP) (h := ?_) | refine o_call (hc := (hsum _ (by first | (simp only [mem_tail, mem_tail0, List.getElem?_cons_zero, List.getElem?_cons_succ]; first | done | rfl) | exact mem_head (by assumption) | assumption | (simp only [mem_tailS, mem_tailS0, List.getElem?_cons_zero, List.getElem?_cons_succ]; first | done | rfl) | exact mem_set1 (by assumption) | exact mem_set0 (by assumption) | exact mem_setN1 (by assumption) (by assumption) | exact mem_setN (by assumption) (by assumption)))) (h := ?_) | refine o_call (hc := (hP1 _)) (h := ?_) | refine o_at (h := ?_) | refine o_field (h := ?_) | refine o_pick (h := ?_) | refine o_not (h := ?_)) | (refine d_AW (h := ?_) ; first | refine AW.seq (h := ?_) | refine AW.region (h := ?_) | (refine AW.cond (ht := (fun hc => ?_)) (hf := (fun hc => ?_)) <;> (try (with_reducible first | exact absurd hc Bool.false_ne_true | exact absurd hc.symm Bool.false_ne_true)) <;> (try simp only [decide_eq_true_eq, decide_eq_false_iff_not, Int.ofNat_inj, Bool.not_eq_true', Bool.not_eq_false', Int.not_lt, Int.not_le] at hc) <;> (try (exfalso; omega)) <;> (try (exact absurd hc (by decide)))) | refine AW.ret (h := ?_) | refine AW.skip (h := ?_) | refine AW.exit (h := ?_)) | (first | refine t_normal ?_ | refine t_ret ?_ | refine t_exit ?_ | refine b_normal ?_ | refine b_exit ?_ | refine b_ret ?_) | (refine d_post (h := ?_) ; first | refine p_ret1 rfl (h := ?_)) | fail)
              all_goals first | exact jn_no ins outs h hF | exact ⟨k - 1, M ++ [⟨tab 22 (jnJ ins outs h), none, true⟩], [⟨tab 4 fun q => .float .f32 (jA h i q), none, true⟩], by omega, next_TT (T := [⟨tab 22 (jnJ ins outs h), none, true⟩]) (G := [⟨tab 4 fun q => .float .f32 (jA h i q), none, true⟩]) rfl, by simp, hCl, (by repeat' (first | exact True.intro | refine And.intro ?_ ?_ | exact Bel.flat (Flat.int _ _) | exact Bel.flat (flat_agg (flat_tabL (fun _ => Flat.float _ _))) | refine Bel.ptr ?_ | (first | (simp only [List.length_append, List.length_cons, List.length_nil]; omega)) | fail)), i + 1, by omega, hT, rfl⟩ | (exfalso; simp at hc; done)
            · rw [hz1] at hF
              have hN := jn_no ins outs h (hF rfl)
              clear hF hT
              rw [← hN]
              clear hN
              repeat' (first | (refine d_AOs (h := ?_) ; first | refine o_move (h := ?_) | refine o_assign (h := ?_) | refine AOs.nil (h := ?_) | (refine d_bin (h := ?_) ; first | refine o_fltC (h := ?_) | refine o_lss (h := ?_)) | (refine d_grd (h := ?_) ; first | refine g_yes (h := ?_) | refine g_no (h := ?_) | refine g_undef (h := ?_)) | refine o_slArr (h := ?_) | refine o_call (hc := (hsum _ (by first | (simp only [mem_tail, mem_tail0, List.getElem?_cons_zero, List.getElem?_cons_succ]; first | done | rfl) | exact mem_head (by assumption) | assumption | (simp only [mem_tailS, mem_tailS0, List.getElem?_cons_zero, List.getElem?_cons_succ]; first | done | rfl) | exact mem_set1 (by assumption) | exact mem_set0 (by assumption) | exact mem_setN1 (by assumption) (by assumption) | exact mem_setN (by assumption) (by assumption)))) (h := ?_) | refine o_pick (h := ?_)) | (refine d_AW (h := ?_) ; first | refine AW.seq (h := ?_) | refine AW.region (h := ?_) | (refine AW.cond (ht := (fun hc => ?_)) (hf := (fun hc => ?_)) <;> (try (with_reducible first | exact absurd hc Bool.false_ne_true | exact absurd hc.symm Bool.false_ne_true)) <;> (try simp only [decide_eq_true_eq, decide_eq_false_iff_not, Int.ofNat_inj, Bool.not_eq_true', Bool.not_eq_false', Int.not_lt, Int.not_le] at hc) <;> (try (exfalso; omega)) <;> (try (exact absurd hc (by decide)))) | refine AW.ret (h := ?_) | refine AW.exit (h := ?_)) | (first | refine t_normal ?_ | refine t_ret ?_ | refine t_exit ?_ | refine b_exit ?_ | refine b_ret ?_) | (refine d_post (h := ?_) ; first | refine p_ret1 rfl (h := ?_)) | fail)
              all_goals first | rfl | (exfalso; simp at hc; done)
          · rw [decide_eq_false e1] at hvb
            rw [if_neg e1] at hE
            subst hvb hE
            cases hz1 : noB pr
            all_goals rw [hz1] at hF hT hN1
            all_goals simp only [forall_const, Bool.true_eq_false, Bool.false_eq_true, false_implies] at hF hT
            all_goals clear hz1
            all_goals repeat' (first | (refine d_AOs (h := ?_) ; first | refine o_move (h := ?_) | refine o_assign (h := ?_) | refine AOs.nil (h := ?_) | (refine d_bin (h := ?_) ; first | refine o_addS (h := ?_) | refine o_lss (h := ?_)) | (refine d_grd (h := ?_) ; first | refine g_yes (h := ?_) | refine g_no (h := ?_) | refine g_undef (h := ?_)) | refine o_slArr (h := ?_) | refine o_load (hv := hldP) (h := ?_) | refine o_call (hc := (hsum _ (by first | (simp only [mem_tail, mem_tail0, List.getElem?_cons_zero, List.getElem?_cons_succ]; first | done | rfl) | exact mem_head (by assumption) | assumption | (simp only [mem_tailS, mem_tailS0, List.getElem?_cons_zero, List.getElem?_cons_succ]; first | done | rfl) | exact mem_set1 (by assumption) | exact mem_set0 (by assumption) | exact mem_setN1 (by assumption) (by assumption) | exact mem_setN (by assumption) (by assumption)))) (h := ?_) | refine o_call (hc := (hN1 _)) (h := ?_) | refine o_at (h := ?_) | refine o_field (h := ?_) | refine o_pick (h := ?_) | refine o_not (h := ?_)) | (refine d_AW (h := ?_) ; first | refine AW.seq (h := ?_) | refine AW.region (h := ?_) | (refine AW.cond (ht := (fun hc => ?_)) (hf := (fun hc => ?_)) <;> (try (with_reducible first | exact absurd hc Bool.false_ne_true | exact absurd hc.symm Bool.false_ne_true)) <;> (try simp only [decide_eq_true_eq, decide_eq_false_iff_not, Int.ofNat_inj, Bool.not_eq_true', Bool.not_eq_false', Int.not_lt, Int.not_le] at hc) <;> (try (exfalso; omega)) <;> (try (exact absurd hc (by decide)))) | refine AW.ret (h := ?_) | refine AW.skip (h := ?_) | refine AW.exit (h := ?_)) | (first | refine t_normal ?_ | refine t_ret ?_ | refine t_exit ?_ | refine b_normal ?_ | refine b_exit ?_ | refine b_ret ?_) | (refine d_post (h := ?_) ; first | refine p_ret1 rfl (h := ?_)) | fail)
            all_goals first | exact jn_no ins outs h hF | exact ⟨k - 1, M ++ [⟨tab 22 (jnJ ins outs h), none, true⟩], [⟨tab 4 fun q => .float .f32 (jA h i q), none, true⟩], by omega, next_TT (T := [⟨tab 22 (jnJ ins outs h), none, true⟩]) (G := [⟨tab 4 fun q => .float .f32 (jA h i q), none, true⟩]) rfl, by simp, hCl, (by repeat' (first | exact True.intro | refine And.intro ?_ ?_ | exact Bel.flat (Flat.int _ _) | exact Bel.flat (flat_agg (flat_tabL (fun _ => Flat.float _ _))) | refine Bel.ptr ?_ | (first | (simp only [List.length_append, List.length_cons, List.length_nil]; omega)) | fail)), i + 1, by omega, hT, rfl⟩ | (exfalso; simp at hc; done)
      · obtain rfl : i = 4 := by omega
        rw [decide_eq_true (show jnP ins outs h from ⟨hi, ho, hR⟩)]
        repeat' (first | (refine d_AOs (h := ?_) ; first | refine o_assign (h := ?_) | refine AOs.nil (h := ?_) | (refine d_bin (h := ?_) ; first | refine o_lss (h := ?_))) | (refine d_AW (h := ?_) ; first | refine AW.seq (h := ?_) | refine AW.region (h := ?_) | (refine AW.cond (ht := (fun hc => ?_)) (hf := (fun hc => ?_)) <;> (try (with_reducible first | exact absurd hc Bool.false_ne_true | exact absurd hc.symm Bool.false_ne_true)) <;> (try simp only [decide_eq_true_eq, decide_eq_false_iff_not, Int.ofNat_inj, Bool.not_eq_true', Bool.not_eq_false', Int.not_lt, Int.not_le] at hc) <;> (try (exfalso; omega)) <;> (try (exact absurd hc (by decide)))) | refine AW.ret (h := ?_) | refine AW.exit (h := ?_)) | (first | refine t_normal ?_ | refine t_exit ?_ | refine b_exit ?_) | (refine d_post (h := ?_) ; first | refine p_ret1 rfl (h := ?_)) | fail)
        all_goals rfl
    · have hN := jn_no ins outs h fun hP => ho hP.2.1
      rw [decide_eq_false ho] at hB
      rw [← hN]
      simp only [envOf, Nat.zero_add, Nat.reduceAdd]
      repeat' (first | (refine d_AOs (h := ?_) ; first | refine o_move (h := ?_) | refine o_assign (h := ?_) | refine AOs.nil (h := ?_) | (refine d_grd (h := ?_) ; first | refine g_yes (h := ?_)) | refine o_load (hv := jn_ld0) (h := ?_) | refine o_load (hv := jn_ld1) (h := ?_) | refine o_call (hc := (hA _)) (h := ?_) | refine o_call (hc := (hB _)) (h := ?_) | refine o_field (h := ?_) | refine o_pick (h := ?_) | refine o_not (h := ?_) | refine o_box (h := ?_)) | (refine d_AW (h := ?_) ; first | refine AW.seq (h := ?_) | refine AW.region (h := ?_) | (refine AW.cond (ht := (fun hc => ?_)) (hf := (fun hc => ?_)) <;> (try (with_reducible first | exact absurd hc Bool.false_ne_true | exact absurd hc.symm Bool.false_ne_true)) <;> (try simp only [decide_eq_true_eq, decide_eq_false_iff_not, Int.ofNat_inj, Bool.not_eq_true', Bool.not_eq_false', Int.not_lt, Int.not_le] at hc) <;> (try (exfalso; omega)) <;> (try (exact absurd hc (by decide)))) | refine AW.ret (h := ?_)) | (first | refine t_normal ?_ | refine t_ret ?_) | (refine d_post (h := ?_) ; first | refine p_ret1 rfl (h := ?_)) | fail)
      all_goals first | rfl | (exfalso; simp at hc; done)
  · have hN := jn_no ins outs h fun hP => hi hP.1
    rw [decide_eq_false hi] at hA
    rw [← hN]
    simp only [envOf, Nat.zero_add, Nat.reduceAdd]
    repeat' (first | (refine d_AOs (h := ?_) ; first | refine o_move (h := ?_) | refine o_assign (h := ?_) | refine AOs.nil (h := ?_) | (refine d_grd (h := ?_) ; first | refine g_no (h := ?_)) | refine o_load (hv := jn_ld0) (h := ?_) | refine o_call (hc := (hA _)) (h := ?_) | refine o_field (h := ?_) | refine o_pick (h := ?_) | refine o_not (h := ?_) | refine o_box (h := ?_)) | (refine d_AW (h := ?_) ; first | refine AW.seq (h := ?_) | refine AW.region (h := ?_) | (refine AW.cond (ht := (fun hc => ?_)) (hf := (fun hc => ?_)) <;> (try (with_reducible first | exact absurd hc Bool.false_ne_true | exact absurd hc.symm Bool.false_ne_true)) <;> (try simp only [decide_eq_true_eq, decide_eq_false_iff_not, Int.ofNat_inj, Bool.not_eq_true', Bool.not_eq_false', Int.not_lt, Int.not_le] at hc) <;> (try (exfalso; omega)) <;> (try (exact absurd hc (by decide)))) | refine AW.ret (h := ?_)) | (first | refine t_normal ?_ | refine t_ret ?_) | (refine d_post (h := ?_) ; first | refine p_ret1 rfl (h := ?_)) | fail)
    all_goals first | rfl | (exfalso; simp at hc; done)
end
end Go.Proofs.Ytjghdagcmombnaa

/- A filling in memory: what is sent, taken, flows, has come, which ways go, and by which out they are stopped. -/
namespace Go.Proofs.Ytjghdagcmombnaa
open Go.RowKit
attribute [local irreducible] AW AOs AO AQ AQW thenA inBlockA postA ACalls Pure
set_option linter.unusedSimpArgs false
set_option linter.unusedVariables false
set_option linter.unusedSectionVars false

/-- The state of a filling. -/
structure FSt where
  f : Nat → Nat
  c : Nat → Nat
  g : Nat → Bool
  b : Nat → Int
def upd {α : Type} (f : Nat → α) (i : Nat) (v : α) : Nat → α := fun q => if q = i then v else f q
theorem upd_eq {α : Type} {f : Nat → α} {i : Nat} {v : α} : upd f i v i = v := if_pos rfl
theorem upd_ne {α : Type} {f : Nat → α} {i q : Nat} {v : α} (h : q ≠ i) : upd f i v q = f q := if_neg h
/-- The cells of a filling, behind d others. -/
def fgV (d : Nat) (X : Nat → Value) (s t : Nat → Nat) (S : FSt) (q : Nat) : Value :=
  if q < d then X q else if q < d + 4 then .float .f32 (s (q - d)) else if q < d + 8 then .float .f32 (t (q - (d + 4))) else if q < d + 12 then .float .f32 (S.f (q - (d + 8)))
  else if q < d + 16 then .float .f32 (S.c (q - (d + 12))) else if q < d + 20 then .bool (S.g (q - (d + 16))) else .int .i64 (S.b (q - (d + 20)))
section
variable {d N : Nat} {X : Nat → Value} {s t : Nat → Nat} {S : FSt} (hN : d + 24 = N)
theorem fg_x {q : Nat} (h : q < d) : fgV d X s t S q = X q := if_pos h
theorem fg_s {i : Nat} (h : i < 4) : fgV d X s t S (d + i) = .float .f32 (s i) := by
  unfold fgV; rw [if_neg (by omega), if_pos (by omega), show d + i - d = i by omega]
theorem fg_t {i : Nat} (h : i < 4) : fgV d X s t S (d + 4 + i) = .float .f32 (t i) := by
  unfold fgV; rw [if_neg (by omega), if_neg (by omega), if_pos (by omega), show d + 4 + i - (d + 4) = i by omega]
theorem fg_f {i : Nat} (h : i < 4) : fgV d X s t S (d + 8 + i) = .float .f32 (S.f i) := by
  unfold fgV; rw [if_neg (by omega), if_neg (by omega), if_neg (by omega), if_pos (by omega), show d + 8 + i - (d + 8) = i by omega]
theorem fg_c {i : Nat} (h : i < 4) : fgV d X s t S (d + 12 + i) = .float .f32 (S.c i) := by
  unfold fgV; rw [if_neg (by omega), if_neg (by omega), if_neg (by omega), if_neg (by omega), if_pos (by omega), show d + 12 + i - (d + 12) = i by omega]
theorem fg_g {i : Nat} (h : i < 4) : fgV d X s t S (d + 16 + i) = .bool (S.g i) := by
  unfold fgV; rw [if_neg (by omega), if_neg (by omega), if_neg (by omega), if_neg (by omega), if_neg (by omega), if_pos (by omega), show d + 16 + i - (d + 16) = i by omega]
theorem fg_b {i : Nat} : fgV d X s t S (d + 20 + i) = .int .i64 (S.b i) := by
  unfold fgV; rw [if_neg (by omega), if_neg (by omega), if_neg (by omega), if_neg (by omega), if_neg (by omega), if_neg (by omega), show d + 20 + i - (d + 20) = i by omega]
theorem fg_cases {d : Nat} {q : Nat} (h : q < d + 24) : q < d ∨ ∃ i, i < 4 ∧ (q = d + i ∨ q = d + 4 + i ∨ q = d + 8 + i ∨ q = d + 12 + i ∨ q = d + 16 + i ∨ q = d + 20 + i) := by
  by_cases h0 : q < d
  · exact .inl h0
  refine .inr ⟨(q - d) % 4, by omega, ?_⟩
  omega
/-- Fillings that are alike in what is seen of them. -/
def feqS (S S' : FSt) : Prop := ∀ i, i < 4 → S.f i = S'.f i ∧ S.c i = S'.c i ∧ S.g i = S'.g i ∧ S.b i = S'.b i
theorem feqS.refl : feqS S S := fun _ _ => ⟨rfl, rfl, rfl, rfl⟩
include hN
theorem fg_congr {S' : FSt} (h : feqS S S') : tab N (fgV d X s t S) = tab N (fgV d X s t S') := tab_congr fun q hq => by
  rcases fg_cases (d := d) (q := q) (by omega) with h0 | ⟨i, hi, h1 | h1 | h1 | h1 | h1 | h1⟩
  · rw [fg_x h0, fg_x h0]
  · subst h1; rw [fg_s hi, fg_s hi]
  · subst h1; rw [fg_t hi, fg_t hi]
  · subst h1; rw [fg_f hi, fg_f hi, (h i hi).1]
  · subst h1; rw [fg_c hi, fg_c hi, (h i hi).2.1]
  · subst h1; rw [fg_g hi, fg_g hi, (h i hi).2.2.1]
  · subst h1; rw [fg_b, fg_b, (h i hi).2.2.2]
theorem fg_flat (hX : ∀ q, Flat (X q)) : ∀ c ∈ tab N (fgV d X s t S), Flat c := fun c hc => by
  obtain ⟨q, _, rfl⟩ := List.mem_map.1 hc
  unfold fgV
  split
  · exact hX q
  · split
    · exact Flat.float _ _
    · split
      · exact Flat.float _ _
      · split
        · exact Flat.float _ _
        · split
          · exact Flat.float _ _
          · split
            · exact Flat.bool _
            · exact Flat.int _ _
section
variable {x i : Nat} (hi : i < 4)
include hi
theorem fld_s (hx : x = d + i) : ldA .one x (tab N (fgV d X s t S)) = some (.float .f32 (s i)) := by subst hx; exact ld_tab (by omega) (fg_s hi)
theorem fld_t (hx : x = d + 4 + i) : ldA .one x (tab N (fgV d X s t S)) = some (.float .f32 (t i)) := by subst hx; exact ld_tab (by omega) (fg_t hi)
theorem fld_f (hx : x = d + 8 + i) : ldA .one x (tab N (fgV d X s t S)) = some (.float .f32 (S.f i)) := by subst hx; exact ld_tab (by omega) (fg_f hi)
theorem fld_c (hx : x = d + 12 + i) : ldA .one x (tab N (fgV d X s t S)) = some (.float .f32 (S.c i)) := by subst hx; exact ld_tab (by omega) (fg_c hi)
theorem fld_g (hx : x = d + 16 + i) : ldA .one x (tab N (fgV d X s t S)) = some (.bool (S.g i)) := by subst hx; exact ld_tab (by omega) (fg_g hi)
theorem fld_b (hx : x = d + 20 + i) : ldA .one x (tab N (fgV d X s t S)) = some (.int .i64 (S.b i)) := by subst hx; exact ld_tab (by omega) fg_b
theorem fst_f {v : Nat} (hx : x = d + 8 + i) : (tab N (fgV d X s t S)).take x ++ cellsA (.float .f32 v) ++ (tab N (fgV d X s t S)).drop (x + (cellsA (.float .f32 v)).length) = tab N (fgV d X s t { S with f := upd S.f i v }) := by
  subst hx
  rw [show cellsA (.float .f32 v) = [.float .f32 v] from rfl]
  refine (st_tab1 (by omega)).trans (tab_congr fun q hq => ?_)
  rcases fg_cases (d := d) (q := q) (by omega) with h0 | ⟨k, hk, h1 | h1 | h1 | h1 | h1 | h1⟩
  · rw [if_neg (by omega), fg_x h0, fg_x h0]
  · subst h1; rw [if_neg (by omega), fg_s hk, fg_s hk]
  · subst h1; rw [if_neg (by omega), fg_t hk, fg_t hk]
  · subst h1; rw [fg_f hk, fg_f hk]
    by_cases e : k = i
    · subst e; rw [if_pos rfl]; show _ = Value.float .f32 (upd S.f k v k); rw [upd_eq]
    · rw [if_neg (by omega)]; show _ = Value.float .f32 (upd S.f i v k); rw [upd_ne e]
  · subst h1; rw [if_neg (by omega), fg_c hk, fg_c hk]
  · subst h1; rw [if_neg (by omega), fg_g hk, fg_g hk]
  · subst h1; rw [if_neg (by omega), fg_b, fg_b]
theorem fst_c {v : Nat} (hx : x = d + 12 + i) : (tab N (fgV d X s t S)).take x ++ cellsA (.float .f32 v) ++ (tab N (fgV d X s t S)).drop (x + (cellsA (.float .f32 v)).length) = tab N (fgV d X s t { S with c := upd S.c i v }) := by
  subst hx
  rw [show cellsA (.float .f32 v) = [.float .f32 v] from rfl]
  refine (st_tab1 (by omega)).trans (tab_congr fun q hq => ?_)
  rcases fg_cases (d := d) (q := q) (by omega) with h0 | ⟨k, hk, h1 | h1 | h1 | h1 | h1 | h1⟩
  · rw [if_neg (by omega), fg_x h0, fg_x h0]
  · subst h1; rw [if_neg (by omega), fg_s hk, fg_s hk]
  · subst h1; rw [if_neg (by omega), fg_t hk, fg_t hk]
  · subst h1; rw [if_neg (by omega), fg_f hk, fg_f hk]
  · subst h1; rw [fg_c hk, fg_c hk]
    by_cases e : k = i
    · subst e; rw [if_pos rfl]; show _ = Value.float .f32 (upd S.c k v k); rw [upd_eq]
    · rw [if_neg (by omega)]; show _ = Value.float .f32 (upd S.c i v k); rw [upd_ne e]
  · subst h1; rw [if_neg (by omega), fg_g hk, fg_g hk]
  · subst h1; rw [if_neg (by omega), fg_b, fg_b]
theorem fst_g {v : Bool} (hx : x = d + 16 + i) : (tab N (fgV d X s t S)).take x ++ cellsA (.bool v) ++ (tab N (fgV d X s t S)).drop (x + (cellsA (.bool v)).length) = tab N (fgV d X s t { S with g := upd S.g i v }) := by
  subst hx
  rw [show cellsA (.bool v) = [.bool v] from rfl]
  refine (st_tab1 (by omega)).trans (tab_congr fun q hq => ?_)
  rcases fg_cases (d := d) (q := q) (by omega) with h0 | ⟨k, hk, h1 | h1 | h1 | h1 | h1 | h1⟩
  · rw [if_neg (by omega), fg_x h0, fg_x h0]
  · subst h1; rw [if_neg (by omega), fg_s hk, fg_s hk]
  · subst h1; rw [if_neg (by omega), fg_t hk, fg_t hk]
  · subst h1; rw [if_neg (by omega), fg_f hk, fg_f hk]
  · subst h1; rw [if_neg (by omega), fg_c hk, fg_c hk]
  · subst h1; rw [fg_g hk, fg_g hk]
    by_cases e : k = i
    · subst e; rw [if_pos rfl]; show _ = Value.bool (upd S.g k v k); rw [upd_eq]
    · rw [if_neg (by omega)]; show _ = Value.bool (upd S.g i v k); rw [upd_ne e]
  · subst h1; rw [if_neg (by omega), fg_b, fg_b]
theorem fst_b {v : Int} (hx : x = d + 20 + i) : (tab N (fgV d X s t S)).take x ++ cellsA (.int .i64 v) ++ (tab N (fgV d X s t S)).drop (x + (cellsA (.int .i64 v)).length) = tab N (fgV d X s t { S with b := upd S.b i v }) := by
  subst hx
  rw [show cellsA (.int .i64 v) = [.int .i64 v] from rfl]
  refine (st_tab1 (by omega)).trans (tab_congr fun q hq => ?_)
  rcases fg_cases (d := d) (q := q) (by omega) with h0 | ⟨k, hk, h1 | h1 | h1 | h1 | h1 | h1⟩
  · rw [if_neg (by omega), fg_x h0, fg_x h0]
  · subst h1; rw [if_neg (by omega), fg_s hk, fg_s hk]
  · subst h1; rw [if_neg (by omega), fg_t hk, fg_t hk]
  · subst h1; rw [if_neg (by omega), fg_f hk, fg_f hk]
  · subst h1; rw [if_neg (by omega), fg_c hk, fg_c hk]
  · subst h1; rw [if_neg (by omega), fg_g hk, fg_g hk]
  · subst h1; rw [fg_b, fg_b]
    by_cases e : k = i
    · subst e; rw [if_pos rfl]; show _ = Value.int .i64 (upd S.b k v k); rw [upd_eq]
    · rw [if_neg (by omega)]; show _ = Value.int .i64 (upd S.b i v k); rw [upd_ne e]
end
theorem fld_G : ldA (.agg 4) (d + 16) (tab N (fgV d X s t S)) = some (.agg (tab 4 fun q => .bool (S.g q)).toArray) := by
  rw [ld_part (by omega), tab_congr (n := 4) (f := fun q => fgV d X s t S (d + 16 + q)) (g := fun q => .bool (S.g q)) fun q hq => fg_g hq]
theorem fld_F : ldA (.agg 4) (d + 8) (tab N (fgV d X s t S)) = some (foV S.f) := by
  rw [ld_part (by omega), tab_congr (n := 4) (f := fun q => fgV d X s t S (d + 8 + q)) (g := fun q => .float .f32 (S.f q)) fun q hq => fg_f hq]
theorem fld_B : ldA (.agg 4) (d + 20) (tab N (fgV d X s t S)) = some (.agg (tab 4 fun q => .int .i64 (S.b q)).toArray) := by
  rw [ld_part (by omega), tab_congr (n := 4) (f := fun q => fgV d X s t S (d + 20 + q)) (g := fun q => .int .i64 (S.b q)) fun q hq => fg_b]
end
/-- The program's filling: a junction lies ahead. -/
abbrev fiV (n o : Int) (h s t : Nat → Nat) (S : FSt) : Nat → Value := fgV 22 (jnJ n o h) s t S
abbrev fiB (n o : Int) (h s t : Nat → Nat) (S : FSt) : Blk := ⟨tab 46 (fiV n o h s t S), none, true⟩
theorem jnJ_flat {n o : Int} {h : Nat → Nat} (q : Nat) : Flat (jnJ n o h q) := by
  unfold jnJ
  split
  · exact Flat.int _ _
  · split
    · exact Flat.int _ _
    · exact Flat.float _ _
theorem fi_flat {n o : Int} {h s t : Nat → Nat} {S : FSt} : ∀ c ∈ tab 46 (fiV n o h s t S), Flat c := fg_flat rfl jnJ_flat
section
variable {n o : Int} {h s t : Nat → Nat} {S : FSt}
theorem fi_jA {i k : Nat} (hi : i < 4) (hk : k < 4) : ldA .one (2 + i * 4 + k) (tab 46 (fiV n o h s t S)) = some (.float .f32 (jA h i k)) := ld_tab (by omega) (by
  show fgV _ _ _ _ _ _ = _
  rw [fg_x (by omega)]
  unfold jnJ jA
  rw [if_neg (by omega), if_neg (by omega), Nat.add_assoc])
theorem fi_pr {i : Nat} (hi : i < 4) : ldA .one (18 + i) (tab 46 (fiV n o h s t S)) = some (.float .f32 (h (18 + i))) := ld_tab (by omega) (by
  show fgV _ _ _ _ _ _ = _
  rw [fg_x (by omega)]
  unfold jnJ
  rw [if_neg (by omega), if_neg (by omega)])
theorem fi_row {i : Nat} (hi : i < 4) : ldA (.agg 4) (2 + i * 4) (tab 46 (fiV n o h s t S)) = some (.agg (tab 4 fun q => .float .f32 (jA h i q)).toArray) := by
  rw [ld_part (by omega), tab_congr (n := 4) (f := fun q => fiV n o h s t S (2 + i * 4 + q)) (g := fun q => .float .f32 (jA h i q)) fun q hq => by
    show fgV _ _ _ _ _ _ = _
    rw [fg_x (by omega)]
    unfold jnJ jA
    rw [if_neg (by omega), if_neg (by omega), Nat.add_assoc]]
end
end Go.Proofs.Ytjghdagcmombnaa
