/- Junctions that are valid: the program's check. -/
import Derived.Test.YtgdpcomemkimhaaGreatDoorJv
import Derived.Test.YtgdpcomemkimhaaGreatDoorHl

namespace Go.Proofs.YtgdpcomemkimhaaGreatDoor
open Go.RowKit
attribute [local irreducible] AW AOs AO AQ AQW thenA inBlockA postA ACalls Pure
set_option linter.unusedSimpArgs false
set_option linter.unusedVariables false
set_option linter.unusedSectionVars false

/-- What is told of all floats within a value. -/
theorem Pure.givenAll {P : Program} {f : FuncId} {args : List Value} {M : Mem} {v : Value} {cs : List Value} (i : Nat) (hi : args[i]? = some (.agg cs.toArray)) (h : (∀ (j : Nat) (k : FloatKind) (a : Nat), cs[j]? = some (.float k a) → FltOk k a) → Pure P f args M v) : Pure P f args M v := by
  unfold Pure ACalls at h ⊢
  intro B0 w0 r w cargs hs hv
  have hl : i < cargs.length := by rw [← hv.1]; exact (List.getElem?_eq_some_iff.1 hi).1
  have h1 := hv.2 i _ _ hi (List.getElem?_eq_getElem hl)
  obtain ⟨ys, hy, hyl, hys⟩ := h1.agg_inv
  refine h (fun j k a hj => ?_) B0 w0 r w cargs hs hv
  have hl2 : j < ys.length := by rw [← hyl]; simpa using (List.getElem?_eq_some_iff.1 hj).1
  exact (hys j _ _ (by simpa using hj) (List.getElem?_eq_getElem hl2)).fltOk

section
variable (ins outs : Int) (h : Nat → Nat)
set_option maxHeartbeats 16000000 in
theorem iValidJunction (M : Mem) : Pure Tryz.prog 11 [jnV ins outs h] M (.bool (decide (jnP ins outs h))) := by
  refine Pure.closed fun hM => ?_
  refine Pure.givenAll 0 rfl fun hfl => ?_
  have hbd : ∀ i k, i < 4 → k < 4 → jA h i k < 4294967296 := fun i k hi hk => by
    have := hfl (2 + (i * 4 + k)) .f32 (jA h i k) (by
      rw [tab_get (by omega)]
      unfold jnJ jA
      rw [if_neg (by omega), if_neg (by omega)])
    exact this.1
  clear hfl
  refine pure_of Tryz.func11 Tryz.ntmps11 rfl rfl (by repeat' (first | exact Flat.bool _)) ?_
  have hA := fun M' => iisArms ins M'
  have hB := fun M' => iisArms outs M'
  by_cases hi : 1 ≤ ins ∧ ins ≤ 4
  · rw [decide_eq_true hi] at hA
    by_cases ho : 1 ≤ outs ∧ outs ≤ 4
    · rw [decide_eq_true ho] at hB
      simp only [envOf, Nat.zero_add, Nat.reduceAdd]
      repeat' (first | (refine d_AOs (h := ?_) ; first | refine o_move (h := ?_) | refine o_assign (h := ?_) | refine AOs.nil (h := ?_) | (refine d_grd (h := ?_) ; first | refine g_yes (h := ?_)) | refine o_load (hv := jn_ld0) (h := ?_) | refine o_load (hv := jn_ld1) (h := ?_) | refine o_load (hv := jn_ldT) (h := ?_) | refine o_call (hc := (hA _)) (h := ?_) | refine o_call (hc := (hB _)) (h := ?_) | refine o_field (h := ?_) | refine o_pick (h := ?_) | refine o_not (h := ?_) | refine o_box (h := ?_)) | (refine d_AW (h := ?_) ; first | refine AW.seq (h := ?_) | refine AW.region (h := ?_) | (refine AW.cond (ht := (fun hc => ?_)) (hf := (fun hc => ?_)) <;> (try (with_reducible first | exact absurd hc Bool.false_ne_true | exact absurd hc.symm Bool.false_ne_true)) <;> (try simp only [decide_eq_true_eq, decide_eq_false_iff_not, Int.ofNat_inj, Bool.not_eq_true', Bool.not_eq_false', Int.not_lt, Int.not_le] at hc) <;> (try (exfalso; omega)) <;> (try (exact absurd hc (by decide)))) | refine AW.block (h := ?_) | refine AW.skip (h := ?_)) | (first | refine t_normal ?_))
      all_goals try (exfalso; simp at hc; done)
      clear hA hB
      refine AW.loopG [1, 20, 21] (fun k st => ∃ i : Nat, i + k = 4 ∧ (∀ q, q < i → (∀ k : Nat, k < 4 → jC ins outs h q k = true) ∧ jE ins h q = true) ∧ st = ⟨84, [(1, .pointer (some ⟨M.length, 0, none⟩)), (20, .agg (tab 16 fun q => Value.float .f32 (h (2 + q))).toArray), (21, .int .i64 (i : Int))], M ++ [⟨tab 22 (jnJ ins outs h), none, true⟩]⟩) 4 ⟨0, by omega, fun q hq => by omega, rfl⟩ ?_
      rintro k st ⟨i, hik, hR, rfl⟩
      by_cases hin : i < 4
      · have hldT := jn_ldR (h := h) hin
        have hldP : ldA .one (18 + i) (tab 22 (jnJ ins outs h)) = some (.float .f32 (h (18 + i))) := jn_ldP hin
        obtain ⟨vb, hvb⟩ : ∃ vb, decide ((i : Int) < ins) = vb := ⟨_, rfl⟩
        repeat' (first | (refine d_AOs (h := ?_) ; first | refine o_move (h := ?_) | refine o_assign (h := ?_) | refine AOs.nil (h := ?_) | (refine d_bin (h := ?_) ; first | refine o_lss (h := ?_)) | refine o_load (hv := jn_ld0) (h := ?_) | refine o_ix (hv := hldT) (h := ?_) | refine o_load (h := ?_) | refine o_field (h := ?_) | refine o_store (h := ?_) | refine o_alloc (h := ?_)) | (refine d_AW (h := ?_) ; first | refine AW.seq (h := ?_) | refine AW.region (h := ?_) | (refine AW.cond (ht := (fun hc => ?_)) (hf := (fun hc => ?_)) <;> (try (with_reducible first | exact absurd hc Bool.false_ne_true | exact absurd hc.symm Bool.false_ne_true)) <;> (try simp only [decide_eq_true_eq, decide_eq_false_iff_not, Int.ofNat_inj, Bool.not_eq_true', Bool.not_eq_false', Int.not_lt, Int.not_le] at hc) <;> (try (exfalso; omega)) <;> (try (exact absurd hc (by decide)))) | refine AW.block (h := ?_) | refine AW.skip (h := ?_)) | (first | refine t_normal ?_))
        refine AW.loopN [1, 3, 4, 5, 20, 21, 29, 30] (fun k st => ∃ q : Nat, q + k = 4 ∧ (∀ p, p < q → jC ins outs h i p = true) ∧ st = ⟨84, [(1, .pointer (some ⟨M.length, 0, none⟩)), (3, .int .i64 (i : Int)), (4, .pointer (some ⟨M.length + 1, 0, none⟩)), (5, .bool vb), (20, .agg (tab 16 fun q => Value.float .f32 (h (2 + q))).toArray), (21, .int .i64 (i : Int)), (29, .agg (tab 4 fun q => Value.float .f32 (jA h i q)).toArray), (30, .int .i64 (q : Int))], M ++ [⟨tab 22 (jnJ ins outs h), none, true⟩, ⟨tab 4 fun q => .float .f32 (jA h i q), none, true⟩]⟩) 4 ⟨0, by omega, fun q hq => by omega, by rw [← hvb]; rfl⟩ ?_
        rintro k2 st ⟨q, hqk, hQ, rfl⟩
        by_cases hqn : q < 4
        · have hS1 := fun M' => iIsShare (jA h i q) M'
          have hld2 : ldA .one q (tab 4 fun q => Value.float .f32 (jA h i q)) = some (.float .f32 (jA h i q)) := ld_tab hqn rfl
          have hF : jC ins outs h i q = false → ¬ jnP ins outs h := fun e hP => by have := (hP.2.2 i hin).1 q hqn; rw [e] at this; cases this
          have hT : jC ins outs h i q = true → ∀ p, p < q + 1 → jC ins outs h i p = true := fun e p hp => by
            by_cases e2 : p = q
            · subst e2; exact e
            · exact hQ p (by omega)
          unfold jC at hF
          generalize hC : jC ins outs h i q = vc at hT
          unfold jC at hC
          clear hR hQ hbd hldT hldP
          generalize jA h i q = a at *
          subst hC
          cases hs : isSh a
          · rw [hs] at hS1 hF
            have hN := jn_no ins outs h (hF rfl)
            clear hF hT
            rw [← hN]
            clear hN
            repeat' (first | (refine d_AOs (h := ?_) ; first | refine o_move (h := ?_) | refine o_assign (h := ?_) | refine AOs.nil (h := ?_) | (refine d_bin (h := ?_) ; first | refine o_lss (h := ?_)) | (refine d_grd (h := ?_) ; first | refine g_no (h := ?_) | refine g_undef (h := ?_)) | refine o_ix (hq := by simp) (hv := hld2) (h := ?_) | refine o_call (hc := (hS1 _)) (h := ?_) | refine o_pick (h := ?_) | refine o_not (h := ?_)) | (refine d_AW (h := ?_) ; first | refine AW.seq (h := ?_) | refine AW.region (h := ?_) | (refine AW.cond (ht := (fun hc => ?_)) (hf := (fun hc => ?_)) <;> (try (with_reducible first | exact absurd hc Bool.false_ne_true | exact absurd hc.symm Bool.false_ne_true)) <;> (try simp only [decide_eq_true_eq, decide_eq_false_iff_not, Int.ofNat_inj, Bool.not_eq_true', Bool.not_eq_false', Int.not_lt, Int.not_le] at hc) <;> (try (exfalso; omega)) <;> (try (exact absurd hc (by decide)))) | refine AW.block (h := ?_) | refine AW.ret (h := ?_) | refine AW.skip (h := ?_)) | (first | refine t_normal ?_ | refine t_ret ?_ | refine b_ret ?_) | (refine d_post (h := ?_) ; first | refine p_ret1 rfl (h := ?_)))
            all_goals first | rfl | (exfalso; simp at hc; done)
          · rw [hs] at hS1 hF hT
            have hvb2 : vb = !decide (ins ≤ (i : Int)) := by
              rw [← hvb, ← decide_not]
              exact decide_eq_decide.2 (by omega)
            clear hvb
            cases hz : feq .f32 a 0
            all_goals rw [hz] at hF hT
            all_goals by_cases e1 : ins ≤ (i : Int)
            all_goals by_cases e2 : outs ≤ (q : Int)
            all_goals simp only [e1, e2, decide_true, decide_false, Bool.or_true, Bool.or_false, Bool.true_or, Bool.false_or, Bool.not_true, Bool.not_false, Bool.and_true, Bool.and_false, Bool.true_and, Bool.or_self, forall_const, Bool.true_eq_false, Bool.false_eq_true, false_implies] at hF hT hvb2
            all_goals subst hvb2
            all_goals clear hs
            all_goals repeat' (first | (refine d_AOs (h := ?_) ; first | refine o_move (h := ?_) | refine o_assign (h := ?_) | refine AOs.nil (h := ?_) | (refine d_bin (h := ?_) ; first | refine o_fneC (h := ?_) | refine o_addS (h := ?_) | refine o_lss (h := ?_) | refine o_geq (h := ?_)) | (refine d_grd (h := ?_) ; first | refine g_yes (h := ?_) | refine g_no (h := ?_) | (refine g_true (h1 := (fun hg => ?_)) (h0 := (fun hg => ?_)) <;> (try rw [hg]) <;> (try simp only [decide_eq_true_eq, decide_eq_false_iff_not, Int.ofNat_inj, Bool.not_eq_true', Bool.not_eq_false', Int.not_lt, Int.not_le] at hg) <;> (try (exfalso; omega)) <;> (try (exact absurd hg (by decide))))) | refine o_load (hv := jn_ld1) (h := ?_) | refine o_ix (hq := by simp) (hv := hld2) (h := ?_) | refine o_call (hc := (hS1 _)) (h := ?_) | refine o_field (h := ?_) | refine o_pick (h := ?_) | refine o_not (h := ?_)) | (refine d_AW (h := ?_) ; first | refine AW.seq (h := ?_) | refine AW.region (h := ?_) | (refine AW.cond (ht := (fun hc => ?_)) (hf := (fun hc => ?_)) <;> (try (with_reducible first | exact absurd hc Bool.false_ne_true | exact absurd hc.symm Bool.false_ne_true)) <;> (try simp only [decide_eq_true_eq, decide_eq_false_iff_not, Int.ofNat_inj, Bool.not_eq_true', Bool.not_eq_false', Int.not_lt, Int.not_le] at hc) <;> (try (exfalso; omega)) <;> (try (exact absurd hc (by decide)))) | refine AW.block (h := ?_) | refine AW.ret (h := ?_) | refine AW.skip (h := ?_)) | (first | refine t_normal ?_ | refine t_ret ?_ | refine b_normal ?_ | refine b_ret ?_) | (refine d_post (h := ?_) ; first | refine p_ret1 rfl (h := ?_)))
            all_goals first | exact jn_no ins outs h hF | exact ⟨k2 - 1, by omega, q + 1, by omega, hT, rfl⟩ | (exfalso; simp at hc; done)
        · obtain rfl : q = 4 := by omega
          have hP1 := fun M' => iisPrior (h (18 + i)) M'
          have hN1 := fun M' => iisNothing (h (18 + i)) M'
          have hcmp := jS_cmp (g := jA h i) (fun k hk => by have := hQ k hk; unfold jC at this; rw [Bool.and_eq_true] at this; exact this.1) (fun k hk => hbd i k hin hk)
          have hsum := fun M' hb => isumOf4 (jA h i) (M.length + 1) true M' hb
          have hF : jE ins h i = false → ¬ jnP ins outs h := fun e hP => by have := (hP.2.2 i hin).2; rw [e] at this; cases this
          have hT : jE ins h i = true → ∀ q, q < i + 1 → (∀ k : Nat, k < 4 → jC ins outs h q k = true) ∧ jE ins h q = true := fun e p hp => by
            by_cases e2 : p = i
            · subst e2; exact ⟨hQ, e⟩
            · exact hR p (by omega)
          have hE : jE ins h i = if (i : Int) < ins then (!flt .f32 (jSum (jA h i) 3) 1065336439 && !fgt .f32 (jSum (jA h i) 3) 1065361605) && prB (h (18 + i)) else noB (h (18 + i)) := by
            rw [← hcmp.1, ← hcmp.2]; rfl
          generalize jE ins h i = ve at *
          clear hcmp hR hQ hbd hldT
          generalize h (18 + i) = pr at *
          generalize jSum (jA h i) 3 = s0 at *
          have hCl := closed1 hM (b1 := ⟨tab 22 (jnJ ins outs h), none, true⟩) jn_flat
          by_cases e1 : (i : Int) < ins
          · rw [decide_eq_true e1] at hvb
            rw [if_pos e1] at hE
            subst hvb hE
            cases hz1 : flt .f32 s0 1065336439
            · cases hz2 : fgt .f32 s0 1065361605
              all_goals cases hz3 : prB pr
              all_goals rw [hz1, hz2, hz3] at hF hT
              all_goals rw [hz3] at hP1
              all_goals simp only [Bool.not_true, Bool.not_false, Bool.and_true, Bool.and_false, Bool.true_and, Bool.false_and, Bool.and_self, forall_const, Bool.true_eq_false, Bool.false_eq_true, false_implies] at hF hT
              all_goals clear hz3
              all_goals repeat' (first | (refine d_AOs (h := ?_) ; first | refine o_move (h := ?_) | refine o_assign (h := ?_) | refine AOs.nil (h := ?_) | (refine d_bin (h := ?_) ; first | refine o_fltC (h := ?_) | refine o_fgtC (h := ?_) | refine o_addS (h := ?_) | refine o_lss (h := ?_)) | (refine d_grd (h := ?_) ; first | refine g_yes (h := ?_) | refine g_no (h := ?_) | refine g_undef (h := ?_)) | refine o_slArr (h := ?_) | refine o_load (hv := hldP) (h := ?_) | refine o_call (hc := (hsum _ (by first | (simp only [mem_tail, mem_tail0, List.getElem?_cons_zero, List.getElem?_cons_succ]; first | done | rfl) | exact mem_head (by assumption) | assumption | (simp only [mem_tailS, mem_tailS0, List.getElem?_cons_zero, List.getElem?_cons_succ]; first | done | rfl) | exact mem_set1 (by assumption) | exact mem_set0 (by assumption) | exact mem_setN1 (by assumption) (by assumption) | exact mem_setN (by assumption) (by assumption)))) (h := ?_) | refine o_call (hc := (hP1 _)) (h := ?_) | refine o_at (h := ?_) | refine o_field (h := ?_) | refine o_pick (h := ?_) | refine o_not (h := ?_)) | (refine d_AW (h := ?_) ; first | refine AW.seq (h := ?_) | refine AW.region (h := ?_) | (refine AW.cond (ht := (fun hc => ?_)) (hf := (fun hc => ?_)) <;> (try (with_reducible first | exact absurd hc Bool.false_ne_true | exact absurd hc.symm Bool.false_ne_true)) <;> (try simp only [decide_eq_true_eq, decide_eq_false_iff_not, Int.ofNat_inj, Bool.not_eq_true', Bool.not_eq_false', Int.not_lt, Int.not_le] at hc) <;> (try (exfalso; omega)) <;> (try (exact absurd hc (by decide)))) | refine AW.ret (h := ?_) | refine AW.skip (h := ?_) | refine AW.exit (h := ?_)) | (first | refine t_normal ?_ | refine t_ret ?_ | refine t_exit ?_ | refine b_normal ?_ | refine b_exit ?_ | refine b_ret ?_) | (refine d_post (h := ?_) ; first | refine p_ret1 rfl (h := ?_)))
              all_goals first | exact jn_no ins outs h hF | exact ⟨k - 1, M ++ [⟨tab 22 (jnJ ins outs h), none, true⟩], [⟨tab 4 fun q => .float .f32 (jA h i q), none, true⟩], by omega, next_TT (T := [⟨tab 22 (jnJ ins outs h), none, true⟩]) (G := [⟨tab 4 fun q => .float .f32 (jA h i q), none, true⟩]) rfl, by simp, hCl, (by repeat' (first | exact True.intro | refine And.intro ?_ ?_ | exact Bel.flat (Flat.int _ _) | exact Bel.flat (flat_agg (flat_tabL (fun _ => Flat.float _ _))) | refine Bel.ptr ?_ | (first | (simp only [List.length_append, List.length_cons, List.length_nil]; omega)))), i + 1, by omega, hT, rfl⟩ | (exfalso; simp at hc; done)
            · rw [hz1] at hF
              have hN := jn_no ins outs h (hF rfl)
              clear hF hT
              rw [← hN]
              clear hN
              repeat' (first | (refine d_AOs (h := ?_) ; first | refine o_move (h := ?_) | refine o_assign (h := ?_) | refine AOs.nil (h := ?_) | (refine d_bin (h := ?_) ; first | refine o_fltC (h := ?_) | refine o_lss (h := ?_)) | (refine d_grd (h := ?_) ; first | refine g_yes (h := ?_) | refine g_no (h := ?_) | refine g_undef (h := ?_)) | refine o_slArr (h := ?_) | refine o_call (hc := (hsum _ (by first | (simp only [mem_tail, mem_tail0, List.getElem?_cons_zero, List.getElem?_cons_succ]; first | done | rfl) | exact mem_head (by assumption) | assumption | (simp only [mem_tailS, mem_tailS0, List.getElem?_cons_zero, List.getElem?_cons_succ]; first | done | rfl) | exact mem_set1 (by assumption) | exact mem_set0 (by assumption) | exact mem_setN1 (by assumption) (by assumption) | exact mem_setN (by assumption) (by assumption)))) (h := ?_) | refine o_pick (h := ?_)) | (refine d_AW (h := ?_) ; first | refine AW.seq (h := ?_) | refine AW.region (h := ?_) | (refine AW.cond (ht := (fun hc => ?_)) (hf := (fun hc => ?_)) <;> (try (with_reducible first | exact absurd hc Bool.false_ne_true | exact absurd hc.symm Bool.false_ne_true)) <;> (try simp only [decide_eq_true_eq, decide_eq_false_iff_not, Int.ofNat_inj, Bool.not_eq_true', Bool.not_eq_false', Int.not_lt, Int.not_le] at hc) <;> (try (exfalso; omega)) <;> (try (exact absurd hc (by decide)))) | refine AW.ret (h := ?_) | refine AW.exit (h := ?_)) | (first | refine t_normal ?_ | refine t_ret ?_ | refine t_exit ?_ | refine b_exit ?_ | refine b_ret ?_) | (refine d_post (h := ?_) ; first | refine p_ret1 rfl (h := ?_)))
              all_goals first | rfl | (exfalso; simp at hc; done)
          · rw [decide_eq_false e1] at hvb
            rw [if_neg e1] at hE
            subst hvb hE
            cases hz1 : noB pr
            all_goals rw [hz1] at hF hT hN1
            all_goals simp only [forall_const, Bool.true_eq_false, Bool.false_eq_true, false_implies] at hF hT
            all_goals clear hz1
            all_goals repeat' (first | (refine d_AOs (h := ?_) ; first | refine o_move (h := ?_) | refine o_assign (h := ?_) | refine AOs.nil (h := ?_) | (refine d_bin (h := ?_) ; first | refine o_addS (h := ?_) | refine o_lss (h := ?_)) | (refine d_grd (h := ?_) ; first | refine g_yes (h := ?_) | refine g_no (h := ?_) | refine g_undef (h := ?_)) | refine o_slArr (h := ?_) | refine o_load (hv := hldP) (h := ?_) | refine o_call (hc := (hsum _ (by first | (simp only [mem_tail, mem_tail0, List.getElem?_cons_zero, List.getElem?_cons_succ]; first | done | rfl) | exact mem_head (by assumption) | assumption | (simp only [mem_tailS, mem_tailS0, List.getElem?_cons_zero, List.getElem?_cons_succ]; first | done | rfl) | exact mem_set1 (by assumption) | exact mem_set0 (by assumption) | exact mem_setN1 (by assumption) (by assumption) | exact mem_setN (by assumption) (by assumption)))) (h := ?_) | refine o_call (hc := (hN1 _)) (h := ?_) | refine o_at (h := ?_) | refine o_field (h := ?_) | refine o_pick (h := ?_) | refine o_not (h := ?_)) | (refine d_AW (h := ?_) ; first | refine AW.seq (h := ?_) | refine AW.region (h := ?_) | (refine AW.cond (ht := (fun hc => ?_)) (hf := (fun hc => ?_)) <;> (try (with_reducible first | exact absurd hc Bool.false_ne_true | exact absurd hc.symm Bool.false_ne_true)) <;> (try simp only [decide_eq_true_eq, decide_eq_false_iff_not, Int.ofNat_inj, Bool.not_eq_true', Bool.not_eq_false', Int.not_lt, Int.not_le] at hc) <;> (try (exfalso; omega)) <;> (try (exact absurd hc (by decide)))) | refine AW.ret (h := ?_) | refine AW.skip (h := ?_) | refine AW.exit (h := ?_)) | (first | refine t_normal ?_ | refine t_ret ?_ | refine t_exit ?_ | refine b_normal ?_ | refine b_exit ?_ | refine b_ret ?_) | (refine d_post (h := ?_) ; first | refine p_ret1 rfl (h := ?_)))
            all_goals first | exact jn_no ins outs h hF | exact ⟨k - 1, M ++ [⟨tab 22 (jnJ ins outs h), none, true⟩], [⟨tab 4 fun q => .float .f32 (jA h i q), none, true⟩], by omega, next_TT (T := [⟨tab 22 (jnJ ins outs h), none, true⟩]) (G := [⟨tab 4 fun q => .float .f32 (jA h i q), none, true⟩]) rfl, by simp, hCl, (by repeat' (first | exact True.intro | refine And.intro ?_ ?_ | exact Bel.flat (Flat.int _ _) | exact Bel.flat (flat_agg (flat_tabL (fun _ => Flat.float _ _))) | refine Bel.ptr ?_ | (first | (simp only [List.length_append, List.length_cons, List.length_nil]; omega)))), i + 1, by omega, hT, rfl⟩ | (exfalso; simp at hc; done)
      · obtain rfl : i = 4 := by omega
        rw [decide_eq_true (show jnP ins outs h from ⟨hi, ho, hR⟩)]
        repeat' (first | (refine d_AOs (h := ?_) ; first | refine o_assign (h := ?_) | refine AOs.nil (h := ?_) | (refine d_bin (h := ?_) ; first | refine o_lss (h := ?_))) | (refine d_AW (h := ?_) ; first | refine AW.seq (h := ?_) | refine AW.region (h := ?_) | (refine AW.cond (ht := (fun hc => ?_)) (hf := (fun hc => ?_)) <;> (try (with_reducible first | exact absurd hc Bool.false_ne_true | exact absurd hc.symm Bool.false_ne_true)) <;> (try simp only [decide_eq_true_eq, decide_eq_false_iff_not, Int.ofNat_inj, Bool.not_eq_true', Bool.not_eq_false', Int.not_lt, Int.not_le] at hc) <;> (try (exfalso; omega)) <;> (try (exact absurd hc (by decide)))) | refine AW.ret (h := ?_) | refine AW.exit (h := ?_)) | (first | refine t_normal ?_ | refine t_exit ?_ | refine b_exit ?_) | (refine d_post (h := ?_) ; first | refine p_ret1 rfl (h := ?_)))
        all_goals rfl
    · have hN := jn_no ins outs h fun hP => ho hP.2.1
      rw [decide_eq_false ho] at hB
      rw [← hN]
      simp only [envOf, Nat.zero_add, Nat.reduceAdd]
      repeat' (first | (refine d_AOs (h := ?_) ; first | refine o_move (h := ?_) | refine o_assign (h := ?_) | refine AOs.nil (h := ?_) | (refine d_grd (h := ?_) ; first | refine g_yes (h := ?_)) | refine o_load (hv := jn_ld0) (h := ?_) | refine o_load (hv := jn_ld1) (h := ?_) | refine o_call (hc := (hA _)) (h := ?_) | refine o_call (hc := (hB _)) (h := ?_) | refine o_field (h := ?_) | refine o_pick (h := ?_) | refine o_not (h := ?_) | refine o_box (h := ?_)) | (refine d_AW (h := ?_) ; first | refine AW.seq (h := ?_) | refine AW.region (h := ?_) | (refine AW.cond (ht := (fun hc => ?_)) (hf := (fun hc => ?_)) <;> (try (with_reducible first | exact absurd hc Bool.false_ne_true | exact absurd hc.symm Bool.false_ne_true)) <;> (try simp only [decide_eq_true_eq, decide_eq_false_iff_not, Int.ofNat_inj, Bool.not_eq_true', Bool.not_eq_false', Int.not_lt, Int.not_le] at hc) <;> (try (exfalso; omega)) <;> (try (exact absurd hc (by decide)))) | refine AW.ret (h := ?_)) | (first | refine t_normal ?_ | refine t_ret ?_) | (refine d_post (h := ?_) ; first | refine p_ret1 rfl (h := ?_)))
      all_goals first | rfl | (exfalso; simp at hc; done)
  · have hN := jn_no ins outs h fun hP => hi hP.1
    rw [decide_eq_false hi] at hA
    rw [← hN]
    simp only [envOf, Nat.zero_add, Nat.reduceAdd]
    repeat' (first | (refine d_AOs (h := ?_) ; first | refine o_move (h := ?_) | refine o_assign (h := ?_) | refine AOs.nil (h := ?_) | (refine d_grd (h := ?_) ; first | refine g_no (h := ?_)) | refine o_load (hv := jn_ld0) (h := ?_) | refine o_call (hc := (hA _)) (h := ?_) | refine o_field (h := ?_) | refine o_pick (h := ?_) | refine o_not (h := ?_) | refine o_box (h := ?_)) | (refine d_AW (h := ?_) ; first | refine AW.seq (h := ?_) | refine AW.region (h := ?_) | (refine AW.cond (ht := (fun hc => ?_)) (hf := (fun hc => ?_)) <;> (try (with_reducible first | exact absurd hc Bool.false_ne_true | exact absurd hc.symm Bool.false_ne_true)) <;> (try simp only [decide_eq_true_eq, decide_eq_false_iff_not, Int.ofNat_inj, Bool.not_eq_true', Bool.not_eq_false', Int.not_lt, Int.not_le] at hc) <;> (try (exfalso; omega)) <;> (try (exact absurd hc (by decide)))) | refine AW.ret (h := ?_)) | (first | refine t_normal ?_ | refine t_ret ?_) | (refine d_post (h := ?_) ; first | refine p_ret1 rfl (h := ?_)))
    all_goals first | rfl | (exfalso; simp at hc; done)
end
end Go.Proofs.YtgdpcomemkimhaaGreatDoor
