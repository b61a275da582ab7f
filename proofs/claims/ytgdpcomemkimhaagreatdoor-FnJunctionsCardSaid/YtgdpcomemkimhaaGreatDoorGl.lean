/- The law of junctions: the walk. -/
import Derived.Test.YtgdpcomemkimhaaGreatDoorGm
import Derived.Test.YtgdpcomemkimhaaGreatDoorGf
import Derived.Test.YtgdpcomemkimhaaGreatDoorGj
import Derived.Test.YtgdpcomemkimhaaGreatDoorDr2

namespace Go.Proofs.YtgdpcomemkimhaaGreatDoor
open Go.RowKit
attribute [local irreducible] AW AOs AO AQ AQW thenA inBlockA postA ACalls Pure
set_option linter.unusedSimpArgs false
set_option linter.unusedVariables false
set_option linter.unusedSectionVars false

section
variable {P : Program} {ops l : List Oper} {K : St → Prop} {n : Nat} {t : Env} {m : Mem} {d ty : Nat} {pos : String} {af : Array Edge}
theorem o_fdivX {xt yt : TypeId} {x y : Operand} {k : FloatKind} {a b c : Nat} (hx : evalA t x = .float k a := by (conv => (lhs; whnf)); first | done | rfl) (hy : evalA t y = .float k b := by (conv => (lhs; whnf)); first | done | rfl) (he : fdiv k a b = c) (hd : Nat.blt d n = true := by rfl) (h : AOs P ops l K ⟨n, (d, .float k c) :: t, m⟩) :
    AOs P ops (⟨some d, .binOp .quo xt x y yt, ty, pos, af, none⟩ :: l) K ⟨n, t, m⟩ := o_fdiv hx hy hd (by rw [he]; exact h)
end
theorem jLit3 : feq .f32 1077936128 1077936128 = true := by decide +kernel
/-- What both ways of setting a turn answer. -/
theorem jSet {n o : Nat} {h : Nat → Nat} {W : Nat → Nat → Int} (hd : JnDr n o h W) {i e x : Nat} (hi : i < n) (he : e < o) (hx : isSh x = true) : ∃ (A B : Int) (h2 : Nat → Nat) (c : Int),
    (∀ M, Pure Tryz.prog 13 [jnV (n : Int) (o : Int) h, .int .i64 (i : Int), .int .i64 (e : Int), .float .f32 x] M (.tuple [jnV A B h2, .int .i64 c].toArray)) ∧
    (∀ M, Pure Tryz.prog 14 [jnV (n : Int) (o : Int) h, .int .i64 (i : Int), .int .i64 (e : Int), .float .f32 x] M (.tuple [jnV A B h2, .int .i64 c].toArray)) ∧
    ((c = 0 ∧ A = (n : Int) ∧ B = (o : Int) ∧ jnP (n : Int) (o : Int) h2 ∧ h2 (2 + i * 4 + e) = x) ∨ c = 2 ∨ c = 4) := by
  have hP := dr_valid hd
  have hn := hd.hn
  have ho := hd.ho
  by_cases hB : o ≠ 1 ∨ feq .f32 x 1065353216 = true
  · have hz0 : o ≠ 1 → fadd .f32 0 (otF h i e 0) = otF h i e 0 := fun _ => by
      have e1 : ∀ k, k < 4 → fadd .f32 0 (jA h i k) = jA h i k := fun k hk => by
        rw [dr_jA hd (by omega) hk]
        exact add_sh0 (by have := hd.bd i k; omega)
      unfold otF
      split
      · exact e1 _ (by omega)
      · exact e1 _ (by omega)
    have h1 := fun M => iSetTurnB hP hn ho hi he hx hB hz0 M
    have h2 := fun M => sSetTurnB hP hn ho hi he hx hB M
    unfold stV at h1 h2
    by_cases hQ : jnP (n : Int) (o : Int) (stH o h i e x o)
    · simp only [if_pos hQ] at h1 h2
      exact ⟨_, _, _, _, h1, h2, .inl ⟨rfl, rfl, rfl, hQ, stH_at he⟩⟩
    · simp only [if_neg hQ] at h1 h2
      exact ⟨_, _, _, _, h1, h2, .inr (.inr rfl)⟩
  · have h1 : o = 1 := by
      by_cases h1 : o = 1
      · exact h1
      · exact absurd (.inl h1) hB
    have hx1 : feq .f32 x 1065353216 = false := by
      cases h2 : feq .f32 x 1065353216
      · rfl
      · exact absurd (.inr h2) hB
    exact ⟨_, _, _, _, fun M => iSetTurnA hP hn ho hi he hx h1 hx1 M, fun M => sSetTurnA hP hn ho hi he hx h1 hx1 M, .inr (.inl rfl)⟩
set_option maxRecDepth 20000 in
set_option maxHeartbeats 64000000 in
theorem wJun (a a' : Option Addr) (n n' cp cp' : Nat) (cd cd' : Nat → Int) (M : Mem) (hm : n ≤ 9223372036854775807) (hm' : n' ≤ 9223372036854775807) (hcd : ∀ q, 0 ≤ cd q ∧ cd q ≤ 255) (hcd' : ∀ q, 0 ≤ cd' q ∧ cd' q ≤ 255)
    (hS : SlAt M a n (tab n fun q => .int .u8 (cd q))) (hS' : SlAt M a' n' (tab n' fun q => .int .u8 (cd' q))) :
    Pure Tryz.prog 3 [.slice a n cp, .slice a' n' cp'] M (.bool true) := by
  refine pure_of Tryz.func3 Tryz.ntmps3 rfl rfl (by repeat' (first | exact Flat.bool _)) ?_
  have hB1 := fun M' => lf6big a n cp M' hm
  have hB2 := fun M' => lf6big a' n' cp' M' hm'
  by_cases hbig : (4096 : Int) < n
  · rw [decide_eq_true hbig] at hB1
    simp only [envOf, Nat.zero_add, Nat.reduceAdd]
    repeat' (first | (refine d_AOs (h := ?_) ; first | refine o_move (h := ?_) | refine o_assign (h := ?_) | refine AOs.nil (h := ?_) | (refine d_grd (h := ?_) ; first | refine g_no (h := ?_)) | refine o_call (hc := (hB1 _)) (h := ?_) | refine o_pick (h := ?_)) | (refine d_AW (h := ?_) ; first | refine AW.seq (h := ?_) | refine AW.region (h := ?_) | (refine AW.cond (ht := (fun hc => ?_)) (hf := (fun hc => ?_)) <;> (try (with_reducible first | exact absurd hc Bool.false_ne_true | exact absurd hc.symm Bool.false_ne_true)) <;> (try simp only [decide_eq_true_eq, decide_eq_false_iff_not, Int.ofNat_inj, Bool.not_eq_true', Bool.not_eq_false', Int.not_lt, Int.not_le] at hc) <;> (try (exfalso; omega)) <;> (try (exact absurd hc (by decide)))) | refine AW.ret (h := ?_)) | (first | refine t_normal ?_ | refine t_ret ?_) | (refine d_post (h := ?_) ; first | refine p_ret1 rfl (h := ?_)))
    all_goals first | rfl | (simp at hc; done)
  rw [decide_eq_false hbig] at hB1
  by_cases hbig2 : (4096 : Int) < n'
  · rw [decide_eq_true hbig2] at hB2
    simp only [envOf, Nat.zero_add, Nat.reduceAdd]
    repeat' (first | (refine d_AOs (h := ?_) ; first | refine o_move (h := ?_) | refine o_assign (h := ?_) | refine AOs.nil (h := ?_) | (refine d_grd (h := ?_) ; first | refine g_yes (h := ?_)) | refine o_call (hc := (hB1 _)) (h := ?_) | refine o_call (hc := (hB2 _)) (h := ?_) | refine o_pick (h := ?_)) | (refine d_AW (h := ?_) ; first | refine AW.seq (h := ?_) | refine AW.region (h := ?_) | (refine AW.cond (ht := (fun hc => ?_)) (hf := (fun hc => ?_)) <;> (try (with_reducible first | exact absurd hc Bool.false_ne_true | exact absurd hc.symm Bool.false_ne_true)) <;> (try simp only [decide_eq_true_eq, decide_eq_false_iff_not, Int.ofNat_inj, Bool.not_eq_true', Bool.not_eq_false', Int.not_lt, Int.not_le] at hc) <;> (try (exfalso; omega)) <;> (try (exact absurd hc (by decide)))) | refine AW.ret (h := ?_)) | (first | refine t_normal ?_ | refine t_ret ?_) | (refine d_post (h := ?_) ; first | refine p_ret1 rfl (h := ?_)))
    all_goals first | rfl | (simp at hc; done)
  rw [decide_eq_false hbig2] at hB2
  obtain ⟨N, O, h, W, hd, hJ⟩ : ∃ (N O : Nat) (h : Nat → Nat) (W : Nat → Nat → Int), JnDr N O h W ∧ ∀ M, SlAt M a n (tab n fun q => .int .u8 (cd q)) → Pure Tryz.prog 6 [.slice a n cp] M (jnV (N : Int) (O : Int) h) := by
    obtain ⟨W, hW⟩ := jnDr_of n cd (0, 0)
    exact ⟨_, _, _, W, hW, fun M' h => sP6Junction a n cp cd hcd (by omega) M' h⟩
  have hn1 := hd.hn
  have ho1 := hd.ho
  have hP := dr_valid hd
  have hT := fun M' => iJunctionText1 N O h M' hP hn1 ho1
  have hRd := fun M' => iReadDr hd M'
  have hSI := fun M' => iSameJunction (a := (N : Int)) (b := (O : Int)) (h := h) M'
  have hSS := fun M' => sSameJunction (a := (N : Int)) (b := (O : Int)) (h := h) M'
  have hV := fun M' => iValidJunction (N : Int) (O : Int) h M'
  rw [decide_eq_true hP] at hV
  obtain ⟨i, hi, hp1⟩ : ∃ i : Nat, i < N ∧ ∀ M, SlAt M a' n' (tab n' fun q => .int .u8 (cd' q)) → Pure Tryz.prog 12 [.slice a' n' cp', .int .i64 (N : Int)] M (.int .i64 (i : Int)) := by
    have hb := pkV_bd (n := n') (cd := cd') (0, 0) (m := (N : Int)) (by omega)
    obtain ⟨k, hk⟩ : ∃ k : Nat, pkV n' cd' (0, 0) (N : Int) = (k : Int) := ⟨(pkV n' cd' (0, 0) (N : Int)).toNat, by omega⟩
    refine ⟨k, by omega, fun M' h => ?_⟩
    rw [← hk]
    exact sP6Pick2 a' n' cp' cd' hcd' (by omega) (N : Int) (by omega) M' h
  obtain ⟨e, he, hp2⟩ : ∃ e : Nat, e < O ∧ ∀ M, SlAt M a n (tab n fun q => .int .u8 (cd q)) → Pure Tryz.prog 12 [.slice a n cp, .int .i64 (O : Int)] M (.int .i64 (e : Int)) := by
    have hb := pkV_bd (n := n) (cd := cd) (0, 0) (m := (O : Int)) (by omega)
    obtain ⟨k, hk⟩ : ∃ k : Nat, pkV n cd (0, 0) (O : Int) = (k : Int) := ⟨(pkV n cd (0, 0) (O : Int)).toNat, by omega⟩
    refine ⟨k, by omega, fun M' h => ?_⟩
    rw [← hk]
    exact sP6Pick2 a n cp cd hcd (by omega) (O : Int) (by omega) M' h
  obtain ⟨p, hpb, hp3⟩ : ∃ p : Int, (0 ≤ p ∧ p < 17) ∧ ∀ M, SlAt M a' n' (tab n' fun q => .int .u8 (cd' q)) → Pure Tryz.prog 12 [.slice a' n' cp', .int .i64 17] M (.int .i64 p) :=
    ⟨_, pkV_bd (n := n') (cd := cd') (0, 0) (m := 17) (by omega), fun M' h => sP6Pick2 a' n' cp' cd' hcd' (by omega) 17 (by omega) M' h⟩
  obtain ⟨x, hx⟩ : ∃ x, fdiv .f32 (fofInt .f32 p) 1098907648 = x := ⟨_, rfl⟩
  have hU := U_val
  have hxs := shg_fv (x := p) (by omega)
  have hxe : shw p = x := hx
  rw [hxe] at hxs
  have hxh : isSh x = true := nn_sh hxs.1 (by omega)
  have hxx : feq .f32 x x = true := by rw [feq_fv hxs.1.1 hxs.1.1]; exact decide_eq_true rfl
  clear hxs hxe hU
  obtain ⟨A, B, h2, c, hStI, hStS, hcc⟩ := jSet hd hi he hxh
  have hSD := fun M' => sSameJunction (a := A) (b := B) (h := h2) M'
  have hQ3 := prH_ok hP hi prB_3
  have hPr : ∀ M', Pure Tryz.prog 15 [jnV (N : Int) (O : Int) h, .int .i64 (i : Int), .float .f32 1077936128] M' (.tuple [jnV (N : Int) (O : Int) (prH h i 1077936128), .int .i64 0].toArray) := fun M' => iSetPrior hP i 1077936128 hi hn1.2 prB_3 hQ3 M'
  have hlp := prH_ldP (h := h) (a := (N : Int)) (b := (O : Int)) (i := i) (x := 1077936128) (by omega)
  have hlt3 := prH_ldT (h := h) (a := (N : Int)) (b := (O : Int)) (i := i) (x := 1077936128)
  have hlt := jn_ldT (ins := (N : Int)) (outs := (O : Int)) (h := h)
  have hhn : ∀ q, q < 4 * 4 → fnan .f32 (h (2 + q)) = false := fun q hq => nn_nan (dr_nn hd (by omega) (by omega))
  have hEv := fun M' => iEvenJunction N O hn1 ho1 M'
  have hVe := fun M' => iValidJunction (N : Int) (O : Int) (evp O N) M'
  rw [decide_eq_true (evp_ok hn1 ho1)] at hVe
  obtain ⟨s, V, hs, hF⟩ : ∃ (s : Nat → Nat) (V : Nat → Int), SnDr N s V ∧ ∀ M, SlAt M a' n' (tab n' fun q => .int .u8 (cd' q)) → Pure Tryz.prog 19 [.slice a' n' cp', .int .i64 (N : Int)] M (foV s) := by
    obtain ⟨V, hV⟩ := snDr_p6 n' cd' N
    exact ⟨_, V, hV, fun M' h => sP6FourM a' n' cp' cd' hcd' (by omega) N hn1.2 M' h⟩
  have hsk := sn_ok hs
  have hwf := fun q (hq : q < 16) => wn_fin hd hs hq
  have hcf := fun k (hk : k < 4) => (cl_fv hd hs hk).1.1
  have hW := fun M' => iWantsOf hP hn1 ho1 hsk hwf M'
  have hDI := fun M' => iDemandsOf hP hn1 ho1 hsk hwf hcf M'
  have hDS := fun M' => sDemandsOf hP hn1 hsk hwf hcf M'
  have hIF := fun M' => iInFlows (wnF s h) M'
  have hfe : foV (rwF (wnF s h)) = foV s := by
    unfold foV
    rw [tab_congr (n := 4) (f := fun q => Value.float .f32 (rwF (wnF s h) q)) (g := fun q => .float .f32 (s q)) fun q hq => by rw [rw_eq hd hs hq]]
  rw [hfe] at hIF
  have hOF := fun M' => iOutFlows (wnF s h) M'
  have hdn : ∀ q, q < 4 → fnan .f32 (clF (wnF s h) q) = false := fun q hq => nn_nan (cl_fv hd hs hq).1
  obtain ⟨ht, hz⟩ := tot_eq hd hs
  have hS1 := fun M' => iSumOfFour (clF (wnF s h)) M'
  have hS2 := fun M' => iSumOfFour s M'
  rw [ht] at hS1
  obtain ⟨c1, c2, _, _, c3, c4⟩ := c2_fv
  have hzb : fv (jSum s 3) ≤ 2 ^ 160 := by
    have t := sum_unit (g := s) (a := V) (e := 145) (by decide) (fun q _ => sn_fv hs q) (fun q => by have := hs.bd q; omega)
    have v0 := hs.bd 0
    have v1 := hs.bd 1
    have v2 := hs.bd 2
    have v3 := hs.bd 3
    rw [t.2]; omega
  have hNZ := fun M' => (fun (q : _ ∧ _) => lf6 q.1 q.2 M') (same_near (x := jSum s 3) (z := fmul .f32 994352038 (jSum s 3)) hz.1 (mul_c c2 c4 hz hzb))
  have hNq : ∀ q, q < 4 → ∀ M', Pure Tryz.prog 18 [.float .f32 (s q), .float .f32 (s q), .float .f32 (fmul .f32 990057071 (s q))] M' (.bool true) := fun q hq M' => by
    have hq1 := sn_fv hs q
    have hq2 := hs.bd q
    exact (fun (q : _ ∧ _) => lf6 q.1 q.2 M') (same_near (x := s q) (z := fmul .f32 990057071 (s q)) hq1.1.1 (mul_c c1 c3 hq1.1 (by omega)))
  have hi4 : i < 4 := by omega
  have he4 : e < 4 := by omega
  have hrow := jn_ldRow (a := A) (b := B) (h := h2) hi4
  have hcl := jn_ldA (ins := A) (outs := B) (h := h2) hi4 he4
  have hSr := fun M' => iSumOfFour (jA h2 i) M'
  have hVd := fun M' => iValidJunction A B h2 M'
  generalize jSum s 3 = Z at *
  generalize clF (wnF s h) = dm at *
  generalize wnF s h = g at *
  generalize prH h i 1077936128 = h3 at *
  generalize evp O N = he' at *
  generalize jnT N O h = T at *
  have hl3 := jLit3
  clear hd hs hsk hwf hcf hfe ht hz hzb c1 c2 c3 c4 hP hQ3 hm hm' hcd hcd' hxh
  rcases hcc with ⟨rfl, rfl, rfl, hv2, hx2⟩ | rfl | rfl
  · rw [decide_eq_true hv2] at hVd
    have hnr := vrow_near hv2 hi hn1.2
    have hN1 := fun M' => (fun (q : _ ∧ _) => lf6 q.1 q.2 M') hnr
    have ejs : jS h2 i 4 = jSum (jA h2 i) 3 := rfl
    rw [ejs] at hN1
    have ex : jA h2 i e = x := by rw [← hx2]; unfold jA; rw [Nat.add_assoc]
    rw [ex] at hcl
    clear hv2 hx2 hnr ejs ex
    generalize jSum (jA h2 i) 3 = Y at *
    simp only [envOf, Nat.zero_add, Nat.reduceAdd]
    repeat' (first | (refine d_AOs (h := ?_) ; first | refine o_move (h := ?_) | refine o_assign (h := ?_) | refine AOs.nil (h := ?_) | (refine d_bin (h := ?_) ; first | refine o_fdivX (he := hx) (h := ?_) | refine o_fneC (hc := hl3) (h := ?_) | refine o_fneC (hc := hxx) (h := ?_) | refine o_neArrFF (hf := hhn) (h := ?_) | refine o_eqi (h := ?_) | refine o_nei (h := ?_)) | (refine d_grd (h := ?_) ; first | refine g_yes (h := ?_)) | refine o_call (hc := (hB1 _)) (h := ?_) | refine o_call (hc := (hB2 _)) (h := ?_) | refine o_call (hc := (hJ _ (by first | exact hS | exact hS.append))) (h := ?_) | refine o_call (hc := (hT _)) (h := ?_) | refine o_call (hc := (hRd _)) (h := ?_) | refine o_call (hc := (hSS _)) (h := ?_) | refine o_call (hc := (hSI _)) (h := ?_) | refine o_call (hc := (hV _)) (h := ?_) | refine o_call (hc := (hp1 _ (by first | exact hS' | exact hS'.append))) (h := ?_) | refine o_call (hc := (hp2 _ (by first | exact hS | exact hS.append))) (h := ?_) | refine o_call (hc := (hp3 _ (by first | exact hS' | exact hS'.append))) (h := ?_) | refine o_call (hc := (hStI _)) (h := ?_) | refine o_call (hc := (hStS _)) (h := ?_) | refine o_call (hc := (hSD _)) (h := ?_) | refine o_call (hc := (hPr _)) (h := ?_) | refine o_call (hc := (hEv _)) (h := ?_) | refine o_call (hc := (hVe _)) (h := ?_) | refine o_call (hc := (hF _ (by first | exact hS' | exact hS'.append))) (h := ?_) | refine o_call (hc := (hW _)) (h := ?_) | refine o_call (hc := (hDI _)) (h := ?_) | refine o_call (hc := (hDS _)) (h := ?_) | refine o_call (hc := (hIF _)) (h := ?_) | refine o_call (hc := (hSr _)) (h := ?_) | refine o_call (hc := (hVd _)) (h := ?_) | refine o_call (hc := (hN1 _)) (h := ?_) | refine o_load (hv := jn_ld0) (h := ?_) | refine o_load (hv := jn_ld1) (h := ?_) | refine o_load (hv := hlp) (h := ?_) | refine o_load (hv := hlt3) (h := ?_) | refine o_load (hv := hlt) (h := ?_) | refine o_load (hv := hrow) (h := ?_) | refine o_load (hv := hcl) (h := ?_) | refine o_store (hw := by exact whole_tab (fun i => jn_one i)) (hcs := by exact st_all (by rfl)) (h := ?_) | refine o_load (h := ?_) | refine o_at (h := ?_) | refine o_field (h := ?_) | refine o_pick (h := ?_) | refine o_not (h := ?_) | refine o_store (h := ?_) | refine o_alloc (h := ?_) | refine o_fofInt (h := ?_) | refine o_extract (h := ?_)) | (refine d_AW (h := ?_) ; first | refine AW.seq (h := ?_) | refine AW.region (h := ?_) | refine AW.open_ (h := ?_) | (refine AW.cond (ht := (fun hc => ?_)) (hf := (fun hc => ?_)) <;> (try (with_reducible first | exact absurd hc Bool.false_ne_true | exact absurd hc.symm Bool.false_ne_true)) <;> (try simp only [decide_eq_true_eq, decide_eq_false_iff_not, Int.ofNat_inj, Bool.not_eq_true', Bool.not_eq_false', Int.not_lt, Int.not_le] at hc) <;> (try (exfalso; omega)) <;> (try (exact absurd hc (by decide)))) | refine AW.block (h := ?_) | refine AW.skip (h := ?_)) | (first | refine t_normal ?_) | (refine d_AQ (h := ?_) ; first | refine q_yes (h1 := by (refine d_AOs ?_; first| (refine d_bin (h := ?_) ; first | refine o_fdivX (he := hx) (h := ?_) | refine o_fneC (hc := hl3) (h := ?_) | refine o_fneC (hc := hxx) (h := ?_) | refine o_neArrFF (hf := hhn) (h := ?_) | refine o_neArrF (hf := hdn) (h := ?_) )) <;> exact AOs.nil rfl) (h2 := ?_) | refine q_nil (h := ?_) | refine q_step (h2 := ?_) | refine q_yes (h2 := ?_) | refine q_yes (h1 := by (refine d_AOs ?_; first | refine o_call (hc := (hB1 _)) (h := ?_) | refine o_call (hc := (hB2 _)) (h := ?_) | refine o_call (hc := (hJ _ (by first | exact hS | exact hS.append))) (h := ?_) | refine o_call (hc := (hT _)) (h := ?_) | refine o_call (hc := (hRd _)) (h := ?_) | refine o_call (hc := (hSS _)) (h := ?_) | refine o_call (hc := (hSI _)) (h := ?_) | refine o_call (hc := (hV _)) (h := ?_) | refine o_call (hc := (hp1 _ (by first | exact hS' | exact hS'.append))) (h := ?_) | refine o_call (hc := (hp2 _ (by first | exact hS | exact hS.append))) (h := ?_) | refine o_call (hc := (hp3 _ (by first | exact hS' | exact hS'.append))) (h := ?_) | refine o_call (hc := (hStI _)) (h := ?_) | refine o_call (hc := (hStS _)) (h := ?_) | refine o_call (hc := (hSD _)) (h := ?_) | refine o_call (hc := (hPr _)) (h := ?_) | refine o_call (hc := (hEv _)) (h := ?_) | refine o_call (hc := (hVe _)) (h := ?_) | refine o_call (hc := (hF _ (by first | exact hS' | exact hS'.append))) (h := ?_) | refine o_call (hc := (hW _)) (h := ?_) | refine o_call (hc := (hDI _)) (h := ?_) | refine o_call (hc := (hDS _)) (h := ?_) | refine o_call (hc := (hIF _)) (h := ?_) | refine o_call (hc := (hOF _)) (h := ?_) | refine o_call (hc := (hS1 _)) (h := ?_) | refine o_call (hc := (hS2 _)) (h := ?_) | refine o_call (hc := (hNZ _)) (h := ?_) | refine o_call (hc := (hSr _)) (h := ?_) | refine o_call (hc := (hVd _)) (h := ?_) | refine o_call (hc := (hN1 _)) (h := ?_) | refine o_load (hv := jn_ld0) (h := ?_) | refine o_load (hv := jn_ld1) (h := ?_) | refine o_load (hv := hlp) (h := ?_) | refine o_load (hv := hlt3) (h := ?_) | refine o_load (hv := hlt) (h := ?_) | refine o_load (hv := hrow) (h := ?_) | refine o_load (hv := hcl) (h := ?_) | refine o_store (hw := by exact whole_tab (fun i => jn_one i)) (hcs := by exact st_all (by rfl)) (h := ?_)) <;> exact AOs.nil rfl) (h2 := ?_)))
    all_goals try (exfalso; simp at hc; done)
    clear hB1 hB2 hJ hT hRd hSI hSS hV hp1 hp2 hp3 hStI hStS hSD hPr hlp hlt3 hlt hhn hEv hVe hF hW hDI hDS hIF hOF hdn hrow hcl hSr hVd
    refine AW.loopN [20, 25, 27, 28] (fun k st => ∃ q : Nat, q + k = 4 ∧ st = ⟨241, [(20, .pointer (some ⟨M.length + 6, 0, none⟩)), (25, .pointer (some ⟨M.length + 9, 0, none⟩)), (27, .pointer (some ⟨M.length + 10, 0, none⟩)), (28, .int .i64 (q : Int))], M ++ [jnB (N : Int) (O : Int) h, jnB (N : Int) (O : Int) h, jnB (N : Int) (O : Int) h2, jnB (N : Int) (O : Int) h2, jnB (N : Int) (O : Int) h3, jnB (N : Int) (O : Int) he', ⟨tab 4 fun q => .float .f32 (s q), none, true⟩, ⟨tab 16 fun q => .float .f32 (g q), none, true⟩, ⟨tab 4 fun q => .float .f32 (dm q), none, true⟩, ⟨tab 4 fun q => .float .f32 (dm q), none, true⟩, ⟨tab 4 fun q => .float .f32 (s q), none, true⟩]⟩) 4 ⟨0, by omega, rfl⟩ ?_
    rintro k st ⟨q, hq, rfl⟩
    by_cases hq4 : q < 4
    · have hld : ldA .one q (tab 4 fun q => Value.float .f32 (s q)) = some (.float .f32 (s q)) := ld_tab hq4 rfl
      have hnq := hNq q hq4
      clear hNq hS1 hS2 hNZ
      generalize s q = v at *
      generalize (tab 4 fun q => Value.float .f32 (s q)) = S4 at *
      repeat' (first | (refine d_AOs (h := ?_) ; first | refine o_move (h := ?_) | refine o_assign (h := ?_) | refine AOs.nil (h := ?_) | (refine d_bin (h := ?_) ; first | refine o_addS (h := ?_) | refine o_lss (h := ?_))) | (refine d_AW (h := ?_) ; first | refine AW.seq (h := ?_) | refine AW.region (h := ?_) | refine AW.open_ (h := ?_) | (refine AW.cond (ht := (fun hc => ?_)) (hf := (fun hc => ?_)) <;> (try (with_reducible first | exact absurd hc Bool.false_ne_true | exact absurd hc.symm Bool.false_ne_true)) <;> (try simp only [decide_eq_true_eq, decide_eq_false_iff_not, Int.ofNat_inj, Bool.not_eq_true', Bool.not_eq_false', Int.not_lt, Int.not_le] at hc) <;> (try (exfalso; omega)) <;> (try (exact absurd hc (by decide)))) | refine AW.block (h := ?_) | refine AW.skip (h := ?_)) | (first | refine t_normal ?_ | refine b_normal ?_) | (refine d_AQ (h := ?_) ; first | refine q_nil (h := ?_) | refine q_step (h2 := ?_) | refine q_step (h1 := by (refine d_AOs ?_; first | refine o_call (hc := (hnq _)) (h := ?_) | refine o_load (hv := hld) (h := ?_)) <;> exact AOs.nil rfl) (h2 := ?_)))
      all_goals first | exact ⟨k - 1, by omega, q + 1, by omega, rfl⟩ | (exfalso; simp at hc; done) | (exfalso; omega)
    · clear hNq
      repeat' (first | (refine d_AOs (h := ?_) ; first | refine o_move (h := ?_) | refine AOs.nil (h := ?_) | (refine d_bin (h := ?_) ; first | refine o_lss (h := ?_))) | (refine d_AW (h := ?_) ; first | refine AW.seq (h := ?_) | refine AW.region (h := ?_) | refine AW.open_ (h := ?_) | (refine AW.cond (ht := (fun hc => ?_)) (hf := (fun hc => ?_)) <;> (try (with_reducible first | exact absurd hc Bool.false_ne_true | exact absurd hc.symm Bool.false_ne_true)) <;> (try simp only [decide_eq_true_eq, decide_eq_false_iff_not, Int.ofNat_inj, Bool.not_eq_true', Bool.not_eq_false', Int.not_lt, Int.not_le] at hc) <;> (try (exfalso; omega)) <;> (try (exact absurd hc (by decide)))) | refine AW.ret (h := ?_) | refine AW.exit (h := ?_)) | (first | refine t_normal ?_ | refine t_exit ?_ | refine b_exit ?_) | (refine d_AQ (h := ?_) ; first | refine q_nil (h := ?_) | refine q_step (h2 := ?_) | refine q_step (h1 := by (refine d_AOs ?_; first | refine o_call (hc := (hS1 _)) (h := ?_) | refine o_call (hc := (hS2 _)) (h := ?_) | refine o_call (hc := (hNZ _)) (h := ?_)) <;> exact AOs.nil rfl) (h2 := ?_)) | (refine d_post (h := ?_) ; first | refine p_ret1 rfl (h := ?_)))
      all_goals first | rfl | (exfalso; simp at hc; done) | (exfalso; omega)
  · clear hrow hcl hSr hVd
    simp only [envOf, Nat.zero_add, Nat.reduceAdd]
    repeat' (first | (refine d_AOs (h := ?_) ; first | refine o_move (h := ?_) | refine o_assign (h := ?_) | refine AOs.nil (h := ?_) | (refine d_bin (h := ?_) ; first | refine o_fdivX (he := hx) (h := ?_) | refine o_fneC (hc := hl3) (h := ?_) | refine o_neArrFF (hf := hhn) (h := ?_) | refine o_eqi (h := ?_) | refine o_nei (h := ?_)) | (refine d_grd (h := ?_) ; first | refine g_yes (h := ?_) | refine g_no (h := ?_)) | refine o_call (hc := (hB1 _)) (h := ?_) | refine o_call (hc := (hB2 _)) (h := ?_) | refine o_call (hc := (hJ _ (by first | exact hS | exact hS.append))) (h := ?_) | refine o_call (hc := (hT _)) (h := ?_) | refine o_call (hc := (hRd _)) (h := ?_) | refine o_call (hc := (hSS _)) (h := ?_) | refine o_call (hc := (hSI _)) (h := ?_) | refine o_call (hc := (hV _)) (h := ?_) | refine o_call (hc := (hp1 _ (by first | exact hS' | exact hS'.append))) (h := ?_) | refine o_call (hc := (hp2 _ (by first | exact hS | exact hS.append))) (h := ?_) | refine o_call (hc := (hp3 _ (by first | exact hS' | exact hS'.append))) (h := ?_) | refine o_call (hc := (hStI _)) (h := ?_) | refine o_call (hc := (hStS _)) (h := ?_) | refine o_call (hc := (hSD _)) (h := ?_) | refine o_call (hc := (hPr _)) (h := ?_) | refine o_call (hc := (hEv _)) (h := ?_) | refine o_call (hc := (hVe _)) (h := ?_) | refine o_call (hc := (hF _ (by first | exact hS' | exact hS'.append))) (h := ?_) | refine o_call (hc := (hW _)) (h := ?_) | refine o_call (hc := (hDI _)) (h := ?_) | refine o_call (hc := (hDS _)) (h := ?_) | refine o_call (hc := (hIF _)) (h := ?_) | refine o_load (hv := jn_ld0) (h := ?_) | refine o_load (hv := jn_ld1) (h := ?_) | refine o_load (hv := hlp) (h := ?_) | refine o_load (hv := hlt3) (h := ?_) | refine o_load (hv := hlt) (h := ?_) | refine o_store (hw := by exact whole_tab (fun i => jn_one i)) (hcs := by exact st_all (by rfl)) (h := ?_) | refine o_load (h := ?_) | refine o_at (h := ?_) | refine o_field (h := ?_) | refine o_pick (h := ?_) | refine o_not (h := ?_) | refine o_store (h := ?_) | refine o_alloc (h := ?_) | refine o_fofInt (h := ?_) | refine o_extract (h := ?_)) | (refine d_AW (h := ?_) ; first | refine AW.seq (h := ?_) | refine AW.region (h := ?_) | refine AW.open_ (h := ?_) | (refine AW.cond (ht := (fun hc => ?_)) (hf := (fun hc => ?_)) <;> (try (with_reducible first | exact absurd hc Bool.false_ne_true | exact absurd hc.symm Bool.false_ne_true)) <;> (try simp only [decide_eq_true_eq, decide_eq_false_iff_not, Int.ofNat_inj, Bool.not_eq_true', Bool.not_eq_false', Int.not_lt, Int.not_le] at hc) <;> (try (exfalso; omega)) <;> (try (exact absurd hc (by decide)))) | refine AW.block (h := ?_) | refine AW.skip (h := ?_)) | (first | refine t_normal ?_) | (refine d_AQ (h := ?_) ; first | refine q_yes (h1 := by (refine d_AOs ?_; first| (refine d_bin (h := ?_) ; first | refine o_fdivX (he := hx) (h := ?_) | refine o_fneC (hc := hl3) (h := ?_) | refine o_fneC (hc := hxx) (h := ?_) | refine o_neArrFF (hf := hhn) (h := ?_) | refine o_neArrF (hf := hdn) (h := ?_) )) <;> exact AOs.nil rfl) (h2 := ?_) | refine q_nil (h := ?_) | refine q_step (h2 := ?_) | refine q_yes (h2 := ?_) | refine q_yes (h1 := by (refine d_AOs ?_; first | refine o_call (hc := (hB1 _)) (h := ?_) | refine o_call (hc := (hB2 _)) (h := ?_) | refine o_call (hc := (hJ _ (by first | exact hS | exact hS.append))) (h := ?_) | refine o_call (hc := (hT _)) (h := ?_) | refine o_call (hc := (hRd _)) (h := ?_) | refine o_call (hc := (hSS _)) (h := ?_) | refine o_call (hc := (hSI _)) (h := ?_) | refine o_call (hc := (hV _)) (h := ?_) | refine o_call (hc := (hp1 _ (by first | exact hS' | exact hS'.append))) (h := ?_) | refine o_call (hc := (hp2 _ (by first | exact hS | exact hS.append))) (h := ?_) | refine o_call (hc := (hp3 _ (by first | exact hS' | exact hS'.append))) (h := ?_) | refine o_call (hc := (hStI _)) (h := ?_) | refine o_call (hc := (hStS _)) (h := ?_) | refine o_call (hc := (hSD _)) (h := ?_) | refine o_call (hc := (hPr _)) (h := ?_) | refine o_call (hc := (hEv _)) (h := ?_) | refine o_call (hc := (hVe _)) (h := ?_) | refine o_call (hc := (hF _ (by first | exact hS' | exact hS'.append))) (h := ?_) | refine o_call (hc := (hW _)) (h := ?_) | refine o_call (hc := (hDI _)) (h := ?_) | refine o_call (hc := (hDS _)) (h := ?_) | refine o_call (hc := (hIF _)) (h := ?_) | refine o_call (hc := (hOF _)) (h := ?_) | refine o_call (hc := (hS1 _)) (h := ?_) | refine o_call (hc := (hS2 _)) (h := ?_) | refine o_call (hc := (hNZ _)) (h := ?_) | refine o_load (hv := jn_ld0) (h := ?_) | refine o_load (hv := jn_ld1) (h := ?_) | refine o_load (hv := hlp) (h := ?_) | refine o_load (hv := hlt3) (h := ?_) | refine o_load (hv := hlt) (h := ?_) | refine o_store (hw := by exact whole_tab (fun i => jn_one i)) (hcs := by exact st_all (by rfl)) (h := ?_)) <;> exact AOs.nil rfl) (h2 := ?_)))
    all_goals try (exfalso; simp at hc; done)
    clear hB1 hB2 hJ hT hRd hSI hSS hV hp1 hp2 hp3 hStI hStS hSD hPr hlp hlt3 hlt hhn hEv hVe hF hW hDI hDS hIF hOF hdn
    refine AW.loopN [20, 25, 27, 28] (fun k st => ∃ q : Nat, q + k = 4 ∧ st = ⟨241, [(20, .pointer (some ⟨M.length + 6, 0, none⟩)), (25, .pointer (some ⟨M.length + 9, 0, none⟩)), (27, .pointer (some ⟨M.length + 10, 0, none⟩)), (28, .int .i64 (q : Int))], M ++ [jnB (N : Int) (O : Int) h, jnB (N : Int) (O : Int) h, jnB A B h2, jnB A B h2, jnB (N : Int) (O : Int) h3, jnB (N : Int) (O : Int) he', ⟨tab 4 fun q => .float .f32 (s q), none, true⟩, ⟨tab 16 fun q => .float .f32 (g q), none, true⟩, ⟨tab 4 fun q => .float .f32 (dm q), none, true⟩, ⟨tab 4 fun q => .float .f32 (dm q), none, true⟩, ⟨tab 4 fun q => .float .f32 (s q), none, true⟩]⟩) 4 ⟨0, by omega, rfl⟩ ?_
    rintro k st ⟨q, hq, rfl⟩
    by_cases hq4 : q < 4
    · have hld : ldA .one q (tab 4 fun q => Value.float .f32 (s q)) = some (.float .f32 (s q)) := ld_tab hq4 rfl
      have hnq := hNq q hq4
      clear hNq hS1 hS2 hNZ
      generalize s q = v at *
      generalize (tab 4 fun q => Value.float .f32 (s q)) = S4 at *
      repeat' (first | (refine d_AOs (h := ?_) ; first | refine o_move (h := ?_) | refine o_assign (h := ?_) | refine AOs.nil (h := ?_) | (refine d_bin (h := ?_) ; first | refine o_addS (h := ?_) | refine o_lss (h := ?_))) | (refine d_AW (h := ?_) ; first | refine AW.seq (h := ?_) | refine AW.region (h := ?_) | refine AW.open_ (h := ?_) | (refine AW.cond (ht := (fun hc => ?_)) (hf := (fun hc => ?_)) <;> (try (with_reducible first | exact absurd hc Bool.false_ne_true | exact absurd hc.symm Bool.false_ne_true)) <;> (try simp only [decide_eq_true_eq, decide_eq_false_iff_not, Int.ofNat_inj, Bool.not_eq_true', Bool.not_eq_false', Int.not_lt, Int.not_le] at hc) <;> (try (exfalso; omega)) <;> (try (exact absurd hc (by decide)))) | refine AW.block (h := ?_) | refine AW.skip (h := ?_)) | (first | refine t_normal ?_ | refine b_normal ?_) | (refine d_AQ (h := ?_) ; first | refine q_nil (h := ?_) | refine q_step (h2 := ?_) | refine q_step (h1 := by (refine d_AOs ?_; first | refine o_call (hc := (hnq _)) (h := ?_) | refine o_load (hv := hld) (h := ?_)) <;> exact AOs.nil rfl) (h2 := ?_)))
      all_goals first | exact ⟨k - 1, by omega, q + 1, by omega, rfl⟩ | (exfalso; simp at hc; done) | (exfalso; omega)
    · clear hNq
      repeat' (first | (refine d_AOs (h := ?_) ; first | refine o_move (h := ?_) | refine AOs.nil (h := ?_) | (refine d_bin (h := ?_) ; first | refine o_lss (h := ?_))) | (refine d_AW (h := ?_) ; first | refine AW.seq (h := ?_) | refine AW.region (h := ?_) | refine AW.open_ (h := ?_) | (refine AW.cond (ht := (fun hc => ?_)) (hf := (fun hc => ?_)) <;> (try (with_reducible first | exact absurd hc Bool.false_ne_true | exact absurd hc.symm Bool.false_ne_true)) <;> (try simp only [decide_eq_true_eq, decide_eq_false_iff_not, Int.ofNat_inj, Bool.not_eq_true', Bool.not_eq_false', Int.not_lt, Int.not_le] at hc) <;> (try (exfalso; omega)) <;> (try (exact absurd hc (by decide)))) | refine AW.ret (h := ?_) | refine AW.exit (h := ?_)) | (first | refine t_normal ?_ | refine t_exit ?_ | refine b_exit ?_) | (refine d_AQ (h := ?_) ; first | refine q_nil (h := ?_) | refine q_step (h2 := ?_) | refine q_step (h1 := by (refine d_AOs ?_; first | refine o_call (hc := (hS1 _)) (h := ?_) | refine o_call (hc := (hS2 _)) (h := ?_) | refine o_call (hc := (hNZ _)) (h := ?_)) <;> exact AOs.nil rfl) (h2 := ?_)) | (refine d_post (h := ?_) ; first | refine p_ret1 rfl (h := ?_)))
      all_goals first | rfl | (exfalso; simp at hc; done) | (exfalso; omega)
  · clear hrow hcl hSr hVd
    simp only [envOf, Nat.zero_add, Nat.reduceAdd]
    repeat' (first | (refine d_AOs (h := ?_) ; first | refine o_move (h := ?_) | refine o_assign (h := ?_) | refine AOs.nil (h := ?_) | (refine d_bin (h := ?_) ; first | refine o_fdivX (he := hx) (h := ?_) | refine o_fneC (hc := hl3) (h := ?_) | refine o_neArrFF (hf := hhn) (h := ?_) | refine o_eqi (h := ?_) | refine o_nei (h := ?_)) | (refine d_grd (h := ?_) ; first | refine g_yes (h := ?_)) | refine o_call (hc := (hB1 _)) (h := ?_) | refine o_call (hc := (hB2 _)) (h := ?_) | refine o_call (hc := (hJ _ (by first | exact hS | exact hS.append))) (h := ?_) | refine o_call (hc := (hT _)) (h := ?_) | refine o_call (hc := (hRd _)) (h := ?_) | refine o_call (hc := (hSS _)) (h := ?_) | refine o_call (hc := (hSI _)) (h := ?_) | refine o_call (hc := (hV _)) (h := ?_) | refine o_call (hc := (hp1 _ (by first | exact hS' | exact hS'.append))) (h := ?_) | refine o_call (hc := (hp2 _ (by first | exact hS | exact hS.append))) (h := ?_) | refine o_call (hc := (hp3 _ (by first | exact hS' | exact hS'.append))) (h := ?_) | refine o_call (hc := (hStI _)) (h := ?_) | refine o_call (hc := (hStS _)) (h := ?_) | refine o_call (hc := (hSD _)) (h := ?_) | refine o_call (hc := (hPr _)) (h := ?_) | refine o_call (hc := (hEv _)) (h := ?_) | refine o_call (hc := (hVe _)) (h := ?_) | refine o_call (hc := (hF _ (by first | exact hS' | exact hS'.append))) (h := ?_) | refine o_call (hc := (hW _)) (h := ?_) | refine o_call (hc := (hDI _)) (h := ?_) | refine o_call (hc := (hDS _)) (h := ?_) | refine o_call (hc := (hIF _)) (h := ?_) | refine o_load (hv := jn_ld0) (h := ?_) | refine o_load (hv := jn_ld1) (h := ?_) | refine o_load (hv := hlp) (h := ?_) | refine o_load (hv := hlt3) (h := ?_) | refine o_load (hv := hlt) (h := ?_) | refine o_store (hw := by exact whole_tab (fun i => jn_one i)) (hcs := by exact st_all (by rfl)) (h := ?_) | refine o_load (h := ?_) | refine o_at (h := ?_) | refine o_field (h := ?_) | refine o_pick (h := ?_) | refine o_not (h := ?_) | refine o_store (h := ?_) | refine o_alloc (h := ?_) | refine o_fofInt (h := ?_) | refine o_extract (h := ?_)) | (refine d_AW (h := ?_) ; first | refine AW.seq (h := ?_) | refine AW.region (h := ?_) | refine AW.open_ (h := ?_) | (refine AW.cond (ht := (fun hc => ?_)) (hf := (fun hc => ?_)) <;> (try (with_reducible first | exact absurd hc Bool.false_ne_true | exact absurd hc.symm Bool.false_ne_true)) <;> (try simp only [decide_eq_true_eq, decide_eq_false_iff_not, Int.ofNat_inj, Bool.not_eq_true', Bool.not_eq_false', Int.not_lt, Int.not_le] at hc) <;> (try (exfalso; omega)) <;> (try (exact absurd hc (by decide)))) | refine AW.block (h := ?_) | refine AW.skip (h := ?_)) | (first | refine t_normal ?_) | (refine d_AQ (h := ?_) ; first | refine q_yes (h1 := by (refine d_AOs ?_; first| (refine d_bin (h := ?_) ; first | refine o_fdivX (he := hx) (h := ?_) | refine o_fneC (hc := hl3) (h := ?_) | refine o_fneC (hc := hxx) (h := ?_) | refine o_neArrFF (hf := hhn) (h := ?_) | refine o_neArrF (hf := hdn) (h := ?_) )) <;> exact AOs.nil rfl) (h2 := ?_) | refine q_nil (h := ?_) | refine q_step (h2 := ?_) | refine q_yes (h2 := ?_) | refine q_yes (h1 := by (refine d_AOs ?_; first | refine o_call (hc := (hB1 _)) (h := ?_) | refine o_call (hc := (hB2 _)) (h := ?_) | refine o_call (hc := (hJ _ (by first | exact hS | exact hS.append))) (h := ?_) | refine o_call (hc := (hT _)) (h := ?_) | refine o_call (hc := (hRd _)) (h := ?_) | refine o_call (hc := (hSS _)) (h := ?_) | refine o_call (hc := (hSI _)) (h := ?_) | refine o_call (hc := (hV _)) (h := ?_) | refine o_call (hc := (hp1 _ (by first | exact hS' | exact hS'.append))) (h := ?_) | refine o_call (hc := (hp2 _ (by first | exact hS | exact hS.append))) (h := ?_) | refine o_call (hc := (hp3 _ (by first | exact hS' | exact hS'.append))) (h := ?_) | refine o_call (hc := (hStI _)) (h := ?_) | refine o_call (hc := (hStS _)) (h := ?_) | refine o_call (hc := (hSD _)) (h := ?_) | refine o_call (hc := (hPr _)) (h := ?_) | refine o_call (hc := (hEv _)) (h := ?_) | refine o_call (hc := (hVe _)) (h := ?_) | refine o_call (hc := (hF _ (by first | exact hS' | exact hS'.append))) (h := ?_) | refine o_call (hc := (hW _)) (h := ?_) | refine o_call (hc := (hDI _)) (h := ?_) | refine o_call (hc := (hDS _)) (h := ?_) | refine o_call (hc := (hIF _)) (h := ?_) | refine o_call (hc := (hOF _)) (h := ?_) | refine o_call (hc := (hS1 _)) (h := ?_) | refine o_call (hc := (hS2 _)) (h := ?_) | refine o_call (hc := (hNZ _)) (h := ?_) | refine o_load (hv := jn_ld0) (h := ?_) | refine o_load (hv := jn_ld1) (h := ?_) | refine o_load (hv := hlp) (h := ?_) | refine o_load (hv := hlt3) (h := ?_) | refine o_load (hv := hlt) (h := ?_) | refine o_store (hw := by exact whole_tab (fun i => jn_one i)) (hcs := by exact st_all (by rfl)) (h := ?_)) <;> exact AOs.nil rfl) (h2 := ?_)))
    all_goals try (exfalso; simp at hc; done)
    clear hB1 hB2 hJ hT hRd hSI hSS hV hp1 hp2 hp3 hStI hStS hSD hPr hlp hlt3 hlt hhn hEv hVe hF hW hDI hDS hIF hOF hdn
    refine AW.loopN [20, 25, 27, 28] (fun k st => ∃ q : Nat, q + k = 4 ∧ st = ⟨241, [(20, .pointer (some ⟨M.length + 6, 0, none⟩)), (25, .pointer (some ⟨M.length + 9, 0, none⟩)), (27, .pointer (some ⟨M.length + 10, 0, none⟩)), (28, .int .i64 (q : Int))], M ++ [jnB (N : Int) (O : Int) h, jnB (N : Int) (O : Int) h, jnB A B h2, jnB A B h2, jnB (N : Int) (O : Int) h3, jnB (N : Int) (O : Int) he', ⟨tab 4 fun q => .float .f32 (s q), none, true⟩, ⟨tab 16 fun q => .float .f32 (g q), none, true⟩, ⟨tab 4 fun q => .float .f32 (dm q), none, true⟩, ⟨tab 4 fun q => .float .f32 (dm q), none, true⟩, ⟨tab 4 fun q => .float .f32 (s q), none, true⟩]⟩) 4 ⟨0, by omega, rfl⟩ ?_
    rintro k st ⟨q, hq, rfl⟩
    by_cases hq4 : q < 4
    · have hld : ldA .one q (tab 4 fun q => Value.float .f32 (s q)) = some (.float .f32 (s q)) := ld_tab hq4 rfl
      have hnq := hNq q hq4
      clear hNq hS1 hS2 hNZ
      generalize s q = v at *
      generalize (tab 4 fun q => Value.float .f32 (s q)) = S4 at *
      repeat' (first | (refine d_AOs (h := ?_) ; first | refine o_move (h := ?_) | refine o_assign (h := ?_) | refine AOs.nil (h := ?_) | (refine d_bin (h := ?_) ; first | refine o_addS (h := ?_) | refine o_lss (h := ?_))) | (refine d_AW (h := ?_) ; first | refine AW.seq (h := ?_) | refine AW.region (h := ?_) | refine AW.open_ (h := ?_) | (refine AW.cond (ht := (fun hc => ?_)) (hf := (fun hc => ?_)) <;> (try (with_reducible first | exact absurd hc Bool.false_ne_true | exact absurd hc.symm Bool.false_ne_true)) <;> (try simp only [decide_eq_true_eq, decide_eq_false_iff_not, Int.ofNat_inj, Bool.not_eq_true', Bool.not_eq_false', Int.not_lt, Int.not_le] at hc) <;> (try (exfalso; omega)) <;> (try (exact absurd hc (by decide)))) | refine AW.block (h := ?_) | refine AW.skip (h := ?_)) | (first | refine t_normal ?_ | refine b_normal ?_) | (refine d_AQ (h := ?_) ; first | refine q_nil (h := ?_) | refine q_step (h2 := ?_) | refine q_step (h1 := by (refine d_AOs ?_; first | refine o_call (hc := (hnq _)) (h := ?_) | refine o_load (hv := hld) (h := ?_)) <;> exact AOs.nil rfl) (h2 := ?_)))
      all_goals first | exact ⟨k - 1, by omega, q + 1, by omega, rfl⟩ | (exfalso; simp at hc; done) | (exfalso; omega)
    · clear hNq
      repeat' (first | (refine d_AOs (h := ?_) ; first | refine o_move (h := ?_) | refine AOs.nil (h := ?_) | (refine d_bin (h := ?_) ; first | refine o_lss (h := ?_))) | (refine d_AW (h := ?_) ; first | refine AW.seq (h := ?_) | refine AW.region (h := ?_) | refine AW.open_ (h := ?_) | (refine AW.cond (ht := (fun hc => ?_)) (hf := (fun hc => ?_)) <;> (try (with_reducible first | exact absurd hc Bool.false_ne_true | exact absurd hc.symm Bool.false_ne_true)) <;> (try simp only [decide_eq_true_eq, decide_eq_false_iff_not, Int.ofNat_inj, Bool.not_eq_true', Bool.not_eq_false', Int.not_lt, Int.not_le] at hc) <;> (try (exfalso; omega)) <;> (try (exact absurd hc (by decide)))) | refine AW.ret (h := ?_) | refine AW.exit (h := ?_)) | (first | refine t_normal ?_ | refine t_exit ?_ | refine b_exit ?_) | (refine d_AQ (h := ?_) ; first | refine q_nil (h := ?_) | refine q_step (h2 := ?_) | refine q_step (h1 := by (refine d_AOs ?_; first | refine o_call (hc := (hS1 _)) (h := ?_) | refine o_call (hc := (hS2 _)) (h := ?_) | refine o_call (hc := (hNZ _)) (h := ?_)) <;> exact AOs.nil rfl) (h2 := ?_)) | (refine d_post (h := ?_) ; first | refine p_ret1 rfl (h := ?_)))
      all_goals first | rfl | (exfalso; simp at hc; done) | (exfalso; omega)
end Go.Proofs.YtgdpcomemkimhaaGreatDoor
