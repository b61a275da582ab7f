/- Junctions that are the same; drawn numbers; nearness. -/
import Derived.Test.YtgdpcomemkimhaaGreatDoorJc

namespace Go.Proofs.YtgdpcomemkimhaaGreatDoor
open Go.RowKit
attribute [local irreducible] AW AOs AO AQ AQW thenA inBlockA postA ACalls Pure
set_option linter.unusedSimpArgs false
set_option linter.unusedVariables false
set_option linter.unusedSectionVars false

theorem ieq4 (g : Nat → Nat) (j j2 : Nat) (rw1 rw2 : Bool) (M : Mem) (hb : M[j]? = some ⟨tab 4 fun q => .float .f32 (g q), none, rw1⟩) (hb2 : M[j2]? = some ⟨tab 4 fun q => .float .f32 (g q), none, rw2⟩) :
    Pure Tryz.prog 129 [.slice (some ⟨j, 0, none⟩) 4 4, .slice (some ⟨j2, 0, none⟩) 4 4, .func (.func 35) #[] #[]] M (.bool true) := by
  refine pure_of Tryz.func129 Tryz.ntmps129 rfl rfl (by repeat' (first | exact Flat.bool _)) ?_
  have hs : ∀ a M', Pure Tryz.prog 35 [.float .f32 a, .float .f32 a] M' (.bool true) := fun a M' => by
    have := iSameNumber a a M'
    rwa [decide_eq_true rfl] at this
  simp only [envOf, Nat.zero_add, Nat.reduceAdd]
  repeat' (first | (refine d_AOs (h := ?_) ; first | refine o_move (h := ?_) | refine o_assign (h := ?_) | refine AOs.nil (h := ?_) | (refine d_bin (h := ?_) ; first | refine o_nei (h := ?_)) | refine o_len (h := ?_)) | (refine d_AW (h := ?_) ; first | refine AW.seq (h := ?_) | refine AW.region (h := ?_) | (refine AW.cond (ht := (fun hc => ?_)) (hf := (fun hc => ?_)) <;> (try (with_reducible first | exact absurd hc Bool.false_ne_true | exact absurd hc.symm Bool.false_ne_true)) <;> (try simp only [decide_eq_true_eq, decide_eq_false_iff_not, Int.ofNat_inj, Bool.not_eq_true', Bool.not_eq_false', Int.not_lt, Int.not_le] at hc) <;> (try (exfalso; omega)) <;> (try (exact absurd hc (by decide)))) | refine AW.block (h := ?_) | refine AW.skip (h := ?_)) | (first | refine t_normal ?_))
  all_goals try (exfalso; simp at hc; done)
  refine AW.loopN [1, 2, 15, 16, 17] (fun k st => ∃ i : Nat, i + k = 4 ∧ st = ⟨32, [(1, .slice (some ⟨j2, 0, none⟩) 4 4), (2, .func (.func 35) #[] #[]), (15, .slice (some ⟨j, 0, none⟩) 4 4), (16, .int .i64 4), (17, .int .i64 (i : Int))], M⟩) 4 ⟨0, by omega, rfl⟩ ?_
  rintro k st ⟨i, hi, rfl⟩
  by_cases hin : i < 4
  · repeat' (first | (refine d_AOs (h := ?_) ; first | refine o_move (h := ?_) | refine o_assign (h := ?_) | refine AOs.nil (h := ?_) | (refine d_bin (h := ?_) ; first | refine o_addS (h := ?_) | refine o_lss (h := ?_)) | refine o_callVP (hc := (hs _ _)) (h := ?_) | refine o_load (h := ?_) | refine o_not (h := ?_) | refine o_ixS (h := ?_)) | (refine d_AW (h := ?_) ; first | refine AW.seq (h := ?_) | refine AW.region (h := ?_) | (refine AW.cond (ht := (fun hc => ?_)) (hf := (fun hc => ?_)) <;> (try (with_reducible first | exact absurd hc Bool.false_ne_true | exact absurd hc.symm Bool.false_ne_true)) <;> (try simp only [decide_eq_true_eq, decide_eq_false_iff_not, Int.ofNat_inj, Bool.not_eq_true', Bool.not_eq_false', Int.not_lt, Int.not_le] at hc) <;> (try (exfalso; omega)) <;> (try (exact absurd hc (by decide)))) | refine AW.block (h := ?_) | refine AW.skip (h := ?_)) | (first | refine t_normal ?_ | refine b_normal ?_))
    all_goals first | (exfalso; simp at hc; done) | exact ⟨k - 1, by omega, i + 1, by omega, rfl⟩
  · repeat' (first | (refine d_AOs (h := ?_) ; first | refine o_assign (h := ?_) | refine AOs.nil (h := ?_) | (refine d_bin (h := ?_) ; first | refine o_lss (h := ?_))) | (refine d_AW (h := ?_) ; first | refine AW.seq (h := ?_) | refine AW.region (h := ?_) | (refine AW.cond (ht := (fun hc => ?_)) (hf := (fun hc => ?_)) <;> (try (with_reducible first | exact absurd hc Bool.false_ne_true | exact absurd hc.symm Bool.false_ne_true)) <;> (try simp only [decide_eq_true_eq, decide_eq_false_iff_not, Int.ofNat_inj, Bool.not_eq_true', Bool.not_eq_false', Int.not_lt, Int.not_le] at hc) <;> (try (exfalso; omega)) <;> (try (exact absurd hc (by decide)))) | refine AW.ret (h := ?_) | refine AW.exit (h := ?_)) | (first | refine t_normal ?_ | refine t_exit ?_ | refine b_exit ?_) | (refine d_post (h := ?_) ; first | refine p_ret1 rfl (h := ?_)))
    all_goals first | rfl | (exfalso; omega)
theorem isame4 (g : Nat → Nat) (j j2 : Nat) (rw1 rw2 : Bool) (M : Mem) (hb : M[j]? = some ⟨tab 4 fun q => .float .f32 (g q), none, rw1⟩) (hb2 : M[j2]? = some ⟨tab 4 fun q => .float .f32 (g q), none, rw2⟩) :
    Pure Tryz.prog 89 [.slice (some ⟨j, 0, none⟩) 4 4, .slice (some ⟨j2, 0, none⟩) 4 4] M (.bool true) := by
  refine pure_of Tryz.func89 Tryz.ntmps89 rfl rfl (by repeat' (first | exact Flat.bool _)) ?_
  simp only [envOf, Nat.zero_add, Nat.reduceAdd]
  repeat' (first | (refine d_AOs (h := ?_) ; first | refine o_move (h := ?_) | refine o_assign (h := ?_) | refine AOs.nil (h := ?_) | refine o_call (hc := (ieq4 g j j2 rw1 rw2 M hb hb2)) (h := ?_)) | (refine d_AW (h := ?_) ; first | refine AW.seq (h := ?_) | refine AW.region (h := ?_) | refine AW.ret (h := ?_)) | (first | refine t_normal ?_) | (refine d_post (h := ?_) ; first | refine p_ret1 rfl (h := ?_)))
  all_goals rfl
theorem isameFour (g : Nat → Nat) (M : Mem) : Pure Tryz.prog 61 [foV g, foV g] M (.bool true) := by
  refine pure_of Tryz.func61 Tryz.ntmps61 rfl rfl (by repeat' (first | exact Flat.bool _)) ?_
  simp only [envOf, Nat.zero_add, Nat.reduceAdd]
  repeat' (first | (refine d_AOs (h := ?_) ; first | refine o_assign (h := ?_) | refine AOs.nil (h := ?_) | refine o_box (h := ?_)) | (refine d_AW (h := ?_) ; first | refine AW.seq (h := ?_) | refine AW.region (h := ?_) | refine AW.open_ (h := ?_) | refine AW.ret (h := ?_)) | (first | refine t_normal ?_) | (refine d_AQ (h := ?_) ; first | refine q_nil (h := ?_) | refine q_step (h2 := ?_) | refine q_step (h1 := by (refine d_AOs ?_; first | refine o_slArr (h := ?_) | refine o_call (hc := (isame4 g _ _ true true _ (by first | (simp only [mem_tail, mem_tail0, List.getElem?_cons_zero, List.getElem?_cons_succ]; first | done | rfl) | exact mem_head (by assumption) | assumption | (simp only [mem_tailS, mem_tailS0, List.getElem?_cons_zero, List.getElem?_cons_succ]; first | done | rfl) | exact mem_set1 (by assumption) | exact mem_set0 (by assumption) | exact mem_setN1 (by assumption) (by assumption) | exact mem_setN (by assumption) (by assumption)) (by first | (simp only [mem_tail, mem_tail0, List.getElem?_cons_zero, List.getElem?_cons_succ]; first | done | rfl) | exact mem_head (by assumption) | assumption | (simp only [mem_tailS, mem_tailS0, List.getElem?_cons_zero, List.getElem?_cons_succ]; first | done | rfl) | exact mem_set1 (by assumption) | exact mem_set0 (by assumption) | exact mem_setN1 (by assumption) (by assumption) | exact mem_setN (by assumption) (by assumption)))) (h := ?_)) <;> exact AOs.nil rfl) (h2 := ?_)) | (refine d_post (h := ?_) ; first | refine p_ret1 rfl (h := ?_)))
  all_goals rfl
section
variable {a b : Int} {h : Nat → Nat}
theorem jn_ldRow {i : Nat} (hi : i < 4) : ldA (.agg 4) (2 + i * 4) (tab 22 (jnJ a b h)) = some (.agg (tab 4 fun q => .float .f32 (jA h i q)).toArray) := by
  rw [ld_part (by omega)]
  rw [tab_congr (n := 4) (f := fun q => jnJ a b h (2 + i * 4 + q)) (g := fun q => .float .f32 (jA h i q)) fun q _ => by
    unfold jnJ jA
    rw [if_neg (by omega), if_neg (by omega), Nat.add_assoc]]
set_option maxHeartbeats 8000000 in
theorem ieqRows (j j2 : Nat) (J : List Value) (hJ : ∀ i, i < 4 → ldA (.agg 4) (2 + i * 4) J = some (.agg (tab 4 fun q => .float .f32 (jA h i q)).toArray)) (rw1 rw2 : Bool) (M : Mem) (hb : M[j]? = some ⟨J, none, rw1⟩) (hb2 : M[j2]? = some ⟨J, none, rw2⟩) :
    Pure Tryz.prog 60 [.slice (some ⟨j, 2, none⟩) 4 4, .slice (some ⟨j2, 2, none⟩) 4 4, .func (.func 61) #[] #[]] M (.bool true) := by
  refine Pure.belA fun hM hA => ?_
  have hA1 := hA (.slice (some ⟨j2, 2, none⟩) 4 4) (by simp) (.slice (some ⟨j2, 2, none⟩) 4 4) (by simp [cellsA])
  have hA2 := hA (.slice (some ⟨j, 2, none⟩) 4 4) (by simp) (.slice (some ⟨j, 2, none⟩) 4 4) (by simp [cellsA])
  have hA3 := hA (.func (.func 61) #[] #[]) (by simp) (.func (.func 61) #[] #[]) (by simp [cellsA])
  refine pure_of Tryz.func60 Tryz.ntmps60 rfl rfl (by repeat' (first | exact Flat.bool _)) ?_
  have hjl := (List.getElem?_eq_some_iff.1 hb).1
  have hjl2 := (List.getElem?_eq_some_iff.1 hb2).1
  simp only [envOf, Nat.zero_add, Nat.reduceAdd]
  repeat' (first | (refine d_AOs (h := ?_) ; first | refine o_move (h := ?_) | refine o_assign (h := ?_) | refine AOs.nil (h := ?_) | (refine d_bin (h := ?_) ; first | refine o_nei (h := ?_)) | refine o_len (h := ?_)) | (refine d_AW (h := ?_) ; first | refine AW.seq (h := ?_) | refine AW.region (h := ?_) | (refine AW.cond (ht := (fun hc => ?_)) (hf := (fun hc => ?_)) <;> (try (with_reducible first | exact absurd hc Bool.false_ne_true | exact absurd hc.symm Bool.false_ne_true)) <;> (try simp only [decide_eq_true_eq, decide_eq_false_iff_not, Int.ofNat_inj, Bool.not_eq_true', Bool.not_eq_false', Int.not_lt, Int.not_le] at hc) <;> (try (exfalso; omega)) <;> (try (exact absurd hc (by decide)))) | refine AW.block (h := ?_) | refine AW.skip (h := ?_)) | (first | refine t_normal ?_))
  all_goals try (exfalso; simp at hc; done)
  refine AW.loopG [1, 2, 15, 16, 17] (fun k st => ∃ i : Nat, i + k = 4 ∧ st = ⟨32, [(1, .slice (some ⟨j2, 2, none⟩) 4 4), (2, .func (.func 61) #[] #[]), (15, .slice (some ⟨j, 2, none⟩) 4 4), (16, .int .i64 4), (17, .int .i64 (i : Int))], M⟩) 4 ⟨0, by omega, rfl⟩ ?_
  rintro k st ⟨i, hi, rfl⟩
  by_cases hin : i < 4
  · have hld := hJ i hin
    have hS := fun M' => isameFour (jA h i) M'
    clear hJ
    repeat' (first | (refine d_AOs (h := ?_) ; first | refine o_move (h := ?_) | refine o_assign (h := ?_) | refine AOs.nil (h := ?_) | (refine d_bin (h := ?_) ; first | refine o_addS (h := ?_) | refine o_lss (h := ?_)) | refine o_load (hv := hld) (h := ?_) | refine o_callVP (hc := (hS _)) (h := ?_) | refine o_load (h := ?_) | refine o_not (h := ?_) | refine o_ixS (h := ?_) | refine o_store (h := ?_) | refine o_alloc (h := ?_)) | (refine d_AW (h := ?_) ; first | refine AW.seq (h := ?_) | refine AW.region (h := ?_) | (refine AW.cond (ht := (fun hc => ?_)) (hf := (fun hc => ?_)) <;> (try (with_reducible first | exact absurd hc Bool.false_ne_true | exact absurd hc.symm Bool.false_ne_true)) <;> (try simp only [decide_eq_true_eq, decide_eq_false_iff_not, Int.ofNat_inj, Bool.not_eq_true', Bool.not_eq_false', Int.not_lt, Int.not_le] at hc) <;> (try (exfalso; omega)) <;> (try (exact absurd hc (by decide)))) | refine AW.block (h := ?_) | refine AW.skip (h := ?_)) | (first | refine t_normal ?_ | refine b_normal ?_))
    all_goals first | (exfalso; simp at hc; done) | exact ⟨k - 1, M, _, by omega, rfl, by simp, hM, ⟨hA1, hA3, hA2, Bel.flat (Flat.int _ _), Bel.flat (Flat.int _ _), trivial⟩, i + 1, by omega, rfl⟩
  · repeat' (first | (refine d_AOs (h := ?_) ; first | refine o_assign (h := ?_) | refine AOs.nil (h := ?_) | (refine d_bin (h := ?_) ; first | refine o_lss (h := ?_))) | (refine d_AW (h := ?_) ; first | refine AW.seq (h := ?_) | refine AW.region (h := ?_) | (refine AW.cond (ht := (fun hc => ?_)) (hf := (fun hc => ?_)) <;> (try (with_reducible first | exact absurd hc Bool.false_ne_true | exact absurd hc.symm Bool.false_ne_true)) <;> (try simp only [decide_eq_true_eq, decide_eq_false_iff_not, Int.ofNat_inj, Bool.not_eq_true', Bool.not_eq_false', Int.not_lt, Int.not_le] at hc) <;> (try (exfalso; omega)) <;> (try (exact absurd hc (by decide)))) | refine AW.ret (h := ?_) | refine AW.exit (h := ?_)) | (first | refine t_normal ?_ | refine t_exit ?_ | refine b_exit ?_) | (refine d_post (h := ?_) ; first | refine p_ret1 rfl (h := ?_)))
    all_goals first | rfl | (exfalso; omega)
set_option maxHeartbeats 8000000 in
theorem iSameJunction (M : Mem) : Pure Tryz.prog 10 [jnV a b h, jnV a b h] M (.bool true) := by
  refine pure_of Tryz.func10 Tryz.ntmps10 rfl rfl (by repeat' (first | exact Flat.bool _)) ?_
  have hE := fun M' j j2 h1 h2 => ieqRows j j2 (tab 22 (jnJ a b h)) (fun i hi => jn_ldRow hi) true true M' h1 h2
  have hS : ∀ M', Pure Tryz.prog 61 [.agg (tab 4 fun q => jnJ a b h (18 + q)).toArray, .agg (tab 4 fun q => jnJ a b h (18 + q)).toArray] M' (.bool true) := fun M' => isameFour (fun q => h (18 + q)) M'
  have hS2 := fun M' => isameFour (fun q => h (18 + q)) M'
  simp only [envOf, Nat.zero_add, Nat.reduceAdd]
  repeat' (first | (refine d_AOs (h := ?_) ; first | refine o_assign (h := ?_) | refine AOs.nil (h := ?_) | refine o_box (h := ?_)) | (refine d_AW (h := ?_) ; first | refine AW.seq (h := ?_) | refine AW.region (h := ?_) | refine AW.open_ (h := ?_) | refine AW.ret (h := ?_)) | (first | refine t_normal ?_) | (refine d_AQ (h := ?_) ; first | refine q_nil (h := ?_) | refine q_step (h2 := ?_) | refine q_yes (h2 := ?_) | (refine q_true (h2 := (fun hg => ?_)) (h0 := (fun hg => ?_)) <;> (try rw [hg]) <;> (try simp only [decide_eq_true_eq, decide_eq_false_iff_not, Int.ofNat_inj, Bool.not_eq_true', Bool.not_eq_false', Int.not_lt, Int.not_le] at hg) <;> (try (exfalso; omega)) <;> (try (exact absurd hg (by decide)))) | refine q_yes (h1 := by (refine d_AOs ?_; first | refine o_slArr (h := ?_) | refine o_load (hv := jn_ld0) (h := ?_) | refine o_load (hv := jn_ld1) (h := ?_) | refine o_load (hv := jc_ldP) (h := ?_) | refine o_call (hc := (hE _ _ _ (by first | (simp only [mem_tail, mem_tail0, List.getElem?_cons_zero, List.getElem?_cons_succ]; first | done | rfl) | exact mem_head (by assumption) | assumption | (simp only [mem_tailS, mem_tailS0, List.getElem?_cons_zero, List.getElem?_cons_succ]; first | done | rfl) | exact mem_set1 (by assumption) | exact mem_set0 (by assumption) | exact mem_setN1 (by assumption) (by assumption) | exact mem_setN (by assumption) (by assumption)) (by first | (simp only [mem_tail, mem_tail0, List.getElem?_cons_zero, List.getElem?_cons_succ]; first | done | rfl) | exact mem_head (by assumption) | assumption | (simp only [mem_tailS, mem_tailS0, List.getElem?_cons_zero, List.getElem?_cons_succ]; first | done | rfl) | exact mem_set1 (by assumption) | exact mem_set0 (by assumption) | exact mem_setN1 (by assumption) (by assumption) | exact mem_setN (by assumption) (by assumption)))) (h := ?_) | refine o_call (hc := (hS _)) (h := ?_) | refine o_call (hc := (hS2 _)) (h := ?_)) <;> exact AOs.nil rfl) (h2 := ?_)) | (refine d_post (h := ?_) ; first | refine p_ret1 rfl (h := ?_)))
  all_goals first | rfl | (exfalso; simp at hc; done) | (exfalso; simp at hg; done) | (simp; done)
set_option maxHeartbeats 8000000 in
theorem sl03Same (j j2 : Nat) (J : List Value) (h0 : ldA .one 0 J = some (.int .i64 a)) (h1 : ldA .one 1 J = some (.int .i64 b)) (hJ : ∀ i q, i < 4 → q < 4 → ldA .one (2 + i * 4 + q) J = some (.float .f32 (jA h i q))) (hP : ∀ i, i < 4 → ldA .one (18 + i) J = some (.float .f32 (h (18 + i)))) (M : Mem) (hb : M[j]? = some ⟨J, none, true⟩) (hb2 : M[j2]? = some ⟨J, none, true⟩) :
    Pure Tryz.prog 59 [.pointer (some ⟨j, 0, none⟩), .pointer (some ⟨j2, 0, none⟩)] M (.bool true) := by
  refine pure_of Tryz.func59 Tryz.ntmps59 rfl rfl (by repeat' (first | exact Flat.bool _)) ?_
  have hs : ∀ a M', Pure Tryz.prog 91 [.float .f32 a, .float .f32 a] M' (.bool true) := fun a M' => by
    have := sl01Same a a M'
    rwa [decide_eq_true rfl] at this
  simp only [envOf, Nat.zero_add, Nat.reduceAdd]
  repeat' (first | (refine d_AOs (h := ?_) ; first | refine o_assign (h := ?_) | refine AOs.nil (h := ?_)) | (refine d_AW (h := ?_) ; first | refine AW.seq (h := ?_) | refine AW.region (h := ?_) | refine AW.block (h := ?_)) | (first | refine t_normal ?_))
  refine AW.loopN [0, 1, 5] (fun k st => ∃ i : Nat, i + k = 4 ∧ st = ⟨67, [(0, .pointer (some ⟨j, 0, none⟩)), (1, .pointer (some ⟨j2, 0, none⟩)), (5, .int .i64 (i : Int))], M⟩) 4 ⟨0, by omega, rfl⟩ ?_
  rintro k st ⟨i, hi, rfl⟩
  by_cases hin : i < 4
  · repeat' (first | (refine d_AOs (h := ?_) ; first | refine o_move (h := ?_) | refine o_assign (h := ?_) | refine AOs.nil (h := ?_) | (refine d_bin (h := ?_) ; first | refine o_lss (h := ?_))) | (refine d_AW (h := ?_) ; first | refine AW.seq (h := ?_) | refine AW.region (h := ?_) | (refine AW.cond (ht := (fun hc => ?_)) (hf := (fun hc => ?_)) <;> (try (with_reducible first | exact absurd hc Bool.false_ne_true | exact absurd hc.symm Bool.false_ne_true)) <;> (try simp only [decide_eq_true_eq, decide_eq_false_iff_not, Int.ofNat_inj, Bool.not_eq_true', Bool.not_eq_false', Int.not_lt, Int.not_le] at hc) <;> (try (exfalso; omega)) <;> (try (exact absurd hc (by decide)))) | refine AW.block (h := ?_) | refine AW.skip (h := ?_)) | (first | refine t_normal ?_))
    refine AW.loopN [0, 1, 5, 6] (fun k st => ∃ q : Nat, q + k = 4 ∧ st = ⟨67, [(0, .pointer (some ⟨j, 0, none⟩)), (1, .pointer (some ⟨j2, 0, none⟩)), (5, .int .i64 (i : Int)), (6, .int .i64 (q : Int))], M⟩) 4 ⟨0, by omega, rfl⟩ ?_
    rintro k2 st ⟨q, hqk, rfl⟩
    by_cases hqn : q < 4
    · have hld := hJ i q hin hqn
      repeat' (first | (refine d_AOs (h := ?_) ; first | refine o_move (h := ?_) | refine o_assign (h := ?_) | refine AOs.nil (h := ?_) | (refine d_bin (h := ?_) ; first | refine o_addS (h := ?_) | refine o_lss (h := ?_))) | (refine d_AW (h := ?_) ; first | refine AW.seq (h := ?_) | refine AW.region (h := ?_) | refine AW.open_ (h := ?_) | (refine AW.cond (ht := (fun hc => ?_)) (hf := (fun hc => ?_)) <;> (try (with_reducible first | exact absurd hc Bool.false_ne_true | exact absurd hc.symm Bool.false_ne_true)) <;> (try simp only [decide_eq_true_eq, decide_eq_false_iff_not, Int.ofNat_inj, Bool.not_eq_true', Bool.not_eq_false', Int.not_lt, Int.not_le] at hc) <;> (try (exfalso; omega)) <;> (try (exact absurd hc (by decide)))) | refine AW.block (h := ?_) | refine AW.skip (h := ?_)) | (first | refine t_normal ?_ | refine b_normal ?_) | (refine d_AQ (h := ?_) ; first | refine q_nil (h := ?_) | refine q_step (h2 := ?_) | refine q_step (h1 := by (refine d_AOs ?_; first | refine o_load (hv := hld) (h := ?_) | refine o_call (hc := (hs _ _)) (h := ?_)) <;> exact AOs.nil rfl) (h2 := ?_)))
      all_goals first | (exfalso; simp at hc; done) | exact ⟨k2 - 1, by omega, q + 1, by omega, rfl⟩
    · have hld := hP i hin
      obtain rfl : q = 4 := by omega
      repeat' (first | (refine d_AOs (h := ?_) ; first | refine o_move (h := ?_) | refine o_assign (h := ?_) | refine AOs.nil (h := ?_) | (refine d_bin (h := ?_) ; first | refine o_addS (h := ?_) | refine o_lss (h := ?_))) | (refine d_AW (h := ?_) ; first | refine AW.seq (h := ?_) | refine AW.region (h := ?_) | refine AW.open_ (h := ?_) | (refine AW.cond (ht := (fun hc => ?_)) (hf := (fun hc => ?_)) <;> (try (with_reducible first | exact absurd hc Bool.false_ne_true | exact absurd hc.symm Bool.false_ne_true)) <;> (try simp only [decide_eq_true_eq, decide_eq_false_iff_not, Int.ofNat_inj, Bool.not_eq_true', Bool.not_eq_false', Int.not_lt, Int.not_le] at hc) <;> (try (exfalso; omega)) <;> (try (exact absurd hc (by decide)))) | refine AW.skip (h := ?_) | refine AW.exit (h := ?_)) | (first | refine t_normal ?_ | refine t_exit ?_ | refine b_normal ?_ | refine b_exit ?_) | (refine d_AQ (h := ?_) ; first | refine q_nil (h := ?_) | refine q_step (h2 := ?_) | refine q_step (h1 := by (refine d_AOs ?_; first | refine o_load (hv := hld) (h := ?_) | refine o_call (hc := (hs _ _)) (h := ?_)) <;> exact AOs.nil rfl) (h2 := ?_)))
      all_goals first | (exfalso; simp at hc; done) | exact ⟨k - 1, by omega, i + 1, by omega, rfl⟩
  · repeat' (first | (refine d_AOs (h := ?_) ; first | refine o_move (h := ?_) | refine AOs.nil (h := ?_) | (refine d_bin (h := ?_) ; first | refine o_lss (h := ?_))) | (refine d_AW (h := ?_) ; first | refine AW.seq (h := ?_) | refine AW.region (h := ?_) | refine AW.open_ (h := ?_) | (refine AW.cond (ht := (fun hc => ?_)) (hf := (fun hc => ?_)) <;> (try (with_reducible first | exact absurd hc Bool.false_ne_true | exact absurd hc.symm Bool.false_ne_true)) <;> (try simp only [decide_eq_true_eq, decide_eq_false_iff_not, Int.ofNat_inj, Bool.not_eq_true', Bool.not_eq_false', Int.not_lt, Int.not_le] at hc) <;> (try (exfalso; omega)) <;> (try (exact absurd hc (by decide)))) | refine AW.ret (h := ?_) | refine AW.exit (h := ?_)) | (first | refine t_normal ?_ | refine t_exit ?_ | refine b_exit ?_) | (refine d_AQ (h := ?_) ; first | refine q_nil (h := ?_) | refine q_step (h2 := ?_) | refine q_yes (h2 := ?_) | (refine q_true (h2 := (fun hg => ?_)) (h0 := (fun hg => ?_)) <;> (try rw [hg]) <;> (try simp only [decide_eq_true_eq, decide_eq_false_iff_not, Int.ofNat_inj, Bool.not_eq_true', Bool.not_eq_false', Int.not_lt, Int.not_le] at hg) <;> (try (exfalso; omega)) <;> (try (exact absurd hg (by decide)))) | refine q_step (h1 := by (refine d_AOs ?_; first | refine o_load (hv := h0) (h := ?_) | refine o_load (hv := h1) (h := ?_)) <;> exact AOs.nil rfl) (h2 := ?_) | refine q_yes (h1 := by (refine d_AOs ?_; first | refine o_load (hv := h0) (h := ?_) | refine o_load (hv := h1) (h := ?_)) <;> exact AOs.nil rfl) (h2 := ?_)) | (refine d_post (h := ?_) ; first | refine p_ret1 rfl (h := ?_)))
    all_goals first | rfl | (exfalso; simp at hg; done) | (simp; done)
theorem sSameJunction (M : Mem) : Pure Tryz.prog 9 [jnV a b h, jnV a b h] M (.bool true) := by
  refine pure_of Tryz.func9 Tryz.ntmps9 rfl rfl (by repeat' (first | exact Flat.bool _)) ?_
  have hE := fun M' j j2 h1 h2 => sl03Same j j2 (tab 22 (jnJ a b h)) jn_ld0 jn_ld1 (fun i q hi hq => jn_ldA hi hq) (fun i hi => jn_ldP hi) M' h1 h2
  simp only [envOf, Nat.zero_add, Nat.reduceAdd]
  repeat' (first | (refine d_AOs (h := ?_) ; first | refine o_assign (h := ?_) | refine AOs.nil (h := ?_) | refine o_call (hc := (hE _ _ _ (by first | (simp only [mem_tail, mem_tail0, List.getElem?_cons_zero, List.getElem?_cons_succ]; first | done | rfl) | exact mem_head (by assumption) | assumption | (simp only [mem_tailS, mem_tailS0, List.getElem?_cons_zero, List.getElem?_cons_succ]; first | done | rfl) | exact mem_set1 (by assumption) | exact mem_set0 (by assumption) | exact mem_setN1 (by assumption) (by assumption) | exact mem_setN (by assumption) (by assumption)) (by first | (simp only [mem_tail, mem_tail0, List.getElem?_cons_zero, List.getElem?_cons_succ]; first | done | rfl) | exact mem_head (by assumption) | assumption | (simp only [mem_tailS, mem_tailS0, List.getElem?_cons_zero, List.getElem?_cons_succ]; first | done | rfl) | exact mem_set1 (by assumption) | exact mem_set0 (by assumption) | exact mem_setN1 (by assumption) (by assumption) | exact mem_setN (by assumption) (by assumption)))) (h := ?_) | refine o_box (h := ?_)) | (refine d_AW (h := ?_) ; first | refine AW.seq (h := ?_) | refine AW.region (h := ?_) | refine AW.ret (h := ?_)) | (first | refine t_normal ?_) | (refine d_post (h := ?_) ; first | refine p_ret1 rfl (h := ?_)))
  all_goals rfl
end
/-! ### Nearness -/
def farG (d : Nat) : Nat := if flt .f32 d 0 = true then fneg .f32 d else d
theorem sFarOf2 (d : Nat) (hd : fnan .f32 d = false) (M : Mem) : Pure Tryz.prog 74 [.float .f32 d] M (.float .f32 (farG d)) := by
  refine pure_of Tryz.func74 Tryz.ntmps74 rfl rfl (by repeat' (first | exact Flat.float _ _)) ?_
  unfold farG
  simp only [envOf, Nat.zero_add, Nat.reduceAdd]
  repeat' (first | (refine d_AOs (h := ?_) ; first | refine o_move (h := ?_) | refine o_assign (h := ?_) | refine AOs.nil (h := ?_) | (refine d_bin (h := ?_) ; first | refine o_flt (h := ?_)) | refine o_fneg (h := ?_)) | (refine d_AW (h := ?_) ; first | refine AW.seq (h := ?_) | refine AW.region (h := ?_) | (refine AW.cond (ht := (fun hc => ?_)) (hf := (fun hc => ?_)) <;> (try (with_reducible first | exact absurd hc Bool.false_ne_true | exact absurd hc.symm Bool.false_ne_true)) <;> (try simp only [decide_eq_true_eq, decide_eq_false_iff_not, Int.ofNat_inj, Bool.not_eq_true', Bool.not_eq_false', Int.not_lt, Int.not_le] at hc) <;> (try (exfalso; omega)) <;> (try (exact absurd hc (by decide)))) | refine AW.ret (h := ?_) | refine AW.skip (h := ?_)) | (first | refine t_normal ?_ | refine t_ret ?_) | (refine d_post (h := ?_) ; first | refine p_ret1 rfl (h := ?_)))
  · rw [if_pos hc]
  · rw [if_neg (by rw [hc]; simp)]
theorem lf6 {x y z : Nat} (hn : fnan .f32 (fsub .f32 x y) = false) (he : fle .f32 (farG (fsub .f32 x y)) z = true) (M : Mem) : Pure Tryz.prog 18 [.float .f32 x, .float .f32 y, .float .f32 z] M (.bool true) := by
  refine pure_of Tryz.func18 Tryz.ntmps18 rfl rfl (by repeat' (first | exact Flat.bool _)) ?_
  have hF := fun M' => sFarOf2 (fsub .f32 x y) hn M'
  rw [← he]
  clear he
  generalize farG (fsub .f32 x y) = r at *
  simp only [envOf, Nat.zero_add, Nat.reduceAdd]
  repeat' (first | (refine d_AOs (h := ?_) ; first | refine o_move (h := ?_) | refine o_assign (h := ?_) | refine AOs.nil (h := ?_) | (refine d_bin (h := ?_) ; first | refine o_fle (h := ?_) | refine o_fsub (h := ?_)) | refine o_call (hc := (hF _)) (h := ?_)) | (refine d_AW (h := ?_) ; first | refine AW.seq (h := ?_) | refine AW.region (h := ?_) | refine AW.ret (h := ?_)) | (first | refine t_normal ?_) | (refine d_post (h := ?_) ; first | refine p_ret1 rfl (h := ?_)))
  all_goals rfl
/-! ### Drawn numbers -/
section
variable (a : Option Addr) (n cp : Nat) (cd : Nat → Int)
theorem sP6Pick2 (hcd : ∀ q, 0 ≤ cd q ∧ cd q ≤ 255) (hn : n ≤ 1048576) (m : Int) (hm : m ≤ 200) (M : Mem) (hS : SlAt M a n (tab n fun q => .int .u8 (cd q))) :
    Pure Tryz.prog 12 [.slice a n cp, .int .i64 m] M (.int .i64 (pkV n cd (0, 0) m)) := by
  refine pure_of Tryz.func12 Tryz.ntmps12 rfl rfl (by repeat' (first | exact Flat.int _ _)) ?_
  have hp := fun j M' h1 h2 => spick a n cp cd hcd hn (0, 0) m hm j M' (by simp) h1 h2
  simp only [envOf, Nat.zero_add, Nat.reduceAdd]
  repeat' (first | (refine d_AOs (h := ?_) ; first | refine o_move (h := ?_) | refine o_assign (h := ?_) | refine AOs.nil (h := ?_) | refine o_callA (hc := (sfrom a n cp _)) (h := ?_) | refine o_callM (hc := (hp _ _ (by first | (simp only [mem_tail, mem_tail0, List.getElem?_cons_zero, List.getElem?_cons_succ]; first | done | rfl) | exact mem_head (by assumption) | assumption | (simp only [mem_tailS, mem_tailS0, List.getElem?_cons_zero, List.getElem?_cons_succ]; first | done | rfl) | exact mem_set1 (by assumption) | exact mem_set0 (by assumption) | exact mem_setN1 (by assumption) (by assumption) | exact mem_setN (by assumption) (by assumption)) (by first | exact hS | exact hS.append))) (h := ?_)) | (refine d_AW (h := ?_) ; first | refine AW.seq (h := ?_) | refine AW.region (h := ?_) | refine AW.ret (h := ?_)) | (first | refine t_normal ?_) | (refine d_post (h := ?_) ; first | refine p_ret1 rfl (h := ?_)))
  all_goals rfl
def p6F (n : Nat) (cd : Nat → Int) (m q : Nat) : Nat := if q < m then shw (pkV n cd (plS n cd (0, 0) q) 33) else 0
set_option maxHeartbeats 4000000 in
theorem sP6FourM (hcd : ∀ q, 0 ≤ cd q ∧ cd q ≤ 255) (hn : n ≤ 1048576) (m : Nat) (hm : m ≤ 4) (M : Mem) (hS : SlAt M a n (tab n fun q => .int .u8 (cd q))) :
    Pure Tryz.prog 19 [.slice a n cp, .int .i64 (m : Int)] M (foV (p6F n cd m)) := by
  refine pure_of Tryz.func19 Tryz.ntmps19 rfl rfl (by repeat' (first | exact flat_tabL (fun _ => Flat.float _ _) | refine flat_agg ?_)) ?_
  simp only [envOf, Nat.zero_add, Nat.reduceAdd]
  repeat' (first | (refine d_AOs (h := ?_) ; first | refine o_move (h := ?_) | refine o_assign (h := ?_) | refine AOs.nil (h := ?_) | refine o_callA (hc := (sfrom a n cp _)) (h := ?_) | refine o_build (cs := tab 4 fun _ => .float .f32 0) (hf := by rfl) (h := ?_) | refine o_store (h := ?_) | refine o_alloc (h := ?_)) | (refine d_AW (h := ?_) ; first | refine AW.seq (h := ?_) | refine AW.region (h := ?_) | refine AW.block (h := ?_)) | (first | refine t_normal ?_))
  refine AW.loopN [1, 4, 5, 6, 7] (fun k st => ∃ i : Nat, i + k = m ∧ st = ⟨27, [(1, .int .i64 (m : Int)), (4, .pointer (some ⟨M.length, 0, none⟩)), (5, .pointer (some ⟨M.length + 1, 0, none⟩)), (6, .pointer (some ⟨M.length + 2, 0, none⟩)), (7, .int .i64 (i : Int))], M ++ [⟨tab 4 fun _ => .float .f32 0, none, true⟩, srcB a n cp (plS n cd (0, 0) i), ⟨tab 4 fun q => .float .f32 (if q < i then shw (pkV n cd (plS n cd (0, 0) q) 33) else 0), none, true⟩]⟩) m ⟨0, by omega, rfl⟩ ?_
  rintro k st ⟨i, hi, rfl⟩
  have hat5 := plS_at n cd (0, 0) i
  have hat6 : (plS n cd (0, 0) i).1 ≤ i := by simpa using hat5
  by_cases hin : i < m
  · have pa := fun j M' h1 h2 => spick a n cp cd hcd hn (plS n cd (0, 0) i) 33 (by omega) j M' (by omega) h1 h2
    have e1 : pkS n cd (plS n cd (0, 0) i) 33 = plS n cd (0, 0) (i + 1) := rfl
    have e2 := step_tab (N := 4) (i := i) (f := fun q => shw (pkV n cd (plS n cd (0, 0) q) 33)) (v := shw (pkV n cd (plS n cd (0, 0) i) 33)) rfl
    have bw := pkV_bd (n := n) (cd := cd) (plS n cd (0, 0) i) (m := 33) (by omega)
    rw [e1] at pa
    repeat' (first | (refine d_AOs (h := ?_) ; first | refine o_move (h := ?_) | refine o_assign (h := ?_) | refine AOs.nil (h := ?_) | (refine d_bin (h := ?_) ; first | refine o_addS (h := ?_) | refine o_lss (h := ?_) | refine o_fdiv (h := ?_)) | (refine d_grd (h := ?_) ; first | refine g_yes (h := ?_) | (refine g_true (h1 := (fun hg => ?_)) (h0 := (fun hg => ?_)) <;> (try rw [hg]) <;> (try simp only [decide_eq_true_eq, decide_eq_false_iff_not, Int.ofNat_inj, Bool.not_eq_true', Bool.not_eq_false', Int.not_lt, Int.not_le] at hg) <;> (try (exfalso; omega)) <;> (try (exact absurd hg (by decide))))) | refine o_callM (hc := (pa _ _ (by first | (simp only [mem_tail, mem_tail0, List.getElem?_cons_zero, List.getElem?_cons_succ]; first | done | rfl) | exact mem_head (by assumption) | assumption | (simp only [mem_tailS, mem_tailS0, List.getElem?_cons_zero, List.getElem?_cons_succ]; first | done | rfl) | exact mem_set1 (by assumption) | exact mem_set0 (by assumption) | exact mem_setN1 (by assumption) (by assumption) | exact mem_setN (by assumption) (by assumption)) (by first | exact hS | exact hS.append))) (h := ?_) | refine o_at (h := ?_) | refine o_pick (h := ?_) | refine o_store (h := ?_) | refine o_fofInt (h := ?_)) | (refine d_AW (h := ?_) ; first | refine AW.seq (h := ?_) | refine AW.region (h := ?_) | (refine AW.cond (ht := (fun hc => ?_)) (hf := (fun hc => ?_)) <;> (try (with_reducible first | exact absurd hc Bool.false_ne_true | exact absurd hc.symm Bool.false_ne_true)) <;> (try simp only [decide_eq_true_eq, decide_eq_false_iff_not, Int.ofNat_inj, Bool.not_eq_true', Bool.not_eq_false', Int.not_lt, Int.not_le] at hc) <;> (try (exfalso; omega)) <;> (try (exact absurd hc (by decide)))) | refine AW.block (h := ?_) | refine AW.skip (h := ?_)) | (first | refine t_normal ?_ | refine b_normal ?_))
    all_goals first | (exact ⟨k - 1, by omega, i + 1, by omega, by rw [← e2]; rfl⟩) | (exfalso; omega)
  · obtain rfl : i = m := by omega
    repeat' (first | (refine d_AOs (h := ?_) ; first | refine o_move (h := ?_) | refine AOs.nil (h := ?_) | (refine d_bin (h := ?_) ; first | refine o_lss (h := ?_)) | (refine d_grd (h := ?_) ; first | refine g_no (h := ?_) | (refine g_true (h1 := (fun hg => ?_)) (h0 := (fun hg => ?_)) <;> (try rw [hg]) <;> (try simp only [decide_eq_true_eq, decide_eq_false_iff_not, Int.ofNat_inj, Bool.not_eq_true', Bool.not_eq_false', Int.not_lt, Int.not_le] at hg) <;> (try (exfalso; omega)) <;> (try (exact absurd hg (by decide))))) | refine o_load (h := ?_) | refine o_pick (h := ?_) | refine o_store (h := ?_)) | (refine d_AW (h := ?_) ; first | refine AW.seq (h := ?_) | refine AW.region (h := ?_) | (refine AW.cond (ht := (fun hc => ?_)) (hf := (fun hc => ?_)) <;> (try (with_reducible first | exact absurd hc Bool.false_ne_true | exact absurd hc.symm Bool.false_ne_true)) <;> (try simp only [decide_eq_true_eq, decide_eq_false_iff_not, Int.ofNat_inj, Bool.not_eq_true', Bool.not_eq_false', Int.not_lt, Int.not_le] at hc) <;> (try (exfalso; omega)) <;> (try (exact absurd hc (by decide)))) | refine AW.ret (h := ?_) | refine AW.exit (h := ?_)) | (first | refine t_normal ?_ | refine t_exit ?_ | refine b_exit ?_) | (refine d_post (h := ?_) ; first | refine p_cell1 rfl (h := ?_)))
    all_goals first | rfl | (exfalso; omega)
end
end Go.Proofs.YtgdpcomemkimhaaGreatDoor
