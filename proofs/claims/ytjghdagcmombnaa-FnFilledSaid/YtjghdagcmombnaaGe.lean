/- What a junction's ways want: the program's. -/
import Derived.Test.YtjghdagcmombnaaGd
import Derived.Test.YtjghdagcmombnaaHb

namespace Go.Proofs.Ytjghdagcmombnaa
open Go.RowKit
attribute [local irreducible] AW AOs AO AQ AQW thenA inBlockA postA ACalls Pure
set_option linter.unusedSimpArgs false
set_option linter.unusedVariables false
set_option linter.unusedSectionVars false

theorem wn_div {i k : Nat} (hk : k < 4) : (i * 4 + k) / 4 = i := by omega
theorem closed4g {M : Mem} (hM : Closed M.length M) {b1 b2 b3 b4 : Blk} (h1 : ∀ x ∈ b1.cells, Flat x) (h2 : ∀ x ∈ b2.cells, Flat x) (h3 : ∀ x ∈ b3.cells, Flat x) (h4 : ∀ x ∈ b4.cells, Flat x) : Closed (M ++ [b1, b2, b3, b4]).length (M ++ [b1, b2, b3, b4]) := by
  refine Closed.append (hM.mono (by simp)) fun x hx y hy => Bel.flat ?_
  simp only [List.mem_cons, List.not_mem_nil, or_false] at hx
  rcases hx with rfl | rfl | rfl | rfl
  all_goals first | exact h1 y hy | exact h2 y hy | exact h3 y hy | exact h4 y hy
section
variable (n o : Nat) (h s : Nat → Nat)
set_option maxHeartbeats 16000000 in
theorem iwants (M : Mem) : Pure Try.prog 38 [jnV (n : Int) (o : Int) h, foV s] M (flV (wnF s h)) := by
  refine Pure.closed fun hM => ?_
  refine pure_of Try.func38 Try.ntmps38 rfl rfl (by repeat' (first | exact flat_tabL (fun _ => Flat.float _ _) | refine flat_agg ?_ | fail)) ?_
  simp only [envOf, Nat.zero_add, Nat.reduceAdd]
  repeat' (first | (refine d_AOs (h := ?_) ; first | refine o_move (h := ?_) | refine AOs.nil (h := ?_) | refine o_build (cs := tab 16 fun _ => .float .f32 0) (hf := by rfl) (h := ?_) | refine o_load (hv := jn_ldT) (h := ?_) | refine o_field (h := ?_) | refine o_store (h := ?_) | refine o_box (h := ?_) | refine o_alloc (h := ?_)) | (refine d_AW (h := ?_) ; first | refine AW.seq (h := ?_) | refine AW.region (h := ?_) | refine AW.block (h := ?_)) | (first | refine t_normal ?_) | fail)
  refine AW.loopG [3, 4, 5, 12, 13] (fun k st => ∃ i : Nat, i + k = 4 ∧ st = ⟨34, [(3, .pointer (some ⟨M.length + 1, 0, none⟩)), (4, .pointer (some ⟨M.length + 2, 0, none⟩)), (5, .pointer (some ⟨M.length + 3, 0, none⟩)), (12, .agg (tab 16 fun q => Value.float .f32 (h (2 + q))).toArray), (13, .int .i64 (i : Int))], M ++ [jnB (n : Int) (o : Int) h, ⟨tab 4 fun q => .float .f32 (s q), none, true⟩, ⟨tab 16 fun _ => .float .f32 0, none, true⟩, ⟨tab 16 fun q => .float .f32 (if q < i * 4 then wnF s h q else 0), none, true⟩]⟩) 4 ⟨0, by omega, rfl⟩ ?_
  rintro k st ⟨i, hi, rfl⟩
  by_cases hin : i < 4
  · have hld := jn_ldR (h := h) hin
    repeat' (first | (refine d_AOs (h := ?_) ; first | refine o_move (h := ?_) | refine o_assign (h := ?_) | refine AOs.nil (h := ?_) | (refine d_bin (h := ?_) ; first | refine o_lss (h := ?_)) | refine o_ix (hv := hld) (h := ?_) | refine o_load (h := ?_) | refine o_store (h := ?_) | refine o_alloc (h := ?_)) | (refine d_AW (h := ?_) ; first | refine AW.seq (h := ?_) | refine AW.region (h := ?_) | (refine AW.cond (ht := (fun hc => ?_)) (hf := (fun hc => ?_)) <;> (try (with_reducible first | exact absurd hc Bool.false_ne_true | exact absurd hc.symm Bool.false_ne_true)) <;> (try simp only [decide_eq_true_eq, decide_eq_false_iff_not, Int.ofNat_inj, Bool.not_eq_true', Bool.not_eq_false', Int.not_lt, Int.not_le] at hc) <;> (try (exfalso; omega)) <;> (try (exact absurd hc (by decide)))) | refine AW.block (h := ?_) | refine AW.skip (h := ?_)) | (first | refine t_normal ?_) | fail)
    refine AW.loopN [3, 4, 5, 6, 12, 13, 17, 18] (fun k st => ∃ q : Nat, q + k = 4 ∧ st = ⟨34, [(3, .pointer (some ⟨M.length + 1, 0, none⟩)), (4, .pointer (some ⟨M.length + 2, 0, none⟩)), (5, .pointer (some ⟨M.length + 3, 0, none⟩)), (6, .int .i64 (i : Int)), (12, .agg (tab 16 fun q => Value.float .f32 (h (2 + q))).toArray), (13, .int .i64 (i : Int)), (17, .agg (tab 4 fun q => .float .f32 (jA h i q)).toArray), (18, .int .i64 (q : Int))], M ++ [jnB (n : Int) (o : Int) h, ⟨tab 4 fun q => .float .f32 (s q), none, true⟩, ⟨tab 16 fun _ => .float .f32 0, none, true⟩, ⟨tab 16 fun p => .float .f32 (if p < i * 4 + q then wnF s h p else 0), none, true⟩, ⟨tab 4 fun q => .float .f32 (jA h i q), none, true⟩]⟩) 4 ⟨0, by omega, rfl⟩ ?_
    rintro k2 st ⟨q, hqk, rfl⟩
    by_cases hqn : q < 4
    · have hst := step_tab (N := 16) (i := i * 4 + q) (f := wnF s h) (v := fmul .f32 (s i) (jA h i q)) (by unfold wnF jA; rw [wn_div hqn])
      have hld2 : ldA .one q (tab 4 fun q => Value.float .f32 (jA h i q)) = some (.float .f32 (jA h i q)) := ld_tab hqn rfl
      repeat' (first | (refine d_AOs (h := ?_) ; first | refine o_move (h := ?_) | refine o_assign (h := ?_) | refine AOs.nil (h := ?_) | (refine d_bin (h := ?_) ; first | refine o_addS (h := ?_) | refine o_lss (h := ?_)) | refine o_ix (hq := by simp) (hv := hld2) (h := ?_)) | (refine d_AW (h := ?_) ; first | refine AW.seq (h := ?_) | refine AW.region (h := ?_) | refine AW.openW1M (M ++ [jnB (n : Int) (o : Int) h, ⟨tab 4 fun q => .float .f32 (s q), none, true⟩, ⟨tab 16 fun _ => .float .f32 0, none, true⟩, ⟨tab 16 fun p => .float .f32 (if p < i * 4 + q then wnF s h p else 0), none, true⟩, ⟨tab 4 fun q => .float .f32 (jA h i q), none, true⟩]) 9 (M ++ [jnB (n : Int) (o : Int) h, ⟨tab 4 fun q => .float .f32 (s q), none, true⟩, ⟨tab 16 fun _ => .float .f32 0, none, true⟩, ⟨tab 16 (fun p => if p = i * 4 + q then Value.float .f32 (fmul .f32 (s i) (jA h i q)) else (fun p => .float .f32 (if p < i * 4 + q then wnF s h p else 0)) p), none, true⟩, ⟨tab 4 fun q => .float .f32 (jA h i q), none, true⟩]) (h := ?_) | (refine AW.cond (ht := (fun hc => ?_)) (hf := (fun hc => ?_)) <;> (try (with_reducible first | exact absurd hc Bool.false_ne_true | exact absurd hc.symm Bool.false_ne_true)) <;> (try simp only [decide_eq_true_eq, decide_eq_false_iff_not, Int.ofNat_inj, Bool.not_eq_true', Bool.not_eq_false', Int.not_lt, Int.not_le] at hc) <;> (try (exfalso; omega)) <;> (try (exact absurd hc (by decide)))) | refine AW.block (h := ?_) | refine AW.skip (h := ?_)) | (first | refine t_normal ?_ | refine b_normal ?_) | (refine d_W (h := ?_) ; first | refine w1_nil (h := ?_) | refine w1_stepN (h2 := ?_) | refine w1_step (h2 := ?_)) | fail)
      all_goals exact ⟨k2 - 1, by omega, q + 1, by omega, by rw [← Nat.add_assoc, ← hst]; rfl⟩
    · obtain rfl : q = 4 := by omega
      repeat' (first | (refine d_AOs (h := ?_) ; first | refine o_move (h := ?_) | refine AOs.nil (h := ?_) | (refine d_bin (h := ?_) ; first | refine o_addS (h := ?_) | refine o_lss (h := ?_))) | (refine d_AW (h := ?_) ; first | refine AW.seq (h := ?_) | refine AW.region (h := ?_) | (refine AW.cond (ht := (fun hc => ?_)) (hf := (fun hc => ?_)) <;> (try (with_reducible first | exact absurd hc Bool.false_ne_true | exact absurd hc.symm Bool.false_ne_true)) <;> (try simp only [decide_eq_true_eq, decide_eq_false_iff_not, Int.ofNat_inj, Bool.not_eq_true', Bool.not_eq_false', Int.not_lt, Int.not_le] at hc) <;> (try (exfalso; omega)) <;> (try (exact absurd hc (by decide)))) | refine AW.exit (h := ?_)) | (first | refine t_normal ?_ | refine t_exit ?_ | refine b_normal ?_ | refine b_exit ?_) | fail)
      all_goals exact ⟨k - 1, M ++ [jnB (n : Int) (o : Int) h, ⟨tab 4 fun q => .float .f32 (s q), none, true⟩, ⟨tab 16 fun _ => .float .f32 0, none, true⟩, ⟨tab 16 fun p => .float .f32 (if p < i * 4 + 4 then wnF s h p else 0), none, true⟩], [⟨tab 4 fun q => .float .f32 (jA h i q), none, true⟩], by omega, next_TT (T := [jnB (n : Int) (o : Int) h, ⟨tab 4 fun q => .float .f32 (s q), none, true⟩, ⟨tab 16 fun _ => .float .f32 0, none, true⟩, ⟨tab 16 fun p => .float .f32 (if p < i * 4 + 4 then wnF s h p else 0), none, true⟩]) (G := [⟨tab 4 fun q => .float .f32 (jA h i q), none, true⟩]) rfl, by simp, closed4g hM jn_flat (by repeat' (first | exact flat_tabL (fun _ => Flat.float _ _) | fail)) (by repeat' (first | exact flat_tabL (fun _ => Flat.float _ _) | fail)) (by repeat' (first | exact flat_tabL (fun _ => Flat.float _ _) | fail)), ⟨Bel.ptr (by simp), Bel.ptr (by simp), Bel.ptr (by simp), Bel.flat (by repeat' (first | exact flat_tabL (fun _ => Flat.float _ _) | refine flat_agg ?_ | fail)), Bel.flat (Flat.int _ _), trivial⟩, i + 1, by omega, by rw [Nat.add_mul, Nat.one_mul]; rfl⟩
  · obtain rfl : i = 4 := by omega
    have e16 : (tab 16 fun q => Value.float .f32 (if q < 4 * 4 then wnF s h q else 0)) = tab 16 fun q => .float .f32 (wnF s h q) := full_tab
    rw [e16]
    repeat' (first | (refine d_AOs (h := ?_) ; first | refine AOs.nil (h := ?_) | (refine d_bin (h := ?_) ; first | refine o_lss (h := ?_)) | refine o_load (h := ?_) | refine o_store (h := ?_)) | (refine d_AW (h := ?_) ; first | refine AW.seq (h := ?_) | refine AW.region (h := ?_) | (refine AW.cond (ht := (fun hc => ?_)) (hf := (fun hc => ?_)) <;> (try (with_reducible first | exact absurd hc Bool.false_ne_true | exact absurd hc.symm Bool.false_ne_true)) <;> (try simp only [decide_eq_true_eq, decide_eq_false_iff_not, Int.ofNat_inj, Bool.not_eq_true', Bool.not_eq_false', Int.not_lt, Int.not_le] at hc) <;> (try (exfalso; omega)) <;> (try (exact absurd hc (by decide)))) | refine AW.ret (h := ?_) | refine AW.exit (h := ?_)) | (first | refine t_normal ?_ | refine t_exit ?_ | refine b_exit ?_) | (refine d_post (h := ?_) ; first | refine p_cell1 rfl (h := ?_)) | fail)
    all_goals rfl
end
theorem ifl1 (d : Nat → Nat) (M : Mem) (hd : ∀ q, q < 4 → fin32 (d q) = true) : Pure Try.prog 60 [foV d] M (.bool false) := by
  refine pure_of Try.func60 Try.ntmps60 rfl rfl (by repeat' (first | exact Flat.bool _ | fail)) ?_
  have hA := fun M' j h => jareFinite d j true M' hd h
  simp only [envOf, Nat.zero_add, Nat.reduceAdd]
  repeat' (first | (refine d_AOs (h := ?_) ; first | refine o_assign (h := ?_) | refine AOs.nil (h := ?_) | refine o_slArr (h := ?_) | refine o_call (hc := (hA _ _ (by first | (simp only [mem_tail, mem_tail0, List.getElem?_cons_zero, List.getElem?_cons_succ]; first | done | rfl) | exact mem_head (by assumption) | assumption | (simp only [mem_tailS, mem_tailS0, List.getElem?_cons_zero, List.getElem?_cons_succ]; first | done | rfl) | exact mem_set1 (by assumption) | exact mem_set0 (by assumption) | exact mem_setN1 (by assumption) (by assumption) | exact mem_setN (by assumption) (by assumption)))) (h := ?_) | refine o_not (h := ?_) | refine o_box (h := ?_)) | (refine d_AW (h := ?_) ; first | refine AW.seq (h := ?_) | refine AW.region (h := ?_) | refine AW.ret (h := ?_)) | (first | refine t_normal ?_) | (refine d_post (h := ?_) ; first | refine p_ret1 rfl (h := ?_)) | fail)
  all_goals rfl
set_option maxHeartbeats 4000000 in
theorem iIx4 (g : Nat → Nat) (j : Nat) (rw' : Bool) (M : Mem) (hd : ∀ q, q < 16 → fin32 (g q) = true) (hb : M[j]? = some ⟨tab 16 fun q => .float .f32 (g q), none, rw'⟩) : Pure Try.prog 72 [.slice (some ⟨j, 0, none⟩) 4 4, .func (.func 60) #[] #[]] M (.int .i64 (-1)) := by
  refine pure_of Try.func72 Try.ntmps72 rfl rfl (by repeat' (first | exact Flat.int _ _ | fail)) ?_
  simp only [envOf, Nat.zero_add, Nat.reduceAdd]
  repeat' (first | (refine d_AOs (h := ?_) ; first | refine o_move (h := ?_) | refine o_assign (h := ?_) | refine AOs.nil (h := ?_) | refine o_len (h := ?_)) | (refine d_AW (h := ?_) ; first | refine AW.seq (h := ?_) | refine AW.region (h := ?_) | refine AW.block (h := ?_)) | (first | refine t_normal ?_) | fail)
  refine AW.loopN [0, 1, 7, 8] (fun k s => ∃ (i : Nat), i + k = 4 ∧ s = ⟨19, [(0, .slice (some ⟨j, 0, none⟩) 4 4), (1, .func (.func 60) #[] #[]), (7, .int .i64 4), (8, .int .i64 (i : Int))], M⟩) 4 ⟨0, by omega, rfl⟩ ?_
  rintro k s ⟨i, hi, rfl⟩
  by_cases hin : i < 4
  · have hld : ldA (.agg 4) (i * 4) (tab 16 fun q => Value.float .f32 (g q)) = some (.agg (tab 4 fun q => .float .f32 (g (i * 4 + q))).toArray) := ld_part (by omega)
    have hF := fun M' => ifl1 (fun q => g (i * 4 + q)) M' fun q hq => hd _ (by omega)
    repeat' (first | (refine d_AOs (h := ?_) ; first | refine o_move (h := ?_) | refine o_assign (h := ?_) | refine AOs.nil (h := ?_) | (refine d_bin (h := ?_) ; first | refine o_addS (h := ?_) | refine o_lss (h := ?_)) | refine o_load (hv := hld) (h := ?_) | refine o_callVP (hc := (hF _)) (h := ?_) | refine o_ixS (h := ?_)) | (refine d_AW (h := ?_) ; first | refine AW.seq (h := ?_) | refine AW.region (h := ?_) | (refine AW.cond (ht := (fun hc => ?_)) (hf := (fun hc => ?_)) <;> (try (with_reducible first | exact absurd hc Bool.false_ne_true | exact absurd hc.symm Bool.false_ne_true)) <;> (try simp only [decide_eq_true_eq, decide_eq_false_iff_not, Int.ofNat_inj, Bool.not_eq_true', Bool.not_eq_false', Int.not_lt, Int.not_le] at hc) <;> (try (exfalso; omega)) <;> (try (exact absurd hc (by decide)))) | refine AW.block (h := ?_) | refine AW.skip (h := ?_)) | (first | refine t_normal ?_ | refine b_normal ?_) | fail)
    all_goals first | exact ⟨k - 1, by omega, i + 1, by omega, rfl⟩ | (exfalso; simp at hc; done)
  · repeat' (first | (refine d_AOs (h := ?_) ; first | refine o_assign (h := ?_) | refine AOs.nil (h := ?_) | (refine d_bin (h := ?_) ; first | refine o_lss (h := ?_))) | (refine d_AW (h := ?_) ; first | refine AW.seq (h := ?_) | refine AW.region (h := ?_) | (refine AW.cond (ht := (fun hc => ?_)) (hf := (fun hc => ?_)) <;> (try (with_reducible first | exact absurd hc Bool.false_ne_true | exact absurd hc.symm Bool.false_ne_true)) <;> (try simp only [decide_eq_true_eq, decide_eq_false_iff_not, Int.ofNat_inj, Bool.not_eq_true', Bool.not_eq_false', Int.not_lt, Int.not_le] at hc) <;> (try (exfalso; omega)) <;> (try (exact absurd hc (by decide)))) | refine AW.ret (h := ?_) | refine AW.exit (h := ?_)) | (first | refine t_normal ?_ | refine t_exit ?_ | refine b_exit ?_) | (refine d_post (h := ?_) ; first | refine p_ret1 rfl (h := ?_)) | fail)
    all_goals rfl
theorem iCn4 (g : Nat → Nat) (j : Nat) (rw' : Bool) (M : Mem) (hd : ∀ q, q < 16 → fin32 (g q) = true) (hb : M[j]? = some ⟨tab 16 fun q => .float .f32 (g q), none, rw'⟩) : Pure Try.prog 59 [.slice (some ⟨j, 0, none⟩) 4 4, .func (.func 60) #[] #[]] M (.bool false) := by
  refine pure_of Try.func59 Try.ntmps59 rfl rfl (by repeat' (first | exact Flat.bool _ | fail)) ?_
  simp only [envOf, Nat.zero_add, Nat.reduceAdd]
  repeat' (first | (refine d_AOs (h := ?_) ; first | refine o_move (h := ?_) | refine o_assign (h := ?_) | refine AOs.nil (h := ?_) | (refine d_bin (h := ?_) ; first | refine o_geq (h := ?_)) | refine o_call (hc := (iIx4 g j rw' _ hd hb)) (h := ?_)) | (refine d_AW (h := ?_) ; first | refine AW.seq (h := ?_) | refine AW.region (h := ?_) | refine AW.ret (h := ?_)) | (first | refine t_normal ?_) | (refine d_post (h := ?_) ; first | refine p_ret1 rfl (h := ?_)) | fail)
  all_goals rfl
theorem iflowsFinite (g : Nat → Nat) (M : Mem) (hd : ∀ q, q < 16 → fin32 (g q) = true) : Pure Try.prog 39 [flV g] M (.bool true) := by
  refine pure_of Try.func39 Try.ntmps39 rfl rfl (by repeat' (first | exact Flat.bool _ | fail)) ?_
  simp only [envOf, Nat.zero_add, Nat.reduceAdd]
  repeat' (first | (refine d_AOs (h := ?_) ; first | refine o_assign (h := ?_) | refine AOs.nil (h := ?_) | refine o_slArr (h := ?_) | refine o_call (hc := (iCn4 g _ true _ hd (by first | (simp only [mem_tail, mem_tail0, List.getElem?_cons_zero, List.getElem?_cons_succ]; first | done | rfl) | exact mem_head (by assumption) | assumption | (simp only [mem_tailS, mem_tailS0, List.getElem?_cons_zero, List.getElem?_cons_succ]; first | done | rfl) | exact mem_set1 (by assumption) | exact mem_set0 (by assumption) | exact mem_setN1 (by assumption) (by assumption) | exact mem_setN (by assumption) (by assumption)))) (h := ?_) | refine o_not (h := ?_) | refine o_box (h := ?_)) | (refine d_AW (h := ?_) ; first | refine AW.seq (h := ?_) | refine AW.region (h := ?_) | refine AW.ret (h := ?_)) | (first | refine t_normal ?_) | (refine d_post (h := ?_) ; first | refine p_ret1 rfl (h := ?_)) | fail)
  all_goals rfl
/-- Amounts that fit the ways in. -/
structure SnOk (n : Nat) (s : Nat → Nat) : Prop where
  am : ∀ q, q < 4 → isAm (s q) = true
  zero : ∀ q, n ≤ q → q < 4 → feq .f32 (s q) 0 = true
section
variable {n o : Nat} {h s : Nat → Nat} (hP : jnP (n : Int) (o : Int) h) (hn : 1 ≤ n ∧ n ≤ 4) (ho : 1 ≤ o ∧ o ≤ 4) (hs : SnOk n s)
include hP hn ho hs
variable (hf : ∀ q, q < 16 → fin32 (wnF s h q) = true)
include hf
variable (hfc : ∀ k, k < 4 → fin32 (clF (wnF s h) k) = true)
include hfc
end
end Go.Proofs.Ytjghdagcmombnaa
