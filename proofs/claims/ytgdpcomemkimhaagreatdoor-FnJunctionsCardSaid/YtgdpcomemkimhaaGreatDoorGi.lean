/- A turn of a junction is set: sums of the others; the reference's way. -/
import Derived.Test.YtgdpcomemkimhaaGreatDoorGh


namespace Go.Proofs.YtgdpcomemkimhaaGreatDoor
open Go.RowKit
attribute [local irreducible] AW AOs AO AQ AQW thenA inBlockA postA ACalls Pure
set_option linter.unusedSimpArgs false
set_option linter.unusedVariables false
set_option linter.unusedSectionVars false

/-! ### Plain -/
/-- The other turns of a way in, without the one at e. -/
def otF (h : Nat → Nat) (i e q : Nat) : Nat := if q < e then jA h i q else jA h i (q + 1)
def zS (g : Nat → Nat) : Nat → Nat
  | 0 => 0
  | m + 1 => fadd .f32 (zS g m) (g m)
def otN (e k : Nat) : Nat := if k ≤ e then k else k - 1
theorem otN_eq {e k : Nat} (h : k = e) : otN e (k + 1) = otN e k := by unfold otN; subst h; rw [if_neg (by omega), if_pos (Nat.le_refl _)]; omega
theorem otN_ne {h : Nat → Nat} {i e k : Nat} (hk : k ≠ e) : otN e (k + 1) = otN e k + 1 ∧ otF h i e (otN e k) = jA h i k := by
  unfold otN otF
  by_cases hl : k < e
  · rw [if_pos (by omega), if_pos (by omega), if_pos hl]; exact ⟨rfl, rfl⟩
  · rw [if_neg (by omega), if_neg (by omega), if_neg (by omega)]
    exact ⟨by omega, by rw [show k - 1 + 1 = k by omega]⟩
theorem zS_jSum {g : Nat → Nat} (h0 : fadd .f32 0 (g 0) = g 0) : ∀ m, zS g (m + 1) = jSum g m
  | 0 => h0
  | m + 1 => by
    show fadd .f32 (zS g (m + 1)) (g (m + 1)) = fadd .f32 (jSum g m) (g (m + 1))
    rw [zS_jSum h0 m]
/-- The turns that are set. -/
def tvF (o : Nat) (h : Nat → Nat) (i e x k : Nat) : Nat := if k = e then x else if feq .f32 (zS (otF h i e) (o - 1)) 0 = true then fdiv .f32 (fsub .f32 1065353216 x) (fofInt .f32 ((o : Int) - 1)) else fmul .f32 (jA h i k) (fdiv .f32 (fsub .f32 1065353216 x) (zS (otF h i e) (o - 1)))
def stH (o : Nat) (h : Nat → Nat) (i e x k q : Nat) : Nat := if 2 + i * 4 ≤ q ∧ q < 2 + i * 4 + k then tvF o h i e x (q - (2 + i * 4)) else h q
theorem stH_0 {o : Nat} {h : Nat → Nat} {i e x : Nat} : stH o h i e x 0 = h := by
  funext q; unfold stH; rw [if_neg (by omega)]
theorem stH_cell {o : Nat} {h : Nat → Nat} {i e x k : Nat} : stH o h i e x k (2 + i * 4 + k) = jA h i k := by
  unfold stH jA; rw [if_neg (by omega), Nat.add_assoc]
theorem stH_step {o : Nat} {h : Nat → Nat} {i e x k v : Nat} (hv : v = tvF o h i e x k) : (fun q => if q = 2 + i * 4 + k then v else stH o h i e x k q) = stH o h i e x (k + 1) := by
  funext q
  unfold stH
  by_cases hq : q = 2 + i * 4 + k
  · rw [if_pos hq, if_pos (by omega), hv, show q - (2 + i * 4) = k by omega]
  · rw [if_neg hq]
    by_cases h1 : 2 + i * 4 ≤ q ∧ q < 2 + i * 4 + k
    · rw [if_pos h1, if_pos (by omega)]
    · rw [if_neg h1, if_neg (by omega)]
theorem tv_1 {o : Nat} {h : Nat → Nat} {i e x k : Nat} (hk : k = e) : x = tvF o h i e x k := by unfold tvF; rw [if_pos hk]
theorem tv_2 {o : Nat} {h : Nat → Nat} {i e x k : Nat} (hk : k ≠ e) (hz : feq .f32 (zS (otF h i e) (o - 1)) 0 = true) : fdiv .f32 (fsub .f32 1065353216 x) (fofInt .f32 ((o : Int) - 1)) = tvF o h i e x k := by unfold tvF; rw [if_neg hk, if_pos hz]
theorem tv_3 {o : Nat} {h : Nat → Nat} {i e x k : Nat} (hk : k ≠ e) (hz : feq .f32 (zS (otF h i e) (o - 1)) 0 = false) : fmul .f32 (jA h i k) (fdiv .f32 (fsub .f32 1065353216 x) (zS (otF h i e) (o - 1))) = tvF o h i e x k := by unfold tvF; rw [if_neg hk, if_neg (by rw [hz]; simp)]
def stV (n o : Nat) (h : Nat → Nat) : Value := if jnP (n : Int) (o : Int) h then .tuple [jnV (n : Int) (o : Int) h, .int .i64 0].toArray else .tuple [jnV 0 0 (fun _ => 0), .int .i64 4].toArray
theorem st_flat {a b c : Int} {h : Nat → Nat} : Flat (.tuple [jnV a b h, .int .i64 c].toArray) := flat_tuple (flat_cons (flat_agg jn_flat) (flat_cons (Flat.int _ _) flat_nil))
theorem stV_flat {n o : Nat} {h : Nat → Nat} : Flat (stV n o h) := by unfold stV; split <;> exact st_flat
/-! ### The reference's -/
section
variable {n o : Nat} {h : Nat → Nat} (hP : jnP (n : Int) (o : Int) h) (hn : 1 ≤ n ∧ n ≤ 4) (ho : 1 ≤ o ∧ o ≤ 4) {i e x : Nat} (hi : i < n) (he : e < o) (hx : isSh x = true)
include hP hn ho hi he hx
set_option maxHeartbeats 16000000 in
theorem sSetTurnA (h1 : o = 1) (hx1 : feq .f32 x 1065353216 = false) (M : Mem) : Pure Tryz.prog 14 [jnV (n : Int) (o : Int) h, .int .i64 (i : Int), .int .i64 (e : Int), .float .f32 x] M (.tuple [jnV 0 0 (fun _ => 0), .int .i64 2].toArray) := by
  refine pure_of Tryz.func14 Tryz.ntmps14 rfl rfl st_flat ?_
  have hK := fun M' j h' => sl03Ok (n : Int) (o : Int) h j true M' h'
  rw [decide_eq_true hP] at hK
  have hR := fun M' => sl00In (i : Int) 0 ((n : Int) - 1) M'
  rw [decide_eq_true (show 0 ≤ (i : Int) ∧ (i : Int) ≤ (n : Int) - 1 by omega)] at hR
  have hR2 := fun M' => sl00In (e : Int) 0 ((o : Int) - 1) M'
  rw [decide_eq_true (show 0 ≤ (e : Int) ∧ (e : Int) ≤ (o : Int) - 1 by omega)] at hR2
  have hX := fun M' => sl01Share x M'
  rw [hx] at hX
  simp only [envOf, Nat.zero_add, Nat.reduceAdd]
  repeat' (first | (refine d_AOs (h := ?_) ; first | refine o_move (h := ?_) | refine o_assign (h := ?_) | refine AOs.nil (h := ?_) | (refine d_bin (h := ?_) ; first | refine o_eqi (h := ?_) | refine o_subS (h := ?_) | refine o_fne (h := ?_)) | (refine d_grd (h := ?_) ; first | refine g_yes (h := ?_) | (refine g_true (h1 := (fun hg => ?_)) (h0 := (fun hg => ?_)) <;> (try rw [hg]) <;> (try simp only [decide_eq_true_eq, decide_eq_false_iff_not, Int.ofNat_inj, Bool.not_eq_true', Bool.not_eq_false', Int.not_lt, Int.not_le] at hg) <;> (try (exfalso; omega)) <;> (try (exact absurd hg (by decide))))) | refine o_load (hv := jn_ld0) (h := ?_) | refine o_load (hv := jn_ld1) (h := ?_) | refine o_call (hc := (hK _ _ (by first | (simp only [mem_tail, mem_tail0, List.getElem?_cons_zero, List.getElem?_cons_succ]; first | done | rfl) | exact mem_head (by assumption) | assumption | (simp only [mem_tailS, mem_tailS0, List.getElem?_cons_zero, List.getElem?_cons_succ]; first | done | rfl) | exact mem_set1 (by assumption) | exact mem_set0 (by assumption) | exact mem_setN1 (by assumption) (by assumption) | exact mem_setN (by assumption) (by assumption)))) (h := ?_) | refine o_call (hc := (hR _)) (h := ?_) | refine o_call (hc := (hR2 _)) (h := ?_) | refine o_call (hc := (hX _)) (h := ?_) | refine o_build (cs := tab 22 (jnJ 0 0 fun _ => 0)) (hf := by rfl) (h := ?_) | refine o_store (hw := by exact whole_tab (fun i => jn_one i)) (hcs := by exact st_all (by rfl)) (h := ?_) | refine o_field (h := ?_) | refine o_pick (h := ?_) | refine o_not (h := ?_) | refine o_box (h := ?_) | refine o_alloc (h := ?_)) | (refine d_AW (h := ?_) ; first | refine AW.seq (h := ?_) | refine AW.region (h := ?_) | (refine AW.cond (ht := (fun hc => ?_)) (hf := (fun hc => ?_)) <;> (try (with_reducible first | exact absurd hc Bool.false_ne_true | exact absurd hc.symm Bool.false_ne_true)) <;> (try simp only [decide_eq_true_eq, decide_eq_false_iff_not, Int.ofNat_inj, Bool.not_eq_true', Bool.not_eq_false', Int.not_lt, Int.not_le] at hc) <;> (try (exfalso; omega)) <;> (try (exact absurd hc (by decide)))) | refine AW.block (h := ?_) | refine AW.ret (h := ?_) | refine AW.skip (h := ?_)) | (first | refine t_normal ?_ | refine t_ret ?_) | (refine d_post (h := ?_) ; first | refine p_ret2 rfl (h := ?_)))
  all_goals first | rfl | (exfalso; simp at hc; done) | (exfalso; omega) | (exfalso; simp_all; done)
set_option maxHeartbeats 16000000 in
theorem sSetTurnB (hB : o ≠ 1 ∨ feq .f32 x 1065353216 = true) (M : Mem) : Pure Tryz.prog 14 [jnV (n : Int) (o : Int) h, .int .i64 (i : Int), .int .i64 (e : Int), .float .f32 x] M (stV n o (stH o h i e x o)) := by
  refine pure_of Tryz.func14 Tryz.ntmps14 rfl rfl stV_flat ?_
  have hK := fun M' j h' => sl03Ok (n : Int) (o : Int) h j true M' h'
  rw [decide_eq_true hP] at hK
  have hR := fun M' => sl00In (i : Int) 0 ((n : Int) - 1) M'
  rw [decide_eq_true (show 0 ≤ (i : Int) ∧ (i : Int) ≤ (n : Int) - 1 by omega)] at hR
  have hR2 := fun M' => sl00In (e : Int) 0 ((o : Int) - 1) M'
  rw [decide_eq_true (show 0 ≤ (e : Int) ∧ (e : Int) ≤ (o : Int) - 1 by omega)] at hR2
  have hX := fun M' => sl01Share x M'
  rw [hx] at hX
  have hB2 : ¬ ((o : Int) = 1 ∧ feq .f32 x 1065353216 = false) := fun hc => by
    rcases hB with h | h
    · omega
    · rw [hc.2] at h; cases h
  simp only [envOf, Nat.zero_add, Nat.reduceAdd]
  repeat' (first | (refine d_AOs (h := ?_) ; first | refine o_move (h := ?_) | refine o_assign (h := ?_) | refine AOs.nil (h := ?_) | (refine d_bin (h := ?_) ; first | refine o_eqi (h := ?_) | refine o_subS (h := ?_) | refine o_fne (h := ?_)) | (refine d_grd (h := ?_) ; first | refine g_yes (h := ?_) | refine g_no (h := ?_) | (refine g_true (h1 := (fun hg => ?_)) (h0 := (fun hg => ?_)) <;> (try rw [hg]) <;> (try simp only [decide_eq_true_eq, decide_eq_false_iff_not, Int.ofNat_inj, Bool.not_eq_true', Bool.not_eq_false', Int.not_lt, Int.not_le] at hg) <;> (try (exfalso; omega)) <;> (try (exact absurd hg (by decide))))) | refine o_load (hv := jn_ld0) (h := ?_) | refine o_load (hv := jn_ld1) (h := ?_) | refine o_call (hc := (hK _ _ (by first | (simp only [mem_tail, mem_tail0, List.getElem?_cons_zero, List.getElem?_cons_succ]; first | done | rfl) | exact mem_head (by assumption) | assumption | (simp only [mem_tailS, mem_tailS0, List.getElem?_cons_zero, List.getElem?_cons_succ]; first | done | rfl) | exact mem_set1 (by assumption) | exact mem_set0 (by assumption) | exact mem_setN1 (by assumption) (by assumption) | exact mem_setN (by assumption) (by assumption)))) (h := ?_) | refine o_call (hc := (hR _)) (h := ?_) | refine o_call (hc := (hR2 _)) (h := ?_) | refine o_call (hc := (hX _)) (h := ?_) | refine o_build (cs := tab 22 (jnJ 0 0 fun _ => 0)) (hf := by rfl) (h := ?_) | refine o_store (hw := by exact whole_tab (fun i => jn_one i)) (hcs := by exact st_all (by rfl)) (h := ?_) | refine o_field (h := ?_) | refine o_pick (h := ?_) | refine o_not (h := ?_) | refine o_box (h := ?_) | refine o_alloc (h := ?_)) | (refine d_AW (h := ?_) ; first | refine AW.seq (h := ?_) | refine AW.region (h := ?_) | (refine AW.cond (ht := (fun hc => ?_)) (hf := (fun hc => ?_)) <;> (try (with_reducible first | exact absurd hc Bool.false_ne_true | exact absurd hc.symm Bool.false_ne_true)) <;> (try simp only [decide_eq_true_eq, decide_eq_false_iff_not, Int.ofNat_inj, Bool.not_eq_true', Bool.not_eq_false', Int.not_lt, Int.not_le] at hc) <;> (try (exfalso; omega)) <;> (try (exact absurd hc (by decide)))) | refine AW.block (h := ?_) | refine AW.ret (h := ?_) | refine AW.skip (h := ?_)) | (first | refine t_normal ?_ | refine t_ret ?_) | (refine d_post (h := ?_) ; first | refine p_ret2 rfl (h := ?_)))
  all_goals try (exfalso; exact hB2 ⟨hg, hc⟩)
  all_goals (
    obtain ⟨J0, hJ0⟩ : ∃ J0, J0 = tab 22 (jnJ (n : Int) (o : Int) h) := ⟨_, rfl⟩
    have l1 : ldA .one 1 J0 = some (.int .i64 (o : Int)) := by rw [hJ0]; exact jn_ld1
    have lA : ∀ k, k < 4 → ldA .one (2 + i * 4 + k) J0 = some (.float .f32 (jA h i k)) := fun k hk => by rw [hJ0]; exact jn_ldA (by omega) hk
    refine AW.loopN [1, 2, 3, 4, 8, 10, 11] (fun kk st => ∃ k : Nat, k + kk = o ∧ st = ⟨113, [(1, .int .i64 (i : Int)), (2, .int .i64 (e : Int)), (3, .float .f32 x), (4, .pointer (some ⟨M.length, 0, none⟩)), (8, .pointer (some ⟨M.length + 1, 0, none⟩)), (10, .float .f32 (zS (otF h i e) (otN e k))), (11, .int .i64 (k : Int))], M ++ [⟨J0, none, true⟩, jnB 0 0 fun _ => 0]⟩) o ⟨0, by omega, by rw [hJ0]; rfl⟩ ?_
    rintro kk st ⟨k, hk, rfl⟩
    by_cases hko : k < o
    · by_cases hke : k = e
      · have en := otN_eq hke
        clear hJ0 lA
        repeat' (first | (refine d_AOs (h := ?_) ; first | refine o_move (h := ?_) | refine o_assign (h := ?_) | refine AOs.nil (h := ?_) | (refine d_bin (h := ?_) ; first | refine o_addS (h := ?_) | refine o_lss (h := ?_) | refine o_nei (h := ?_)) | refine o_load (hv := l1) (h := ?_) | refine o_field (h := ?_)) | (refine d_AW (h := ?_) ; first | refine AW.seq (h := ?_) | refine AW.region (h := ?_) | (refine AW.cond (ht := (fun hc => ?_)) (hf := (fun hc => ?_)) <;> (try (with_reducible first | exact absurd hc Bool.false_ne_true | exact absurd hc.symm Bool.false_ne_true)) <;> (try simp only [decide_eq_true_eq, decide_eq_false_iff_not, Int.ofNat_inj, Bool.not_eq_true', Bool.not_eq_false', Int.not_lt, Int.not_le] at hc) <;> (try (exfalso; omega)) <;> (try (exact absurd hc (by decide)))) | refine AW.block (h := ?_) | refine AW.skip (h := ?_)) | (first | refine t_normal ?_ | refine b_normal ?_))
        all_goals first | exact ⟨kk - 1, by omega, k + 1, by omega, by rw [en]; rfl⟩ | (exfalso; omega)
      · have hld := lA k (by omega)
        obtain ⟨en, ev⟩ := otN_ne (h := h) (i := i) hke
        have ez : fadd .f32 (zS (otF h i e) (otN e k)) (jA h i k) = zS (otF h i e) (otN e (k + 1)) := by rw [en, ← ev]; rfl
        clear hJ0 lA
        repeat' (first | (refine d_AOs (h := ?_) ; first | refine o_move (h := ?_) | refine o_assign (h := ?_) | refine AOs.nil (h := ?_) | (refine d_bin (h := ?_) ; first | refine o_addS (h := ?_) | refine o_lss (h := ?_) | refine o_nei (h := ?_) | refine o_fadd (h := ?_)) | refine o_load (hv := l1) (h := ?_) | refine o_load (hv := hld) (h := ?_) | refine o_at (h := ?_) | refine o_field (h := ?_)) | (refine d_AW (h := ?_) ; first | refine AW.seq (h := ?_) | refine AW.region (h := ?_) | (refine AW.cond (ht := (fun hc => ?_)) (hf := (fun hc => ?_)) <;> (try (with_reducible first | exact absurd hc Bool.false_ne_true | exact absurd hc.symm Bool.false_ne_true)) <;> (try simp only [decide_eq_true_eq, decide_eq_false_iff_not, Int.ofNat_inj, Bool.not_eq_true', Bool.not_eq_false', Int.not_lt, Int.not_le] at hc) <;> (try (exfalso; omega)) <;> (try (exact absurd hc (by decide)))) | refine AW.block (h := ?_) | refine AW.skip (h := ?_)) | (first | refine t_normal ?_ | refine b_normal ?_))
        all_goals first | exact ⟨kk - 1, by omega, k + 1, by omega, by rw [← ez]; rfl⟩ | (exfalso; omega)
    · obtain rfl : k = o := by omega
      have eN : otN e k = k - 1 := by unfold otN; rw [if_neg (by omega)]
      rw [eN]
      repeat' (first | (refine d_AOs (h := ?_) ; first | refine o_move (h := ?_) | refine o_assign (h := ?_) | refine AOs.nil (h := ?_) | (refine d_bin (h := ?_) ; first | refine o_lss (h := ?_)) | refine o_load (hv := l1) (h := ?_) | refine o_field (h := ?_)) | (refine d_AW (h := ?_) ; first | refine AW.seq (h := ?_) | refine AW.region (h := ?_) | (refine AW.cond (ht := (fun hc => ?_)) (hf := (fun hc => ?_)) <;> (try (with_reducible first | exact absurd hc Bool.false_ne_true | exact absurd hc.symm Bool.false_ne_true)) <;> (try simp only [decide_eq_true_eq, decide_eq_false_iff_not, Int.ofNat_inj, Bool.not_eq_true', Bool.not_eq_false', Int.not_lt, Int.not_le] at hc) <;> (try (exfalso; omega)) <;> (try (exact absurd hc (by decide)))) | refine AW.block (h := ?_) | refine AW.exit (h := ?_)) | (first | refine t_normal ?_ | refine t_exit ?_ | refine b_exit ?_))
      refine AW.loopN [1, 2, 3, 4, 8, 10, 12] (fun kk st => ∃ q : Nat, q + kk = k ∧ st = ⟨113, [(1, .int .i64 (i : Int)), (2, .int .i64 (e : Int)), (3, .float .f32 x), (4, .pointer (some ⟨M.length, 0, none⟩)), (8, .pointer (some ⟨M.length + 1, 0, none⟩)), (10, .float .f32 (zS (otF h i e) (k - 1))), (12, .int .i64 (q : Int))], M ++ [⟨tab 22 (jnJ (n : Int) (k : Int) (stH k h i e x q)), none, true⟩, jnB 0 0 fun _ => 0]⟩) k ⟨0, by omega, by rw [stH_0, hJ0]; rfl⟩ ?_
      rintro kk st ⟨q, hq, rfl⟩
      by_cases hqo : q < k
      · have m1 : ldA .one 1 (tab 22 (jnJ (n : Int) (k : Int) (stH k h i e x q))) = some (.int .i64 (k : Int)) := jn_ld1
        have mA : ldA .one (2 + i * 4 + q) (tab 22 (jnJ (n : Int) (k : Int) (stH k h i e x q))) = some (.float .f32 (jA h i q)) := by
          rw [← stH_cell (o := k) (h := h) (i := i) (e := e) (x := x) (k := q)]
          exact jn_get (by omega) (by omega)
        have hst : ∀ v, v = tvF k h i e x q → (tab 22 (jnJ (n : Int) (k : Int) (stH k h i e x q))).take (2 + i * 4 + q) ++ cellsA (.float .f32 v) ++ (tab 22 (jnJ (n : Int) (k : Int) (stH k h i e x q))).drop (2 + i * 4 + q + (cellsA (.float .f32 v)).length) = tab 22 (jnJ (n : Int) (k : Int) (stH k h i e x (q + 1))) := fun v hv => by
          rw [jn_stQ (x := 2 + i * 4 + q) (by omega) (by omega), stH_step hv]
        have t1 := tv_1 (o := k) (h := h) (i := i) (e := e) (x := x) (k := q)
        have t2 := tv_2 (o := k) (h := h) (i := i) (e := e) (x := x) (k := q)
        have t3 := tv_3 (o := k) (h := h) (i := i) (e := e) (x := x) (k := q)
        have hJl : (tab 22 (jnJ (n : Int) (k : Int) (stH k h i e x q))).length = 22 := tab_len _ _
        have hJb : 2 + i * 4 + q + 1 ≤ (tab 22 (jnJ (n : Int) (k : Int) (stH k h i e x q))).length := by rw [hJl]; omega
        clear hJ0 lA l1 hP hK hJl
        generalize tab 22 (jnJ (n : Int) (k : Int) (stH k h i e x q)) = J at *
        generalize hJ' : tab 22 (jnJ (n : Int) (k : Int) (stH k h i e x (q + 1))) = J' at hst
        generalize zS (otF h i e) (k - 1) = Z at *
        by_cases hqe : q = e
        · have hs := hst _ (t1 hqe)
          clear hst t1 t2 t3
          repeat' (first | (refine d_AOs (h := ?_) ; first | refine o_move (h := ?_) | refine o_assign (h := ?_) | refine AOs.nil (h := ?_) | (refine d_bin (h := ?_) ; first | refine o_addS (h := ?_) | refine o_lss (h := ?_) | refine o_eqi (h := ?_)) | refine o_load (hv := m1) (h := ?_) | refine o_store (ho := by exact hJb) (hcs := by exact hs) (h := ?_) | refine o_at (h := ?_) | refine o_field (h := ?_)) | (refine d_AW (h := ?_) ; first | refine AW.seq (h := ?_) | refine AW.region (h := ?_) | (refine AW.cond (ht := (fun hc => ?_)) (hf := (fun hc => ?_)) <;> (try (with_reducible first | exact absurd hc Bool.false_ne_true | exact absurd hc.symm Bool.false_ne_true)) <;> (try simp only [decide_eq_true_eq, decide_eq_false_iff_not, Int.ofNat_inj, Bool.not_eq_true', Bool.not_eq_false', Int.not_lt, Int.not_le] at hc) <;> (try (exfalso; omega)) <;> (try (exact absurd hc (by decide)))) | refine AW.block (h := ?_) | refine AW.skip (h := ?_)) | (first | refine t_normal ?_ | refine b_normal ?_))
          all_goals first | exact ⟨kk - 1, by omega, q + 1, by omega, by rw [hJ']; rfl⟩ | (exfalso; omega)
        · cases hz : feq .f32 Z 0
          · have hs := hst _ (t3 hqe hz)
            clear hst t1 t2 t3
            repeat' (first | (refine d_AOs (h := ?_) ; first | refine o_move (h := ?_) | refine o_assign (h := ?_) | refine AOs.nil (h := ?_) | (refine d_bin (h := ?_) ; first | refine o_feqC (hc := hz) (h := ?_) | refine o_addS (h := ?_) | refine o_lss (h := ?_) | refine o_eqi (h := ?_)) | refine o_load (hv := m1) (h := ?_) | refine o_field (h := ?_)) | (refine d_AW (h := ?_) ; first | refine AW.seq (h := ?_) | refine AW.region (h := ?_) | refine AW.openW1M (M ++ [⟨J, none, true⟩, jnB 0 0 fun _ => 0]) 16 (M ++ [⟨J', none, true⟩, jnB 0 0 fun _ => 0]) (h := ?_) | (refine AW.cond (ht := (fun hc => ?_)) (hf := (fun hc => ?_)) <;> (try (with_reducible first | exact absurd hc Bool.false_ne_true | exact absurd hc.symm Bool.false_ne_true)) <;> (try simp only [decide_eq_true_eq, decide_eq_false_iff_not, Int.ofNat_inj, Bool.not_eq_true', Bool.not_eq_false', Int.not_lt, Int.not_le] at hc) <;> (try (exfalso; omega)) <;> (try (exact absurd hc (by decide)))) | refine AW.block (h := ?_) | refine AW.skip (h := ?_)) | (first | refine t_normal ?_ | refine b_normal ?_) | (refine d_W (h := ?_) ; first | refine w1_stepN (h1 := by (simp only [ObK, aft, cond_true, cond_false]; repeat' (first | refine And.intro ?_ ?_ | ((refine d_AOs ?_; first | refine o_store (ho := by exact hJb) (hcs := by exact hs) (h := ?_)) <;> exact AOs.nil rfl)))) (h2 := ?_) | refine w1_nil (h := ?_) | refine w1_step (h2 := ?_) | refine w1_step (h1 := by (simp only [ObK, aft, cond_true, cond_false]; repeat' (first | refine And.intro ?_ ?_ | ((refine d_AOs ?_; first | refine o_load (hv := m1) (h := ?_) | refine o_load (hv := mA) (h := ?_)) <;> exact AOs.nil rfl)))) (h2 := ?_)))
            all_goals first | exact ⟨kk - 1, by omega, q + 1, by omega, by rw [hJ']; rfl⟩ | (exfalso; omega)
          · have hs := hst _ (t2 hqe hz)
            clear hst t1 t2 t3
            repeat' (first | (refine d_AOs (h := ?_) ; first | refine o_move (h := ?_) | refine o_assign (h := ?_) | refine AOs.nil (h := ?_) | (refine d_bin (h := ?_) ; first | refine o_feqC (hc := hz) (h := ?_) | refine o_addS (h := ?_) | refine o_lss (h := ?_) | refine o_eqi (h := ?_)) | refine o_load (hv := m1) (h := ?_) | refine o_field (h := ?_)) | (refine d_AW (h := ?_) ; first | refine AW.seq (h := ?_) | refine AW.region (h := ?_) | refine AW.openW1M (M ++ [⟨J, none, true⟩, jnB 0 0 fun _ => 0]) 12 (M ++ [⟨J', none, true⟩, jnB 0 0 fun _ => 0]) (h := ?_) | (refine AW.cond (ht := (fun hc => ?_)) (hf := (fun hc => ?_)) <;> (try (with_reducible first | exact absurd hc Bool.false_ne_true | exact absurd hc.symm Bool.false_ne_true)) <;> (try simp only [decide_eq_true_eq, decide_eq_false_iff_not, Int.ofNat_inj, Bool.not_eq_true', Bool.not_eq_false', Int.not_lt, Int.not_le] at hc) <;> (try (exfalso; omega)) <;> (try (exact absurd hc (by decide)))) | refine AW.block (h := ?_) | refine AW.skip (h := ?_)) | (first | refine t_normal ?_ | refine b_normal ?_) | (refine d_W (h := ?_) ; first | refine w1_stepN (h1 := by (simp only [ObK, aft, cond_true, cond_false]; repeat' (first | refine And.intro ?_ ?_ | ((refine d_AOs ?_; first | refine o_store (ho := by exact hJb) (hcs := by exact hs) (h := ?_)) <;> exact AOs.nil rfl)))) (h2 := ?_) | refine w1_nil (h := ?_) | refine w1_step (h2 := ?_) | refine w1_step (h1 := by (simp only [ObK, aft, cond_true, cond_false]; repeat' (first | refine And.intro ?_ ?_ | ((refine d_AOs ?_; first | refine o_load (hv := m1) (h := ?_) | refine o_load (hv := mA) (h := ?_)) <;> exact AOs.nil rfl)))) (h2 := ?_)))
            all_goals first | exact ⟨kk - 1, by omega, q + 1, by omega, by rw [hJ']; rfl⟩ | (exfalso; omega)
      · obtain rfl : q = k := by omega
        have hK2 := fun M' j h' => sl03Ok (n : Int) (q : Int) (stH q h i e x q) j true M' h'
        unfold stV
        by_cases hQ : jnP (n : Int) (q : Int) (stH q h i e x q)
        · rw [decide_eq_true hQ] at hK2
          rw [if_pos hQ]
          clear hK hQ
          generalize stH q h i e x q = H at *
          repeat' (first | (refine d_AOs (h := ?_) ; first | refine o_move (h := ?_) | refine o_assign (h := ?_) | refine AOs.nil (h := ?_) | (refine d_bin (h := ?_) ; first | refine o_lss (h := ?_)) | refine o_load (hv := jn_ld1) (h := ?_) | refine o_call (hc := (hK2 _ _ (by first | (simp only [mem_tail, mem_tail0, List.getElem?_cons_zero, List.getElem?_cons_succ]; first | done | rfl) | exact mem_head (by assumption) | assumption | (simp only [mem_tailS, mem_tailS0, List.getElem?_cons_zero, List.getElem?_cons_succ]; first | done | rfl) | exact mem_set1 (by assumption) | exact mem_set0 (by assumption) | exact mem_setN1 (by assumption) (by assumption) | exact mem_setN (by assumption) (by assumption)))) (h := ?_) | refine o_store (hw := by exact whole_tab (fun i => jn_one i)) (hcs := by exact st_all (by rfl)) (h := ?_) | refine o_load (h := ?_) | refine o_field (h := ?_) | refine o_not (h := ?_)) | (refine d_AW (h := ?_) ; first | refine AW.seq (h := ?_) | refine AW.region (h := ?_) | (refine AW.cond (ht := (fun hc => ?_)) (hf := (fun hc => ?_)) <;> (try (with_reducible first | exact absurd hc Bool.false_ne_true | exact absurd hc.symm Bool.false_ne_true)) <;> (try simp only [decide_eq_true_eq, decide_eq_false_iff_not, Int.ofNat_inj, Bool.not_eq_true', Bool.not_eq_false', Int.not_lt, Int.not_le] at hc) <;> (try (exfalso; omega)) <;> (try (exact absurd hc (by decide)))) | refine AW.ret (h := ?_) | refine AW.skip (h := ?_) | refine AW.exit (h := ?_)) | (first | refine t_normal ?_ | refine t_exit ?_ | refine b_exit ?_) | (refine d_post (h := ?_) ; first | refine p_ret2 rfl (h := ?_)))
          all_goals first | rfl | (exfalso; simp at hc; done) | (exfalso; omega)
        · rw [decide_eq_false hQ] at hK2
          rw [if_neg hQ]
          clear hK hQ
          generalize stH q h i e x q = H at *
          repeat' (first | (refine d_AOs (h := ?_) ; first | refine o_move (h := ?_) | refine o_assign (h := ?_) | refine AOs.nil (h := ?_) | (refine d_bin (h := ?_) ; first | refine o_lss (h := ?_)) | refine o_load (hv := jn_ld1) (h := ?_) | refine o_call (hc := (hK2 _ _ (by first | (simp only [mem_tail, mem_tail0, List.getElem?_cons_zero, List.getElem?_cons_succ]; first | done | rfl) | exact mem_head (by assumption) | assumption | (simp only [mem_tailS, mem_tailS0, List.getElem?_cons_zero, List.getElem?_cons_succ]; first | done | rfl) | exact mem_set1 (by assumption) | exact mem_set0 (by assumption) | exact mem_setN1 (by assumption) (by assumption) | exact mem_setN (by assumption) (by assumption)))) (h := ?_) | refine o_build (cs := tab 22 (jnJ 0 0 fun _ => 0)) (hf := by rfl) (h := ?_) | refine o_store (hw := by exact whole_tab (fun i => jn_one i)) (hcs := by exact st_all (by rfl)) (h := ?_) | refine o_field (h := ?_) | refine o_not (h := ?_)) | (refine d_AW (h := ?_) ; first | refine AW.seq (h := ?_) | refine AW.region (h := ?_) | (refine AW.cond (ht := (fun hc => ?_)) (hf := (fun hc => ?_)) <;> (try (with_reducible first | exact absurd hc Bool.false_ne_true | exact absurd hc.symm Bool.false_ne_true)) <;> (try simp only [decide_eq_true_eq, decide_eq_false_iff_not, Int.ofNat_inj, Bool.not_eq_true', Bool.not_eq_false', Int.not_lt, Int.not_le] at hc) <;> (try (exfalso; omega)) <;> (try (exact absurd hc (by decide)))) | refine AW.ret (h := ?_) | refine AW.exit (h := ?_)) | (first | refine t_normal ?_ | refine t_ret ?_ | refine t_exit ?_ | refine b_exit ?_) | (refine d_post (h := ?_) ; first | refine p_ret2 rfl (h := ?_)))
          all_goals first | rfl | (exfalso; simp at hc; done) | (exfalso; omega))
end
end Go.Proofs.YtgdpcomemkimhaaGreatDoor
