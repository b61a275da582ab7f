/- Marks on lists of slots; copies of lists of phases, and of amounts. -/
import Derived.Test.YtddmclkijheicaaDoorMk
import Derived.Test.YtddmclkijheicaaDoorPl
namespace Go.Proofs.YtddmclkijheicaaDoor
open Go.RowKit
attribute [local irreducible] AW AOs AO AQ AQW thenA inBlockA postA ACalls Pure
set_option linter.unusedSimpArgs false
set_option linter.unusedVariables false
set_option linter.unusedSectionVars false

theorem crF32 {n i : Nat} {z : Nat → Nat} : tab n (fun j => if j = i then .float .f32 (z i) else (fun j => .float .f32 (if j < i then z j else 0)) j) = tab n (fun j => .float .f32 (if j < i + 1 then z j else 0)) :=
  tab_congr fun j _ => by
    by_cases h : j = i
    · subst h; simp
    · rw [if_neg h]
      by_cases h2 : j < i
      · simp [h2, show j < i + 1 by omega]
      · simp [h2, show ¬ j < i + 1 by omega]
/-! ### Marks of slots -/
abbrev mkS (n : Nat) (k : Int) : List Value := rows n fun q => tab 8 (fun r => .bool (mkP k (q * 9 + r))) ++ ([.int .i64 (k + (q * 9 + 8 : Nat))] : List Value)
theorem flat_mkS {n : Nat} {k : Int} : ∀ c ∈ mkS n k, Flat c := flat_rows fun i => (by repeat' (first | exact Flat.bool _ | exact Flat.int _ _ | exact Flat.float _ _ | exact Flat.string _ | exact flat_nil | exact flat_tabL (fun _ => Flat.bool _) | exact flat_tabL (fun _ => Flat.int _ _) | exact flat_tabL (fun _ => Flat.float _ _) | refine flat_tuple ?_ | refine flat_agg ?_ | refine flat_cons ?_ ?_ | refine flat_append ?_ ?_))
def mixS (f : Nat → Nat → Bool) (T : Nat → Int) (k : Int) (c q : Nat) : List Value := tab 8 (fun r => .bool (if q * 9 + r < c then mkP k (q * 9 + r) else f q r)) ++ ([.int .i64 (if q * 9 + 8 < c then k + (q * 9 + 8 : Nat) else T q)] : List Value)
theorem mixS_len {f : Nat → Nat → Bool} {T : Nat → Int} {k : Int} {c : Nat} (q : Nat) : (mixS f T k c q).length = 9 := by simp [mixS, tab_len]
theorem mixS_0 (n : Nat) (f : Nat → Nat → Bool) (T : Nat → Int) (k : Int) : rows n (mixS f T k 0) = rows n fun q => tab 8 (fun r => .bool (f q r)) ++ ([.int .i64 (T q)] : List Value) :=
  rows_congr fun q _ => by
    unfold mixS
    rw [if_neg (by omega)]
    congr 1
theorem mixS_all (n : Nat) (f : Nat → Nat → Bool) (T : Nat → Int) (k : Int) : rows n (mixS f T k (n * 9)) = mkS n k :=
  rows_congr fun q hq => by
    unfold mixS
    rw [if_pos (by omega)]
    congr 1
    exact tab_congr fun r hr => by rw [if_pos (by omega)]
theorem mixS_same {f : Nat → Nat → Bool} {T : Nat → Int} {k : Int} {c c' q : Nat} (h : (c ≤ q * 9 ∧ c' ≤ q * 9) ∨ (q * 9 + 9 ≤ c ∧ q * 9 + 9 ≤ c')) : mixS f T k c q = mixS f T k c' q := by
  unfold mixS
  congr 1
  · refine tab_congr fun r hr => ?_
    rcases h with h | h
    · rw [if_neg (by omega), if_neg (by omega)]
    · rw [if_pos (by omega), if_pos (by omega)]
  · rcases h with h | h
    · rw [if_neg (by omega), if_neg (by omega)]
    · rw [if_pos (by omega), if_pos (by omega)]
theorem mixS_step (n : Nat) (f : Nat → Nat → Bool) (T : Nat → Int) (k : Int) (i j : Nat) (hj : j < 8) : (rows n fun q => if q = i then (mixS f T k (i * 9 + j) i).set j (.bool (mkP k (i * 9 + j))) else mixS f T k (i * 9 + j) q) = rows n (mixS f T k (i * 9 + (j + 1))) :=
  rows_congr fun q hq => by
    by_cases e : q = i
    · subst e
      rw [if_pos rfl]
      unfold mixS
      rw [List.set_append_left _ _ (by rw [tab_len]; omega), if_neg (by omega), if_neg (by omega)]
      congr 1
      apply List.ext_getElem?
      intro x
      rw [List.getElem?_set, tab_len]
      by_cases hx : x < 8
      · rw [tab_get hx, tab_get hx]
        by_cases ex : j = x
        · subst ex; rw [if_pos rfl, if_pos hj, if_pos (by omega)]
        · rw [if_neg ex]
          by_cases hl : x < j
          · rw [if_pos (by omega), if_pos (by omega)]
          · rw [if_neg (by omega), if_neg (by omega)]
      · rw [if_neg (by omega)]
        rw [List.getElem?_eq_none (by rw [tab_len]; omega), List.getElem?_eq_none (by rw [tab_len]; omega)]
    · rw [if_neg e]
      exact mixS_same (by omega)
theorem mixS_stepT (n : Nat) (f : Nat → Nat → Bool) (T : Nat → Int) (k : Int) (i : Nat) : (rows n fun q => if q = i then (mixS f T k (i * 9 + 8) i).set 8 (.int .i64 (k + (i * 9 + 8 : Nat))) else mixS f T k (i * 9 + 8) q) = rows n (mixS f T k ((i + 1) * 9)) :=
  rows_congr fun q hq => by
    by_cases e : q = i
    · subst e
      rw [if_pos rfl]
      unfold mixS
      rw [List.set_append_right _ _ (by rw [tab_len]; omega), tab_len, if_neg (by omega), if_pos (by omega)]
      congr 1
      refine tab_congr fun r hr => ?_
      rw [if_pos (by omega), if_pos (by omega)]
    · rw [if_neg e]
      exact mixS_same (by omega)
set_option maxHeartbeats 4000000 in
theorem lmarkSlotS (n cp b : Nat) (tg : Option Nat) (f : Nat → Nat → Bool) (T : Nat → Int) (k : Int) (hk : 0 ≤ k ∧ k ≤ 1000000) (hn : n ≤ 1048576) (M : Mem) (hb : M[b]? = some ⟨rows n fun q => tab 8 (fun r => .bool (f q r)) ++ ([.int .i64 (T q)] : List Value), tg, true⟩) :
    Mut Tryd.prog 19 [.slice (some ⟨b, 0, tg⟩) n cp, .int .i64 k] M (.int .i64 (k + (n * 9 : Nat))) (M.set b ⟨mkS n k, tg, true⟩) := by
  refine mut_of Tryd.func19 Tryd.ntmps19 rfl rfl (by rw [List.length_set]; exact Nat.le_refl _) (by repeat' (first | exact Flat.bool _ | exact Flat.int _ _ | exact Flat.float _ _ | exact Flat.string _ | exact flat_nil | exact flat_tabL (fun _ => Flat.bool _) | exact flat_tabL (fun _ => Flat.int _ _) | exact flat_tabL (fun _ => Flat.float _ _) | refine flat_tuple ?_ | refine flat_agg ?_ | refine flat_cons ?_ ?_ | refine flat_append ?_ ?_)) (fun h => h.set flat_mkS) ?_
  have hbl := (List.getElem?_eq_some_iff.1 hb).1
  have hM0 : M = M.set b ⟨rows n (mixS f T k 0), tg, true⟩ := by
    rw [mixS_0]
    apply List.ext_getElem?
    intro x
    rw [List.getElem?_set]
    split
    · rename_i e; subst e; first | exact hb | (rw [if_pos hbl]; exact hb)
    · rfl
  simp only [envOf, Nat.zero_add, Nat.reduceAdd]
  repeat' (first | (refine d_AOs (h := ?_) ; first | refine o_move (h := ?_) | refine o_assign (h := ?_) | refine AOs.nil (h := ?_) | (refine d_bin (h := ?_) ; first | refine o_eqNil (h := ?_) | refine o_addS (h := ?_) | refine o_add (h := ?_) | refine o_lss (h := ?_) | refine o_eqi (h := ?_) | refine o_eqB (h := ?_) | refine o_remS (h := ?_) | refine o_rem (h := ?_) )  | refine o_at (h := ?_) | refine o_field (h := ?_) | refine o_len (h := ?_) | refine o_lenS (h := ?_) | refine o_ixS (h := ?_) | refine o_store (h := ?_) | refine o_ix (h := ?_) ) | (refine d_AW (h := ?_) ; first | refine AW.seq (h := ?_) | refine AW.region (h := ?_) | (refine AW.cond (ht := (fun hc => ?_)) (hf := (fun hc => ?_)) <;> (try (with_reducible first | exact absurd hc Bool.false_ne_true | exact absurd hc.symm Bool.false_ne_true)) <;> (try simp only [decide_eq_true_eq, decide_eq_false_iff_not, Int.ofNat_inj, Bool.not_eq_true', Bool.not_eq_false', Int.not_lt, Int.not_le] at hc) <;> (try (exfalso; omega)) <;> (try (exact absurd hc (by decide)))) | refine AW.block (h := ?_) | refine AW.ret (h := ?_) | refine AW.skip (h := ?_) | refine AW.exit (h := ?_) ) | (first | refine t_normal ?_ | refine t_ret ?_ | refine t_exit ?_ | refine b_normal ?_ | refine b_exit ?_ | refine b_exit' (by decide) ?_ | refine b_ret ?_) | (refine d_post (h := ?_) ; first | refine p_ret1 rfl (h := ?_) | refine p_end1 rfl (h := ?_) | refine p_cell1 rfl (h := ?_) ))
  refine AW.loopN [0, 1, 5] (fun kk s => ∃ (i : Nat), i + kk = n ∧ s = ⟨36, [(0, .slice (some ⟨b, 0, tg⟩) n cp), (1, .int .i64 (k + (i * 9 : Nat))), (5, .int .i64 i)], M.set b ⟨rows n (mixS f T k (i * 9)), tg, true⟩⟩) n ⟨0, by omega, by rw [Nat.zero_mul, ← hM0]; simp; rfl⟩ ?_
  rintro kk s ⟨i, hi, rfl⟩
  by_cases hin : i < n
  · repeat' (first | (refine d_AOs (h := ?_) ; first | refine o_move (h := ?_) | refine o_assign (h := ?_) | refine AOs.nil (h := ?_) | (refine d_bin (h := ?_) ; first | refine o_eqNil (h := ?_) | refine o_addS (h := ?_) | refine o_add (h := ?_) | refine o_lss (h := ?_) | refine o_eqi (h := ?_) | refine o_eqB (h := ?_) | refine o_remS (h := ?_) | refine o_rem (h := ?_) )  | refine o_at (h := ?_) | refine o_field (h := ?_) | refine o_len (h := ?_) | refine o_lenS (h := ?_) | refine o_ixS (h := ?_) | refine o_store (h := ?_) | refine o_ix (h := ?_) ) | (refine d_AW (h := ?_) ; first | refine AW.seq (h := ?_) | refine AW.region (h := ?_) | (refine AW.cond (ht := (fun hc => ?_)) (hf := (fun hc => ?_)) <;> (try (with_reducible first | exact absurd hc Bool.false_ne_true | exact absurd hc.symm Bool.false_ne_true)) <;> (try simp only [decide_eq_true_eq, decide_eq_false_iff_not, Int.ofNat_inj, Bool.not_eq_true', Bool.not_eq_false', Int.not_lt, Int.not_le] at hc) <;> (try (exfalso; omega)) <;> (try (exact absurd hc (by decide)))) | refine AW.block (h := ?_) | refine AW.ret (h := ?_) | refine AW.skip (h := ?_) | refine AW.exit (h := ?_) ) | (first | refine t_normal ?_ | refine t_ret ?_ | refine t_exit ?_ | refine b_normal ?_ | refine b_exit ?_ | refine b_exit' (by decide) ?_ | refine b_ret ?_) | (refine d_post (h := ?_) ; first | refine p_ret1 rfl (h := ?_) | refine p_end1 rfl (h := ?_) | refine p_cell1 rfl (h := ?_) ))
    refine AW.loopN [0, 1, 5, 6] (fun k2 s => ∃ (j : Nat), j + k2 = 8 ∧ s = ⟨36, [(0, .slice (some ⟨b, 0, tg⟩) n cp), (1, .int .i64 (k + (i * 9 + j : Nat))), (5, .int .i64 i), (6, .int .i64 j)], M.set b ⟨rows n (mixS f T k (i * 9 + j)), tg, true⟩⟩) 8 ⟨0, by omega, rfl⟩ ?_
    rintro k2 s ⟨j, hj, rfl⟩
    have hbb : (M.set b ⟨rows n (mixS f T k (i * 9 + j)), tg, true⟩)[b]? = some ⟨rows n (mixS f T k (i * 9 + j)), tg, true⟩ := by
      rw [List.getElem?_set, if_pos rfl, if_pos hbl]
    have hlen : ∀ q, q < n → (mixS f T k (i * 9 + j) q).length = 9 := fun q _ => mixS_len q
    by_cases hj8 : j < 8
    · repeat' (first | (refine d_AOs (h := ?_) ; first | refine o_move (h := ?_) | refine o_assign (h := ?_) | refine AOs.nil (h := ?_) | (refine d_bin (h := ?_) ; first | refine o_eqNil (h := ?_) | refine o_addS (h := ?_) | refine o_add (h := ?_) | refine o_lss (h := ?_) | refine o_eqi (h := ?_) | refine o_eqB (h := ?_) | refine o_remS (h := ?_) | refine o_rem (h := ?_) )  | refine o_store (hcs := by exact st_cell hin hlen (show j < 9 by omega)) (ho := by exact rows_le (q := 1) hin hlen (by omega)) (h := ?_) | refine o_at (h := ?_) | refine o_field (h := ?_) | refine o_len (h := ?_) | refine o_lenS (h := ?_) | refine o_ixS (h := ?_) | refine o_store (h := ?_) | refine o_ix (h := ?_) ) | (refine d_AW (h := ?_) ; first | refine AW.seq (h := ?_) | refine AW.region (h := ?_) | (refine AW.cond (ht := (fun hc => ?_)) (hf := (fun hc => ?_)) <;> (try (with_reducible first | exact absurd hc Bool.false_ne_true | exact absurd hc.symm Bool.false_ne_true)) <;> (try simp only [decide_eq_true_eq, decide_eq_false_iff_not, Int.ofNat_inj, Bool.not_eq_true', Bool.not_eq_false', Int.not_lt, Int.not_le] at hc) <;> (try (exfalso; omega)) <;> (try (exact absurd hc (by decide)))) | refine AW.block (h := ?_) | refine AW.ret (h := ?_) | refine AW.skip (h := ?_) | refine AW.exit (h := ?_) ) | (first | refine t_normal ?_ | refine t_ret ?_ | refine t_exit ?_ | refine b_normal ?_ | refine b_exit ?_ | refine b_exit' (by decide) ?_ | refine b_ret ?_) | (refine d_post (h := ?_) ; first | refine p_ret1 rfl (h := ?_) | refine p_end1 rfl (h := ?_) | refine p_cell1 rfl (h := ?_) ))
      all_goals refine ⟨k2 - 1, by omega, j + 1, by omega, ?_⟩
      all_goals (try rw [List.set_set])
      all_goals (rw [← mixS_step n f T k i j hj8, show k + ((i * 9 + (j + 1) : Nat) : Int) = k + ((i * 9 + j : Nat) : Int) + 1 by omega])
      all_goals rfl
    · obtain rfl : j = 8 := by omega
      repeat' (first | (refine d_AOs (h := ?_) ; first | refine o_move (h := ?_) | refine o_assign (h := ?_) | refine AOs.nil (h := ?_) | (refine d_bin (h := ?_) ; first | refine o_eqNil (h := ?_) | refine o_addS (h := ?_) | refine o_add (h := ?_) | refine o_lss (h := ?_) | refine o_eqi (h := ?_) | refine o_eqB (h := ?_) | refine o_remS (h := ?_) | refine o_rem (h := ?_) )  | refine o_store (hcs := by exact st_cell hin hlen (show 8 < 9 by omega)) (ho := by exact rows_le (q := 1) hin hlen (by omega)) (h := ?_) | refine o_at (h := ?_) | refine o_field (h := ?_) | refine o_len (h := ?_) | refine o_lenS (h := ?_) | refine o_ixS (h := ?_) | refine o_store (h := ?_) | refine o_ix (h := ?_) ) | (refine d_AW (h := ?_) ; first | refine AW.seq (h := ?_) | refine AW.region (h := ?_) | (refine AW.cond (ht := (fun hc => ?_)) (hf := (fun hc => ?_)) <;> (try (with_reducible first | exact absurd hc Bool.false_ne_true | exact absurd hc.symm Bool.false_ne_true)) <;> (try simp only [decide_eq_true_eq, decide_eq_false_iff_not, Int.ofNat_inj, Bool.not_eq_true', Bool.not_eq_false', Int.not_lt, Int.not_le] at hc) <;> (try (exfalso; omega)) <;> (try (exact absurd hc (by decide)))) | refine AW.block (h := ?_) | refine AW.ret (h := ?_) | refine AW.skip (h := ?_) | refine AW.exit (h := ?_) ) | (first | refine t_normal ?_ | refine t_ret ?_ | refine t_exit ?_ | refine b_normal ?_ | refine b_exit ?_ | refine b_exit' (by decide) ?_ | refine b_ret ?_) | (refine d_post (h := ?_) ; first | refine p_ret1 rfl (h := ?_) | refine p_end1 rfl (h := ?_) | refine p_cell1 rfl (h := ?_) ))
      all_goals refine ⟨kk - 1, by omega, i + 1, by omega, ?_⟩
      all_goals (try rw [List.set_set])
      all_goals (rw [← mixS_stepT n f T k i, show k + (((i + 1) * 9 : Nat) : Int) = k + ((i * 9 + 8 : Nat) : Int) + 1 by omega])
      all_goals rfl
  · obtain rfl : i = n := by omega
    rw [mixS_all]
    repeat' (first | (refine d_AOs (h := ?_) ; first | refine o_move (h := ?_) | refine o_assign (h := ?_) | refine AOs.nil (h := ?_) | (refine d_bin (h := ?_) ; first | refine o_eqNil (h := ?_) | refine o_addS (h := ?_) | refine o_add (h := ?_) | refine o_lss (h := ?_) | refine o_eqi (h := ?_) | refine o_eqB (h := ?_) | refine o_remS (h := ?_) | refine o_rem (h := ?_) )  | refine o_at (h := ?_) | refine o_field (h := ?_) | refine o_len (h := ?_) | refine o_lenS (h := ?_) | refine o_ixS (h := ?_) | refine o_store (h := ?_) | refine o_ix (h := ?_) ) | (refine d_AW (h := ?_) ; first | refine AW.seq (h := ?_) | refine AW.region (h := ?_) | (refine AW.cond (ht := (fun hc => ?_)) (hf := (fun hc => ?_)) <;> (try (with_reducible first | exact absurd hc Bool.false_ne_true | exact absurd hc.symm Bool.false_ne_true)) <;> (try simp only [decide_eq_true_eq, decide_eq_false_iff_not, Int.ofNat_inj, Bool.not_eq_true', Bool.not_eq_false', Int.not_lt, Int.not_le] at hc) <;> (try (exfalso; omega)) <;> (try (exact absurd hc (by decide)))) | refine AW.block (h := ?_) | refine AW.ret (h := ?_) | refine AW.skip (h := ?_) | refine AW.exit (h := ?_) ) | (first | refine t_normal ?_ | refine t_ret ?_ | refine t_exit ?_ | refine b_normal ?_ | refine b_exit ?_ | refine b_exit' (by decide) ?_ | refine b_ret ?_) | (refine d_post (h := ?_) ; first | refine p_ret1 rfl (h := ?_) | refine p_end1 rfl (h := ?_) | refine p_cell1 rfl (h := ?_) ))
    all_goals rfl
set_option maxHeartbeats 4000000 in
theorem lheldSlotS (a : Option Addr) (n cp : Nat) (k : Int) (hk : 0 ≤ k ∧ k ≤ 1000000) (hn : n ≤ 1048576) (M : Mem) (hS : SlAt M a n (mkS n k)) :
    Pure Tryd.prog 20 [.slice a n cp, .int .i64 k] M (.int .i64 (k + (n * 9 : Nat))) := by
  refine pure_of Tryd.func20 Tryd.ntmps20 rfl rfl (by repeat' (first | exact Flat.bool _ | exact Flat.int _ _ | exact Flat.float _ _ | exact Flat.string _ | exact flat_nil | exact flat_tabL (fun _ => Flat.bool _) | exact flat_tabL (fun _ => Flat.int _ _) | exact flat_tabL (fun _ => Flat.float _ _) | refine flat_tuple ?_ | refine flat_agg ?_ | refine flat_cons ?_ ?_ | refine flat_append ?_ ?_)) ?_
  simp only [envOf, Nat.zero_add, Nat.reduceAdd]
  repeat' (first | (refine d_AOs (h := ?_) ; first | refine o_move (h := ?_) | refine o_assign (h := ?_) | refine AOs.nil (h := ?_) | (refine d_bin (h := ?_) ; first | refine o_eqNil (h := ?_) | refine o_addS (h := ?_) | refine o_add (h := ?_) | refine o_lss (h := ?_) | refine o_eqi (h := ?_) | refine o_eqB (h := ?_) | refine o_neB (h := ?_) | refine o_nei (h := ?_) | refine o_remS (h := ?_) | refine o_rem (h := ?_) )  | refine o_load (h := ?_) | refine o_at (h := ?_) | refine o_field (h := ?_) | refine o_len (h := ?_) | refine o_lenS (h := ?_) | refine o_ixS (h := ?_) | refine o_ix (h := ?_) ) | (refine d_AW (h := ?_) ; first | refine AW.seq (h := ?_) | refine AW.region (h := ?_) | (refine AW.cond (ht := (fun hc => ?_)) (hf := (fun hc => ?_)) <;> (try (with_reducible first | exact absurd hc Bool.false_ne_true | exact absurd hc.symm Bool.false_ne_true)) <;> (try simp only [decide_eq_true_eq, decide_eq_false_iff_not, Int.ofNat_inj, Bool.not_eq_true', Bool.not_eq_false', Int.not_lt, Int.not_le] at hc) <;> (try (exfalso; omega)) <;> (try (exact absurd hc (by decide)))) | refine AW.block (h := ?_) | refine AW.ret (h := ?_) | refine AW.skip (h := ?_) | refine AW.exit (h := ?_) ) | (first | refine t_normal ?_ | refine t_ret ?_ | refine t_exit ?_ | refine b_normal ?_ | refine b_exit ?_ | refine b_exit' (by decide) ?_ | refine b_ret ?_) | (refine d_post (h := ?_) ; first | refine p_ret1 rfl (h := ?_) | refine p_end1 rfl (h := ?_) | refine p_cell1 rfl (h := ?_) ))
  refine AW.loopN [0, 1, 5] (fun kk s => ∃ (i : Nat), i + kk = n ∧ s = ⟨40, [(0, .slice a n cp), (1, .int .i64 (k + (i * 9 : Nat))), (5, .int .i64 i)], M⟩) n ⟨0, by omega, by rw [Nat.zero_mul]; simp; rfl⟩ ?_
  rintro kk s ⟨i, hi, rfl⟩
  by_cases hin : i < n
  · obtain ⟨b, tg, rw', rfl, hb⟩ := hS (by omega)
    repeat' (first | (refine d_AOs (h := ?_) ; first | refine o_move (h := ?_) | refine o_assign (h := ?_) | refine AOs.nil (h := ?_) | (refine d_bin (h := ?_) ; first | refine o_eqNil (h := ?_) | refine o_addS (h := ?_) | refine o_add (h := ?_) | refine o_lss (h := ?_) | refine o_eqi (h := ?_) | refine o_eqB (h := ?_) | refine o_neB (h := ?_) | refine o_nei (h := ?_) | refine o_remS (h := ?_) | refine o_rem (h := ?_) )  | refine o_load (h := ?_) | refine o_at (h := ?_) | refine o_field (h := ?_) | refine o_len (h := ?_) | refine o_lenS (h := ?_) | refine o_ixS (h := ?_) | refine o_ix (h := ?_) ) | (refine d_AW (h := ?_) ; first | refine AW.seq (h := ?_) | refine AW.region (h := ?_) | (refine AW.cond (ht := (fun hc => ?_)) (hf := (fun hc => ?_)) <;> (try (with_reducible first | exact absurd hc Bool.false_ne_true | exact absurd hc.symm Bool.false_ne_true)) <;> (try simp only [decide_eq_true_eq, decide_eq_false_iff_not, Int.ofNat_inj, Bool.not_eq_true', Bool.not_eq_false', Int.not_lt, Int.not_le] at hc) <;> (try (exfalso; omega)) <;> (try (exact absurd hc (by decide)))) | refine AW.block (h := ?_) | refine AW.ret (h := ?_) | refine AW.skip (h := ?_) | refine AW.exit (h := ?_) ) | (first | refine t_normal ?_ | refine t_ret ?_ | refine t_exit ?_ | refine b_normal ?_ | refine b_exit ?_ | refine b_exit' (by decide) ?_ | refine b_ret ?_) | (refine d_post (h := ?_) ; first | refine p_ret1 rfl (h := ?_) | refine p_end1 rfl (h := ?_) | refine p_cell1 rfl (h := ?_) ))
    refine AW.loopN [0, 1, 5, 6] (fun k2 s => ∃ (j : Nat), j + k2 = 8 ∧ s = ⟨40, [(0, .slice (some ⟨b, 0, tg⟩) n cp), (1, .int .i64 (k + (i * 9 + j : Nat))), (5, .int .i64 i), (6, .int .i64 j)], M⟩) 8 ⟨0, by omega, rfl⟩ ?_
    rintro k2 s ⟨j, hj, rfl⟩
    have hlen : ∀ q, q < n → (tab 8 (fun r => Value.bool (mkP k (q * 9 + r))) ++ ([.int .i64 (k + (q * 9 + 8 : Nat))] : List Value)).length = 9 := fun q _ => by simp [tab_len]
    by_cases hj8 : j < 8
    · repeat' (first | (refine d_AOs (h := ?_) ; first | refine o_move (h := ?_) | refine o_assign (h := ?_) | refine AOs.nil (h := ?_) | (refine d_bin (h := ?_) ; first | refine o_eqNil (h := ?_) | refine o_addS (h := ?_) | refine o_add (h := ?_) | refine o_lss (h := ?_) | refine o_eqi (h := ?_) | refine o_eqB (h := ?_) | refine o_neB (h := ?_) | refine o_nei (h := ?_) | refine o_remS (h := ?_) | refine o_rem (h := ?_) )  | refine o_load (hv := by exact ld_cell hin hlen (show j < 9 by omega) (by rw [List.getElem?_append_left (by rw [tab_len]; exact hj8)]; exact tab_get hj8)) (h := ?_) | refine o_load (h := ?_) | refine o_at (h := ?_) | refine o_field (h := ?_) | refine o_len (h := ?_) | refine o_lenS (h := ?_) | refine o_ixS (h := ?_) | refine o_ix (h := ?_) ) | (refine d_AW (h := ?_) ; first | refine AW.seq (h := ?_) | refine AW.region (h := ?_) | (refine AW.cond (ht := (fun hc => ?_)) (hf := (fun hc => ?_)) <;> (try (with_reducible first | exact absurd hc Bool.false_ne_true | exact absurd hc.symm Bool.false_ne_true)) <;> (try simp only [decide_eq_true_eq, decide_eq_false_iff_not, Int.ofNat_inj, Bool.not_eq_true', Bool.not_eq_false', Int.not_lt, Int.not_le] at hc) <;> (try (exfalso; omega)) <;> (try (exact absurd hc (by decide)))) | refine AW.block (h := ?_) | refine AW.ret (h := ?_) | refine AW.skip (h := ?_) | refine AW.exit (h := ?_) ) | (first | refine t_normal ?_ | refine t_ret ?_ | refine t_exit ?_ | refine b_normal ?_ | refine b_exit ?_ | refine b_exit' (by decide) ?_ | refine b_ret ?_) | (refine d_post (h := ?_) ; first | refine p_ret1 rfl (h := ?_) | refine p_end1 rfl (h := ?_) | refine p_cell1 rfl (h := ?_) ))
      all_goals first | (exfalso; simp at hc; done) | exact ⟨k2 - 1, by omega, j + 1, by omega, by rw [show k + ((i * 9 + (j + 1) : Nat) : Int) = k + ((i * 9 + j : Nat) : Int) + 1 by omega]; rfl⟩
    · obtain rfl : j = 8 := by omega
      repeat' (first | (refine d_AOs (h := ?_) ; first | refine o_move (h := ?_) | refine o_assign (h := ?_) | refine AOs.nil (h := ?_) | (refine d_bin (h := ?_) ; first | refine o_eqNil (h := ?_) | refine o_addS (h := ?_) | refine o_add (h := ?_) | refine o_lss (h := ?_) | refine o_eqi (h := ?_) | refine o_eqB (h := ?_) | refine o_neB (h := ?_) | refine o_nei (h := ?_) | refine o_remS (h := ?_) | refine o_rem (h := ?_) )  | refine o_load (hv := by exact ld_cell hin hlen (show 8 < 9 by omega) (by rw [List.getElem?_append_right (by rw [tab_len]; exact Nat.le_refl _), tab_len]; rfl)) (h := ?_) | refine o_load (h := ?_) | refine o_at (h := ?_) | refine o_field (h := ?_) | refine o_len (h := ?_) | refine o_lenS (h := ?_) | refine o_ixS (h := ?_) | refine o_ix (h := ?_) ) | (refine d_AW (h := ?_) ; first | refine AW.seq (h := ?_) | refine AW.region (h := ?_) | (refine AW.cond (ht := (fun hc => ?_)) (hf := (fun hc => ?_)) <;> (try (with_reducible first | exact absurd hc Bool.false_ne_true | exact absurd hc.symm Bool.false_ne_true)) <;> (try simp only [decide_eq_true_eq, decide_eq_false_iff_not, Int.ofNat_inj, Bool.not_eq_true', Bool.not_eq_false', Int.not_lt, Int.not_le] at hc) <;> (try (exfalso; omega)) <;> (try (exact absurd hc (by decide)))) | refine AW.block (h := ?_) | refine AW.ret (h := ?_) | refine AW.skip (h := ?_) | refine AW.exit (h := ?_) ) | (first | refine t_normal ?_ | refine t_ret ?_ | refine t_exit ?_ | refine b_normal ?_ | refine b_exit ?_ | refine b_exit' (by decide) ?_ | refine b_ret ?_) | (refine d_post (h := ?_) ; first | refine p_ret1 rfl (h := ?_) | refine p_end1 rfl (h := ?_) | refine p_cell1 rfl (h := ?_) ))
      all_goals first | (exfalso; simp at hc; done) | skip
      all_goals refine ⟨kk - 1, by omega, i + 1, by omega, ?_⟩
      all_goals (rw [show k + (((i + 1) * 9 : Nat) : Int) = k + ((i * 9 + 8 : Nat) : Int) + 1 by omega]; rfl)
  · obtain rfl : i = n := by omega
    repeat' (first | (refine d_AOs (h := ?_) ; first | refine o_move (h := ?_) | refine o_assign (h := ?_) | refine AOs.nil (h := ?_) | (refine d_bin (h := ?_) ; first | refine o_eqNil (h := ?_) | refine o_addS (h := ?_) | refine o_add (h := ?_) | refine o_lss (h := ?_) | refine o_eqi (h := ?_) | refine o_eqB (h := ?_) | refine o_neB (h := ?_) | refine o_nei (h := ?_) | refine o_remS (h := ?_) | refine o_rem (h := ?_) )  | refine o_load (h := ?_) | refine o_at (h := ?_) | refine o_field (h := ?_) | refine o_len (h := ?_) | refine o_lenS (h := ?_) | refine o_ixS (h := ?_) | refine o_ix (h := ?_) ) | (refine d_AW (h := ?_) ; first | refine AW.seq (h := ?_) | refine AW.region (h := ?_) | (refine AW.cond (ht := (fun hc => ?_)) (hf := (fun hc => ?_)) <;> (try (with_reducible first | exact absurd hc Bool.false_ne_true | exact absurd hc.symm Bool.false_ne_true)) <;> (try simp only [decide_eq_true_eq, decide_eq_false_iff_not, Int.ofNat_inj, Bool.not_eq_true', Bool.not_eq_false', Int.not_lt, Int.not_le] at hc) <;> (try (exfalso; omega)) <;> (try (exact absurd hc (by decide)))) | refine AW.block (h := ?_) | refine AW.ret (h := ?_) | refine AW.skip (h := ?_) | refine AW.exit (h := ?_) ) | (first | refine t_normal ?_ | refine t_ret ?_ | refine t_exit ?_ | refine b_normal ?_ | refine b_exit ?_ | refine b_exit' (by decide) ?_ | refine b_ret ?_) | (refine d_post (h := ?_) ; first | refine p_ret1 rfl (h := ?_) | refine p_end1 rfl (h := ?_) | refine p_cell1 rfl (h := ?_) ))
    all_goals rfl
set_option maxHeartbeats 1000000 in
theorem lmarkPlan (n cp b : Nat) (tg : Option Nat) (bt o : Int) (f : Nat → Nat → Bool) (T : Nat → Int) (k : Int) (hk : 0 ≤ k ∧ k ≤ 1000000) (hn : n ≤ 1048576) (M : Mem) (hb : M[b]? = some ⟨rows n fun q => tab 8 (fun r => .bool (f q r)) ++ ([.int .i64 (T q)] : List Value), tg, true⟩) :
    Mut Tryd.prog 7 [.agg [.slice (some ⟨b, 0, tg⟩) n cp, .int .i64 bt, .int .i64 o].toArray, .int .i64 k] M (.int .i64 (k + (n * 9 : Nat))) (M.set b ⟨mkS n k, tg, true⟩) := by
  have hbl := (List.getElem?_eq_some_iff.1 hb).1
  refine mut_of Tryd.func7 Tryd.ntmps7 rfl rfl (by rw [List.length_set]; exact Nat.le_refl _) (by repeat' (first | exact Flat.bool _ | exact Flat.int _ _ | exact Flat.float _ _ | exact Flat.string _ | exact flat_nil | exact flat_tabL (fun _ => Flat.bool _) | exact flat_tabL (fun _ => Flat.int _ _) | exact flat_tabL (fun _ => Flat.float _ _) | refine flat_tuple ?_ | refine flat_agg ?_ | refine flat_cons ?_ ?_ | refine flat_append ?_ ?_)) (fun h => h.set flat_mkS) ?_
  simp only [envOf, Nat.zero_add, Nat.reduceAdd]
  repeat' (first | (refine d_AOs (h := ?_) ; first | refine o_move (h := ?_) | refine o_assign (h := ?_) | refine AOs.nil (h := ?_)  | refine o_callM (hc := (lmarkSlotS n cp b tg f T k hk hn _ (mem_head hb))) (h := ?_) | refine o_load (h := ?_) | refine o_at (h := ?_) | refine o_field (h := ?_) | refine o_box (h := ?_) ) | (refine d_AW (h := ?_) ; first | refine AW.seq (h := ?_) | refine AW.region (h := ?_) | (refine AW.cond (ht := (fun hc => ?_)) (hf := (fun hc => ?_)) <;> (try (with_reducible first | exact absurd hc Bool.false_ne_true | exact absurd hc.symm Bool.false_ne_true)) <;> (try simp only [decide_eq_true_eq, decide_eq_false_iff_not, Int.ofNat_inj, Bool.not_eq_true', Bool.not_eq_false', Int.not_lt, Int.not_le] at hc) <;> (try (exfalso; omega)) <;> (try (exact absurd hc (by decide)))) | refine AW.block (h := ?_) | refine AW.ret (h := ?_) | refine AW.skip (h := ?_) | refine AW.exit (h := ?_) ) | (first | refine t_normal ?_ | refine t_ret ?_ | refine t_exit ?_ | refine b_normal ?_ | refine b_exit ?_ | refine b_exit' (by decide) ?_ | refine b_ret ?_) | (refine d_post (h := ?_) ; first | refine p_ret1 rfl (h := ?_) | refine p_end1 rfl (h := ?_) | refine p_cell1 rfl (h := ?_) ))
  all_goals rfl
theorem lheldPlan (a : Option Addr) (n cp : Nat) (bt o : Int) (k : Int) (hk : 0 ≤ k ∧ k ≤ 1000000) (hn : n ≤ 1048576) (M : Mem) (hS : SlAt M a n (mkS n k)) :
    Pure Tryd.prog 8 [.agg [.slice a n cp, .int .i64 bt, .int .i64 o].toArray, .int .i64 k] M (.int .i64 (k + (n * 9 : Nat))) := by
  refine pure_of Tryd.func8 Tryd.ntmps8 rfl rfl (by repeat' (first | exact Flat.bool _ | exact Flat.int _ _ | exact Flat.float _ _ | exact Flat.string _ | exact flat_nil | exact flat_tabL (fun _ => Flat.bool _) | exact flat_tabL (fun _ => Flat.int _ _) | exact flat_tabL (fun _ => Flat.float _ _) | refine flat_tuple ?_ | refine flat_agg ?_ | refine flat_cons ?_ ?_ | refine flat_append ?_ ?_)) ?_
  simp only [envOf, Nat.zero_add, Nat.reduceAdd]
  repeat' (first | (refine d_AOs (h := ?_) ; first | refine o_move (h := ?_) | refine o_assign (h := ?_) | refine AOs.nil (h := ?_) | (refine d_bin (h := ?_) ; first | refine o_lss (h := ?_) )  | refine o_call (hc := (lheldSlotS a n cp k hk hn _ (by first | exact hS | exact hS.append))) (h := ?_) | refine o_load (h := ?_) | refine o_at (h := ?_) | refine o_field (h := ?_) | refine o_box (h := ?_) ) | (refine d_AW (h := ?_) ; first | refine AW.seq (h := ?_) | refine AW.region (h := ?_) | (refine AW.cond (ht := (fun hc => ?_)) (hf := (fun hc => ?_)) <;> (try (with_reducible first | exact absurd hc Bool.false_ne_true | exact absurd hc.symm Bool.false_ne_true)) <;> (try simp only [decide_eq_true_eq, decide_eq_false_iff_not, Int.ofNat_inj, Bool.not_eq_true', Bool.not_eq_false', Int.not_lt, Int.not_le] at hc) <;> (try (exfalso; omega)) <;> (try (exact absurd hc (by decide)))) | refine AW.block (h := ?_) | refine AW.ret (h := ?_) | refine AW.skip (h := ?_) | refine AW.exit (h := ?_) ) | (first | refine t_normal ?_ | refine t_ret ?_ | refine t_exit ?_ | refine b_normal ?_ | refine b_exit ?_ | refine b_exit' (by decide) ?_ | refine b_ret ?_) | (refine d_post (h := ?_) ; first | refine p_ret1 rfl (h := ?_) | refine p_end1 rfl (h := ?_) | refine p_cell1 rfl (h := ?_) ))
  all_goals first | rfl | (exfalso; omega)
end Go.Proofs.YtddmclkijheicaaDoor
