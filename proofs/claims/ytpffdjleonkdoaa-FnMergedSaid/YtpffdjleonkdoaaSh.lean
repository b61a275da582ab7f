/- Shared green: weights and amounts. -/
import Derived.Test.YtpffdjleonkdoaaFs
import Derived.Test.YtpffdjleonkdoaaSa
import Derived.Test.YtpffdjleonkdoaaPl2
namespace Go.Proofs.Ytpffdjleonkdoaa
open Go.RowKit
attribute [local irreducible] AW AOs AO AQ AQW thenA inBlockA postA ACalls Pure
set_option linter.unusedSimpArgs false
set_option linter.unusedVariables false
set_option linter.unusedSectionVars false

/-- The greatest demand of a phase. -/
def wtF (p : Nat → Bool) (d : Nat → Nat) : Nat → Nat
  | 0 => 0
  | i + 1 => if p i = true ∧ fgt .f32 (d i) (wtF p d i) = true then d i else wtF p d i
theorem isAm_zero : isAm 0 = true := by decide +kernel
theorem wt_am {p : Nat → Bool} {d : Nat → Nat} : ∀ i, (∀ q, q < i → isAm (d q) = true) → isAm (wtF p d i) = true
  | 0, _ => isAm_zero
  | i + 1, h => by
    simp only [wtF]
    split
    · exact h i (by omega)
    · exact wt_am i fun q hq => h q (by omega)
/-! ### Amounts -/
theorem iareAm1 (a : Nat) (M : Mem) : Pure Try.prog 103 [.float .f32 a] M (.bool (!isAm a)) := by
  refine pure_of Try.func103 Try.ntmps103 rfl rfl (by repeat' (first | exact Flat.bool _ | exact Flat.int _ _ | exact Flat.float _ _ | exact Flat.string _ | exact flat_nil | exact flat_tabL (fun _ => Flat.bool _) | exact flat_tabL (fun _ => Flat.int _ _) | exact flat_tabL (fun _ => Flat.float _ _) | refine flat_tuple ?_ | refine flat_agg ?_ | refine flat_cons ?_ ?_ | refine flat_append ?_ ?_)) ?_
  simp only [envOf, Nat.zero_add, Nat.reduceAdd]
  repeat' (first | (refine d_AOs (h := ?_) ; first | refine o_move (h := ?_) | refine o_assign (h := ?_) | refine AOs.nil (h := ?_)  | refine o_call (hc := (iIsAmount _ _)) (h := ?_) | refine o_at (h := ?_) | refine o_not (h := ?_) ) | (refine d_AW (h := ?_) ; first | refine AW.seq (h := ?_) | refine AW.region (h := ?_) | (refine AW.cond (ht := (fun hc => ?_)) (hf := (fun hc => ?_)) <;> (try (with_reducible first | exact absurd hc Bool.false_ne_true | exact absurd hc.symm Bool.false_ne_true)) <;> (try simp only [decide_eq_true_eq, decide_eq_false_iff_not, Int.ofNat_inj, Bool.not_eq_true', Bool.not_eq_false', Int.not_lt, Int.not_le] at hc) <;> (try (exfalso; omega)) <;> (try (exact absurd hc (by decide)))) | refine AW.block (h := ?_) | refine AW.ret (h := ?_) | refine AW.skip (h := ?_) | refine AW.exit (h := ?_) ) | (first | refine t_normal ?_ | refine t_ret ?_ | refine t_exit ?_ | refine b_normal ?_ | refine b_exit ?_ | refine b_exit' (by decide) ?_ | refine b_ret ?_) | (refine d_post (h := ?_) ; first | refine p_ret1 rfl (h := ?_) | refine p_end1 rfl (h := ?_) | refine p_cell1 rfl (h := ?_) ))
  all_goals rfl
section
variable (a : Option Addr) (n cp : Nat) (d : Nat → Nat) (M : Mem) (hn : n ≤ 1048576) (hS : SlAt M a n (tab n fun q => .float .f32 (d q)))
include hn hS
theorem iIndexAm : Pure Try.prog 108 [.slice a n cp, .func (.func 103) #[] #[]] M (.int .i64 (idxK (fun q => !isAm (d q)) n 0)) := by
  refine pure_of Try.func108 Try.ntmps108 rfl rfl (by repeat' (first | exact Flat.bool _ | exact Flat.int _ _ | exact Flat.float _ _ | exact Flat.string _ | exact flat_nil | exact flat_tabL (fun _ => Flat.bool _) | exact flat_tabL (fun _ => Flat.int _ _) | exact flat_tabL (fun _ => Flat.float _ _) | refine flat_tuple ?_ | refine flat_agg ?_ | refine flat_cons ?_ ?_ | refine flat_append ?_ ?_)) ?_
  simp only [envOf, Nat.zero_add, Nat.reduceAdd]
  repeat' (first | (refine d_AOs (h := ?_) ; first | refine o_move (h := ?_) | refine o_assign (h := ?_) | refine AOs.nil (h := ?_) | (refine d_bin (h := ?_) ; first | refine o_addS (h := ?_) | refine o_add (h := ?_) | refine o_lss (h := ?_) )  | refine o_load (h := ?_) | refine o_at (h := ?_) | refine o_len (h := ?_) | refine o_lenS (h := ?_) | refine o_ixS (h := ?_) | refine o_ix (h := ?_) ) | (refine d_AW (h := ?_) ; first | refine AW.seq (h := ?_) | refine AW.region (h := ?_) | (refine AW.cond (ht := (fun hc => ?_)) (hf := (fun hc => ?_)) <;> (try (with_reducible first | exact absurd hc Bool.false_ne_true | exact absurd hc.symm Bool.false_ne_true)) <;> (try simp only [decide_eq_true_eq, decide_eq_false_iff_not, Int.ofNat_inj, Bool.not_eq_true', Bool.not_eq_false', Int.not_lt, Int.not_le] at hc) <;> (try (exfalso; omega)) <;> (try (exact absurd hc (by decide)))) | refine AW.block (h := ?_) | refine AW.ret (h := ?_) | refine AW.skip (h := ?_) | refine AW.exit (h := ?_) ) | (first | refine t_normal ?_ | refine t_ret ?_ | refine t_exit ?_ | refine b_normal ?_ | refine b_exit ?_ | refine b_exit' (by decide) ?_ | refine b_ret ?_) | (refine d_post (h := ?_) ; first | refine p_ret1 rfl (h := ?_) | refine p_end1 rfl (h := ?_) | refine p_cell1 rfl (h := ?_) ))
  refine AW.loopN [0, 1, 7, 8] (fun k s => ∃ (i : Nat), i + k = n ∧ idxK (fun q => !isAm (d q)) k i = idxK (fun q => !isAm (d q)) n 0 ∧ s = ⟨19, [(0, .slice a n cp), (1, .func (.func 103) #[] #[]), (7, .int .i64 n), (8, .int .i64 i)], M⟩) n ⟨0, by omega, rfl, rfl⟩ ?_
  rintro k s ⟨i, hi, hR, rfl⟩
  by_cases hin : i < n
  · obtain ⟨b1, tg, rw1, rfl, hb⟩ := hS (by omega)
    obtain ⟨k', rfl⟩ : ∃ k', k = k' + 1 := ⟨k - 1, by omega⟩
    simp only [idxK] at hR
    have hF := fun M' => iareAm1 (d i) M'
    cases h1 : isAm (d i)
    · rw [h1] at hF
      simp only [h1, Bool.not_false, if_true] at hR
      repeat' (first | (refine d_AOs (h := ?_) ; first | refine o_move (h := ?_) | refine o_assign (h := ?_) | refine AOs.nil (h := ?_) | (refine d_bin (h := ?_) ; first | refine o_addS (h := ?_) | refine o_add (h := ?_) | refine o_lss (h := ?_) )  | refine o_callVP (hc := (hF _)) (h := ?_) | refine o_load (h := ?_) | refine o_at (h := ?_) | refine o_len (h := ?_) | refine o_lenS (h := ?_) | refine o_ixS (h := ?_) | refine o_ix (h := ?_) ) | (refine d_AW (h := ?_) ; first | refine AW.seq (h := ?_) | refine AW.region (h := ?_) | (refine AW.cond (ht := (fun hc => ?_)) (hf := (fun hc => ?_)) <;> (try (with_reducible first | exact absurd hc Bool.false_ne_true | exact absurd hc.symm Bool.false_ne_true)) <;> (try simp only [decide_eq_true_eq, decide_eq_false_iff_not, Int.ofNat_inj, Bool.not_eq_true', Bool.not_eq_false', Int.not_lt, Int.not_le] at hc) <;> (try (exfalso; omega)) <;> (try (exact absurd hc (by decide)))) | refine AW.block (h := ?_) | refine AW.ret (h := ?_) | refine AW.skip (h := ?_) | refine AW.exit (h := ?_) ) | (first | refine t_normal ?_ | refine t_ret ?_ | refine t_exit ?_ | refine b_normal ?_ | refine b_exit ?_ | refine b_exit' (by decide) ?_ | refine b_ret ?_) | (refine d_post (h := ?_) ; first | refine p_ret1 rfl (h := ?_) | refine p_end1 rfl (h := ?_) | refine p_cell1 rfl (h := ?_) ))
      all_goals first | (rw [← hR]; done) | (rw [← hR]; rfl) | (exfalso; simp at hc; done)
    · rw [h1] at hF
      simp only [h1, Bool.not_true, Bool.false_eq_true, if_false] at hR
      repeat' (first | (refine d_AOs (h := ?_) ; first | refine o_move (h := ?_) | refine o_assign (h := ?_) | refine AOs.nil (h := ?_) | (refine d_bin (h := ?_) ; first | refine o_addS (h := ?_) | refine o_add (h := ?_) | refine o_lss (h := ?_) )  | refine o_callVP (hc := (hF _)) (h := ?_) | refine o_load (h := ?_) | refine o_at (h := ?_) | refine o_len (h := ?_) | refine o_lenS (h := ?_) | refine o_ixS (h := ?_) | refine o_ix (h := ?_) ) | (refine d_AW (h := ?_) ; first | refine AW.seq (h := ?_) | refine AW.region (h := ?_) | (refine AW.cond (ht := (fun hc => ?_)) (hf := (fun hc => ?_)) <;> (try (with_reducible first | exact absurd hc Bool.false_ne_true | exact absurd hc.symm Bool.false_ne_true)) <;> (try simp only [decide_eq_true_eq, decide_eq_false_iff_not, Int.ofNat_inj, Bool.not_eq_true', Bool.not_eq_false', Int.not_lt, Int.not_le] at hc) <;> (try (exfalso; omega)) <;> (try (exact absurd hc (by decide)))) | refine AW.block (h := ?_) | refine AW.ret (h := ?_) | refine AW.skip (h := ?_) | refine AW.exit (h := ?_) ) | (first | refine t_normal ?_ | refine t_ret ?_ | refine t_exit ?_ | refine b_normal ?_ | refine b_exit ?_ | refine b_exit' (by decide) ?_ | refine b_ret ?_) | (refine d_post (h := ?_) ; first | refine p_ret1 rfl (h := ?_) | refine p_end1 rfl (h := ?_) | refine p_cell1 rfl (h := ?_) ))
      all_goals first | exact ⟨k', by omega, i + 1, by omega, hR, rfl⟩ | (exfalso; simp at hc; done)
  · repeat' (first | (refine d_AOs (h := ?_) ; first | refine o_move (h := ?_) | refine o_assign (h := ?_) | refine AOs.nil (h := ?_) | (refine d_bin (h := ?_) ; first | refine o_addS (h := ?_) | refine o_add (h := ?_) | refine o_lss (h := ?_) )  | refine o_load (h := ?_) | refine o_at (h := ?_) | refine o_len (h := ?_) | refine o_lenS (h := ?_) | refine o_ixS (h := ?_) | refine o_ix (h := ?_) ) | (refine d_AW (h := ?_) ; first | refine AW.seq (h := ?_) | refine AW.region (h := ?_) | (refine AW.cond (ht := (fun hc => ?_)) (hf := (fun hc => ?_)) <;> (try (with_reducible first | exact absurd hc Bool.false_ne_true | exact absurd hc.symm Bool.false_ne_true)) <;> (try simp only [decide_eq_true_eq, decide_eq_false_iff_not, Int.ofNat_inj, Bool.not_eq_true', Bool.not_eq_false', Int.not_lt, Int.not_le] at hc) <;> (try (exfalso; omega)) <;> (try (exact absurd hc (by decide)))) | refine AW.block (h := ?_) | refine AW.ret (h := ?_) | refine AW.skip (h := ?_) | refine AW.exit (h := ?_) ) | (first | refine t_normal ?_ | refine t_ret ?_ | refine t_exit ?_ | refine b_normal ?_ | refine b_exit ?_ | refine b_exit' (by decide) ?_ | refine b_ret ?_) | (refine d_post (h := ?_) ; first | refine p_ret1 rfl (h := ?_) | refine p_end1 rfl (h := ?_) | refine p_cell1 rfl (h := ?_) ))
    obtain rfl : k = 0 := by omega
    rw [← hR]; rfl
theorem iContainsAm : Pure Try.prog 81 [.slice a n cp, .func (.func 103) #[] #[]] M (.bool (decide (0 ≤ idxK (fun q => !isAm (d q)) n 0))) := by
  refine pure_of Try.func81 Try.ntmps81 rfl rfl (by repeat' (first | exact Flat.bool _ | exact Flat.int _ _ | exact Flat.float _ _ | exact Flat.string _ | exact flat_nil | exact flat_tabL (fun _ => Flat.bool _) | exact flat_tabL (fun _ => Flat.int _ _) | exact flat_tabL (fun _ => Flat.float _ _) | refine flat_tuple ?_ | refine flat_agg ?_ | refine flat_cons ?_ ?_ | refine flat_append ?_ ?_)) ?_
  simp only [envOf, Nat.zero_add, Nat.reduceAdd]
  repeat' (first | (refine d_AOs (h := ?_) ; first | refine o_move (h := ?_) | refine o_assign (h := ?_) | refine AOs.nil (h := ?_) | (refine d_bin (h := ?_) ; first | refine o_geq (h := ?_) )  | refine o_call (hc := (iIndexAm a n cp d _ hn hS)) (h := ?_) | refine o_at (h := ?_) ) | (refine d_AW (h := ?_) ; first | refine AW.seq (h := ?_) | refine AW.region (h := ?_) | (refine AW.cond (ht := (fun hc => ?_)) (hf := (fun hc => ?_)) <;> (try (with_reducible first | exact absurd hc Bool.false_ne_true | exact absurd hc.symm Bool.false_ne_true)) <;> (try simp only [decide_eq_true_eq, decide_eq_false_iff_not, Int.ofNat_inj, Bool.not_eq_true', Bool.not_eq_false', Int.not_lt, Int.not_le] at hc) <;> (try (exfalso; omega)) <;> (try (exact absurd hc (by decide)))) | refine AW.block (h := ?_) | refine AW.ret (h := ?_) | refine AW.skip (h := ?_) | refine AW.exit (h := ?_) ) | (first | refine t_normal ?_ | refine t_ret ?_ | refine t_exit ?_ | refine b_normal ?_ | refine b_exit ?_ | refine b_exit' (by decide) ?_ | refine b_ret ?_) | (refine d_post (h := ?_) ; first | refine p_ret1 rfl (h := ?_) | refine p_end1 rfl (h := ?_) | refine p_cell1 rfl (h := ?_) ))
  all_goals rfl
def amsK (d : Nat → Nat) (n : Nat) : Bool := okK (fun i => isAm (d i)) n 0
omit hn hS in
theorem ams_all {d : Nat → Nat} {n : Nat} : amsK d n = true ↔ ∀ q, q < n → isAm (d q) = true := by
  unfold amsK
  rw [okK_all]
  exact ⟨fun h q hq => h q (by omega) (by omega), fun h q _ hq => h q (by omega)⟩
omit hn hS in
theorem ams_idx {d : Nat → Nat} {n : Nat} : (!decide (0 ≤ idxK (fun q => !isAm (d q)) n 0)) = amsK d n := by
  cases h : amsK d n
  · have : 0 ≤ idxK (fun q => !isAm (d q)) n 0 := by
      rw [idxK_pos]
      refine Classical.byContradiction fun hn => ?_
      have := (ams_all (d := d) (n := n)).2 fun q hq => by
        cases h2 : isAm (d q)
        · exact (hn ⟨q, by omega, by omega, by rw [h2]; rfl⟩).elim
        · rfl
      rw [this] at h; cases h
    rw [decide_eq_true this]; rfl
  · have : ¬ 0 ≤ idxK (fun q => !isAm (d q)) n 0 := fun h0 => by
      obtain ⟨q, _, h2, h3⟩ := (idxK_pos _ _).1 h0
      rw [ams_all.1 h q (by omega)] at h3; cases h3
    rw [decide_eq_false this]; rfl
theorem iareAmounts : Pure Try.prog 55 [.slice a n cp] M (.bool (amsK d n)) := by
  refine pure_of Try.func55 Try.ntmps55 rfl rfl (by repeat' (first | exact Flat.bool _ | exact Flat.int _ _ | exact Flat.float _ _ | exact Flat.string _ | exact flat_nil | exact flat_tabL (fun _ => Flat.bool _) | exact flat_tabL (fun _ => Flat.int _ _) | exact flat_tabL (fun _ => Flat.float _ _) | refine flat_tuple ?_ | refine flat_agg ?_ | refine flat_cons ?_ ?_ | refine flat_append ?_ ?_)) ?_
  rw [← ams_idx]
  simp only [envOf, Nat.zero_add, Nat.reduceAdd]
  repeat' (first | (refine d_AOs (h := ?_) ; first | refine o_move (h := ?_) | refine o_assign (h := ?_) | refine AOs.nil (h := ?_)  | refine o_call (hc := (iContainsAm a n cp d _ hn hS)) (h := ?_) | refine o_at (h := ?_) | refine o_not (h := ?_) ) | (refine d_AW (h := ?_) ; first | refine AW.seq (h := ?_) | refine AW.region (h := ?_) | (refine AW.cond (ht := (fun hc => ?_)) (hf := (fun hc => ?_)) <;> (try (with_reducible first | exact absurd hc Bool.false_ne_true | exact absurd hc.symm Bool.false_ne_true)) <;> (try simp only [decide_eq_true_eq, decide_eq_false_iff_not, Int.ofNat_inj, Bool.not_eq_true', Bool.not_eq_false', Int.not_lt, Int.not_le] at hc) <;> (try (exfalso; omega)) <;> (try (exact absurd hc (by decide)))) | refine AW.block (h := ?_) | refine AW.ret (h := ?_) | refine AW.skip (h := ?_) | refine AW.exit (h := ?_) ) | (first | refine t_normal ?_ | refine t_ret ?_ | refine t_exit ?_ | refine b_normal ?_ | refine b_exit ?_ | refine b_exit' (by decide) ?_ | refine b_ret ?_) | (refine d_post (h := ?_) ; first | refine p_ret1 rfl (h := ?_) | refine p_end1 rfl (h := ?_) | refine p_cell1 rfl (h := ?_) ))
  all_goals rfl
end
end Go.Proofs.Ytpffdjleonkdoaa
