/- The phase of a light. -/
import Derived.Test.YtepmlgabadegfaaPl2
namespace Go.Proofs.Ytepmlgabadegfaa
open Go.RowKit
attribute [local irreducible] AW AOs AO AQ AQW thenA inBlockA postA ACalls Pure
set_option linter.unusedSimpArgs false
set_option linter.unusedVariables false
set_option linter.unusedSectionVars false

theorem iisPlace (x m : Int) (M : Mem) (hm : -9223372036854775807 ≤ m ∧ m ≤ 9223372036854775807) : Pure Try.prog 45 [.int .i64 x, .int .i64 m] M (.bool (decide (0 ≤ x ∧ x ≤ m - 1))) := by
  refine pure_of Try.func45 Try.ntmps45 rfl rfl (by repeat' (first | exact Flat.bool _ | exact Flat.int _ _ | exact Flat.float _ _ | exact Flat.string _ | exact flat_nil | exact flat_tabL (fun _ => Flat.bool _) | exact flat_tabL (fun _ => Flat.int _ _) | exact flat_tabL (fun _ => Flat.float _ _) | refine flat_tuple ?_ | refine flat_agg ?_ | refine flat_cons ?_ ?_ | refine flat_append ?_ ?_)) ?_
  simp only [envOf, Nat.zero_add, Nat.reduceAdd]
  repeat' (first | (refine d_AOs (h := ?_) ; first | refine o_move (h := ?_) | refine o_assign (h := ?_) | refine AOs.nil (h := ?_) | (refine d_bin (h := ?_) ; first | refine o_subS (h := ?_) | refine o_sub (h := ?_) )  | refine o_call (hc := (iinRange _ _ _ _)) (h := ?_) | refine o_at (h := ?_) ) | (refine d_AW (h := ?_) ; first | refine AW.seq (h := ?_) | refine AW.region (h := ?_) | (refine AW.cond (ht := (fun hc => ?_)) (hf := (fun hc => ?_)) <;> (try (with_reducible first | exact absurd hc Bool.false_ne_true | exact absurd hc.symm Bool.false_ne_true)) <;> (try simp only [decide_eq_true_eq, decide_eq_false_iff_not, Int.ofNat_inj, Bool.not_eq_true', Bool.not_eq_false', Int.not_lt, Int.not_le] at hc) <;> (try (exfalso; omega)) <;> (try (exact absurd hc (by decide)))) | refine AW.block (h := ?_) | refine AW.ret (h := ?_) | refine AW.skip (h := ?_) | refine AW.exit (h := ?_) ) | (first | refine t_normal ?_ | refine t_ret ?_ | refine t_exit ?_ | refine b_normal ?_ | refine b_exit ?_ | refine b_exit' (by decide) ?_ | refine b_ret ?_) | (refine d_post (h := ?_) ; first | refine p_ret1 rfl (h := ?_) | refine p_end1 rfl (h := ?_) | refine p_cell1 rfl (h := ?_) ))
  all_goals rfl
def lightP (n : Nat) (b : Int) (sl si : Int) (red : Bool) : Prop := (0 ≤ sl ∧ sl < n) ∧ (0 ≤ si ∧ si ≤ 1000000) ∧ ¬ (red = true ∧ b = 0)
instance (n : Nat) (b : Int) (sl si : Int) (red : Bool) : Decidable (lightP n b sl si red) := by unfold lightP; infer_instance
def lphV (n : Nat) (b o : Int) (G : Nat → Nat → Bool) (T : Nat → Int) (sl si : Int) (red : Bool) : Value :=
  if planP n T b o ∧ lightP n b sl si red then (if red then .tuple [.agg (bools 8 fun _ => false).toArray, .int .i64 0].toArray else .tuple [.agg (bools 8 (G sl.toNat)).toArray, .int .i64 0].toArray)
  else .tuple [.agg (bools 8 fun _ => false).toArray, .int .i64 1].toArray
theorem lphV_eq (n : Nat) (b o : Int) (G : Nat → Nat → Bool) (T : Nat → Int) (sl si : Int) (red : Bool) : ∃ p y, lphV n b o G T sl si red = .tuple [.agg (bools 8 p).toArray, .int .i64 y].toArray := by
  unfold lphV
  split
  · split <;> exact ⟨_, _, rfl⟩
  · exact ⟨_, _, rfl⟩
theorem flat_lphV (n : Nat) (b o : Int) (G : Nat → Nat → Bool) (T : Nat → Int) (sl si : Int) (red : Bool) : Flat (lphV n b o G T sl si red) := by
  obtain ⟨p, y, e⟩ := lphV_eq n b o G T sl si red
  rw [e]; exact (by repeat' (first | exact Flat.bool _ | exact Flat.int _ _ | exact Flat.float _ _ | exact Flat.string _ | exact flat_nil | exact flat_tabL (fun _ => Flat.bool _) | exact flat_tabL (fun _ => Flat.int _ _) | exact flat_tabL (fun _ => Flat.float _ _) | refine flat_tuple ?_ | refine flat_agg ?_ | refine flat_cons ?_ ?_ | refine flat_append ?_ ?_))
end Go.Proofs.Ytepmlgabadegfaa
