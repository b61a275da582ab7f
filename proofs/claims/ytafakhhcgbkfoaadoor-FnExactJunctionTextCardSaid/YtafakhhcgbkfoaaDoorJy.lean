/- The law of texts of junctions. -/
import Derived.Test.YtafakhhcgbkfoaaDoorJx
import Derived.Test.YtafakhhcgbkfoaaDoorJc
namespace Go.Proofs.YtafakhhcgbkfoaaDoor
open Go.RowKit
attribute [local irreducible] AW AOs AO AQ AQW thenA inBlockA postA ACalls Pure
set_option linter.unusedSimpArgs false
set_option linter.unusedVariables false
set_option linter.unusedSectionVars false

set_option maxHeartbeats 4000000 in
theorem wJunctionText (ins outs : Int) (h : Nat → Nat) (M : Mem) : Pure Tryd.prog 4 [jnV ins outs h] M (.bool true) := by
  refine pure_of Tryd.func4 Tryd.ntmps4 rfl rfl (by repeat' (first | exact Flat.bool _ | exact Flat.int _ _ | exact Flat.float _ _ | exact Flat.string _ | exact flat_nil | exact flat_tabL (fun _ => Flat.bool _) | exact flat_tabL (fun _ => Flat.int _ _) | exact flat_tabL (fun _ => Flat.float _ _) | refine flat_tuple ?_ | refine flat_agg ?_ | refine flat_cons ?_ ?_ | refine flat_append ?_ ?_)) ?_
  have hs := fun M' => sJunctionText ins outs h M'
  have hi := fun M' => iJunctionText ins outs h M'
  have hT := fun M' => ltoJunction ins outs h M'
  generalize jnX ins outs h = x at *
  simp only [envOf, Nat.zero_add, Nat.reduceAdd]
  repeat' (first | (refine d_AOs (h := ?_) ; first | refine o_move (h := ?_) | refine o_assign (h := ?_) | refine AOs.nil (h := ?_) | (refine d_bin (h := ?_) ; first | refine o_sneS (h := ?_) | refine o_neB (h := ?_) | refine o_nei (h := ?_) )  | refine o_call (hc := (hT _)) (h := ?_) | refine o_call (hc := (hs _)) (h := ?_) | refine o_call (hc := (hi _)) (h := ?_) | refine o_load (h := ?_) | refine o_at (h := ?_) | refine o_box (h := ?_) ) | (refine d_AW (h := ?_) ; first | refine AW.seq (h := ?_) | refine AW.region (h := ?_) | (refine AW.cond (ht := (fun hc => ?_)) (hf := (fun hc => ?_)) <;> (try (with_reducible first | exact absurd hc Bool.false_ne_true | exact absurd hc.symm Bool.false_ne_true)) <;> (try simp only [decide_eq_true_eq, decide_eq_false_iff_not, Int.ofNat_inj, Bool.not_eq_true', Bool.not_eq_false', Int.not_lt, Int.not_le] at hc) <;> (try (exfalso; omega)) <;> (try (exact absurd hc (by decide)))) | refine AW.block (h := ?_) | refine AW.ret (h := ?_) | refine AW.skip (h := ?_) | refine AW.exit (h := ?_) ) | (first | refine t_normal ?_ | refine t_ret ?_ | refine t_exit ?_ | refine b_normal ?_ | refine b_exit ?_ | refine b_exit' (by decide) ?_ | refine b_ret ?_) | (refine d_post (h := ?_) ; first | refine p_ret1 rfl (h := ?_) | refine p_end1 rfl (h := ?_) | refine p_cell1 rfl (h := ?_) ))
  all_goals first | rfl | (simp at hc; done)
theorem jn_leaves {c : List Value} (h : Leaves (([.int .i64, .int .i64] : List Leaf) ++ List.replicate 16 (.float .f32 : Leaf) ++ List.replicate 4 (.float .f32 : Leaf)) c) : ∃ (ins outs : Int) (h : Nat → Nat), c.map canon = tab 22 (jnJ ins outs h) := by
  obtain ⟨c1, c2, rfl, h1, h2⟩ := Leaves.split h
  obtain ⟨c3, c4, rfl, h3, h4⟩ := Leaves.split h1
  obtain ⟨a, b, rfl⟩ := two_ints h3
  obtain ⟨z, rfl, _⟩ := leaf_floats h4
  obtain ⟨y, rfl, _⟩ := leaf_floats h2
  exact ⟨a, b, fun q => if q < 18 then cf .f32 (z (q - 2)) else cf .f32 (y (q - 18)), rfl⟩
end Go.Proofs.YtafakhhcgbkfoaaDoor
