/- FnExactCrossTable: for every input the law answers true, and its arguments read as they did. Conditions: none. -/
import Derived.Test.YtbpiidmkjfnejaaRows
import Derived.Test.YtbpiidmkjfnejaaArgs
import Derived.Test.YtbpiidmkjfnejaaCr3
namespace Go.Proofs.Ytbpiidmkjfnejaa.fnExactCrossTable
open Go.RowKit Go.ChangeShapes Go.WideShapes Go.ChangeAt Go.Proofs.Ytbpiidmkjfnejaa
set_option linter.unusedVariables false
set_option linter.unusedSimpArgs false

theorem own : ownKnob Try.prog.godebug = none := by kernel_rfl
theorem laidOut : laidOutB Try.prog = true := by kernel_rfl

/-- The walk: the law's function only reckons, and answers true. -/
theorem walk (c0 : List Value) (h0 : Leaves (List.replicate 8 (.int .i64 : Leaf)) c0) (c1 : List Value) (h1 : Leaves (List.replicate 8 (.int .i64 : Leaf)) c1) (a2 : Int) (h2 : (Lit.int .i64 a2).wf = true) : Pure Try.prog 4 [.agg (c0.map canon).toArray, .agg (c1.map canon).toArray, .int .i64 a2] [] (.bool true) := by
  obtain ⟨f, rfl, _⟩ := leaf_ints h0
  obtain ⟨g, rfl, _⟩ := leaf_ints h1
  exact wCrossTable f g a2 []



set_option maxRecDepth 100000 in
theorem lifted (os : Os) (started : os.Started) (H : Type) (enc : TypeId × Value → H) :
    ReturnsInHanded {} Try.checked os 4 .any (Rows.fnExactCrossTableSpec.pre6 enc Try.prog Try.f4 Rows.fnExactCrossTableRow.domain false) (Rows.fnExactCrossTableSpec.post enc Try.prog Try.f4 false true false false) := by
  refine returnsInHanded_of_change (C := Try.checked) own started (by kernel_rfl) Try.func4
    (ChangeSpec.witness6 (enc := enc) (C := Try.checked) false ⟨#[], #[.agg #[.int .i64 0, .int .i64 0, .int .i64 0, .int .i64 0, .int .i64 0, .int .i64 0, .int .i64 0, .int .i64 0], .agg #[.int .i64 0, .int .i64 0, .int .i64 0, .int .i64 0, .int .i64 0, .int .i64 0, .int .i64 0, .int .i64 0], .int .i64 0], []⟩ 8 (by kernel_rfl) (by kernel_rfl) (by kernel_rfl) (by kernel_rfl)) ?_
  intro W base args ds gs before hval0 hW hcnd _
  have hval : ∀ (j : Nat) t v, Try.f4.params[j]? = some t → args[j]? = some v → Value.okWide Try.prog W .any base t v := hval0
  have hW' := hW
  obtain ⟨p, q, hA0, hV, rfl, hfz, hnd⟩ := hW
  have hA : DataW.TrodAll enc Try.prog W 0 (fun _ => true) true Try.f4.params.toList args.toList ds p := hA0
  rw [Try.params4] at hA hval
  obtain ⟨v0, vs0, d0, ds0, p0, q0, hargs, rfl, rfl, k0, r0⟩ := trodAll_cons hA
  obtain ⟨v1, vs1, d1, ds1, p1, q1, rfl, rfl, rfl, k1, r1⟩ := trodAll_cons r0
  obtain ⟨v2, vs2, d2, ds2, p2, q2, rfl, rfl, rfl, k2, r2⟩ := trodAll_cons r1
  obtain ⟨rfl, rfl, rfl⟩ := trodAll_nil r2
  obtain rfl : args = #[v0, v1, v2] := by cases args; simp_all
  obtain ⟨rfl, rfl⟩ := trodVars_none hV
  have lt0 : ∀ x ∈ p0, x.block < W.heap.size := by obtain ⟨m, hm⟩ := k0; exact DataW.trod_lt m _ _ _ hm
  have g0 := k0
  have lt1 : ∀ x ∈ p1, x.block < W.heap.size := by obtain ⟨m, hm⟩ := k1; exact DataW.trod_lt m _ _ _ hm
  have g1 := k1
  have lt2 : ∀ x ∈ p2, x.block < W.heap.size := by obtain ⟨m, hm⟩ := k2; exact DataW.trod_lt m _ _ _ hm
  have g2 := k2
  obtain ⟨c0, rfl, hc0⟩ := open_flat (ls := List.replicate 8 (.int .i64 : Leaf)) (fs := #[]) (.inr Try.underlying32) (hval 0 32 v0 rfl rfl) k0
  obtain ⟨c1, rfl, hc1⟩ := open_flat (ls := List.replicate 8 (.int .i64 : Leaf)) (fs := #[]) (.inr Try.underlying32) (hval 1 32 v1 rfl rfl) k1
  obtain ⟨a2, rfl, rfl, rfl, ha2⟩ := open_int Try.underlying2 (hval 2 2 v2 rfl rfl) k2
  clear hA0 hval0
  refine (law_calls (walk c0 hc0 c1 hc1 a2 ha2) (VRs.cons (VR_canon _ hc0) (VRs.cons (VR_canon _ hc1) (VRs.cons (.base rfl) (VRs.nil _))))).mono fun e W' ⟨hee, bel⟩ => ?_
  subst hee
  exact ⟨_, rfl, _, _, _, [], _, [], hW', trodAll_mk1 (shut_bool Try.underlying4 _), (trodAll_cons_mk (Below.trod laidOut (by kernel_rfl) (of_decide_eq_true (by kernel_rfl)) g0 bel lt0) (trodAll_cons_mk (Below.trod laidOut (by kernel_rfl) (of_decide_eq_true (by kernel_rfl)) g1 bel lt1) (trodAll_cons_mk (Below.trod laidOut (by kernel_rfl) (of_decide_eq_true (by kernel_rfl)) g2 bel lt2) trodAll_mk0))), rfl, bel.frame _, fun h => by cases h⟩


theorem over : Rows.fnExactCrossTableRow.holds Try.pinned (OpenSpec.ofChange Rows.fnExactCrossTableSpec) :=
  OpenClaim.holds_of_wide 4 Try.f4 rfl rfl rfl rfl rfl rfl rfl ⟨rfl, rfl, rfl, rfl, rfl⟩ rfl rfl rfl rfl rfl (by kernel_rfl) Try.func4 (by kernel_rfl)
    (of_decide_eq_true (by kernel_rfl)) (by unfold Func.isWrapper; first | (rw [if_pos (by decide +kernel)]; kernel_rfl) | (rw [if_neg (by decide +kernel)]; exact ⟨rfl, rfl⟩))
    (fun os started H enc _ => lifted os started H enc)
end Go.Proofs.Ytbpiidmkjfnejaa.fnExactCrossTable
namespace Go.Proofs.Ytbpiidmkjfnejaa
/-- The statement. -/
theorem provedFnExactCrossTable : Rows.FnExactCrossTableSaid := fnExactCrossTable.over
#print axioms provedFnExactCrossTable
end Go.Proofs.Ytbpiidmkjfnejaa
