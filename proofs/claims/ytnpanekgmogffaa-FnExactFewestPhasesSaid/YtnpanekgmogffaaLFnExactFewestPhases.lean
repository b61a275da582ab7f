/- FnExactFewestPhases: for every input the law answers true, and its arguments read as they did. Conditions: none. -/
import Derived.Test.YtnpanekgmogffaaRows
import Derived.Test.YtnpanekgmogffaaArgs
import Derived.Test.YtnpanekgmogffaaFwW
namespace Go.Proofs.Ytnpanekgmogffaa.fnExactFewestPhases
open Go.RowKit Go.ChangeShapes Go.WideShapes Go.ChangeAt Go.Proofs.Ytnpanekgmogffaa
set_option linter.unusedVariables false
set_option linter.unusedSimpArgs false

theorem own : ownKnob Try.prog.godebug = none := by kernel_rfl
theorem laidOut : laidOutB Try.prog = true := by kernel_rfl

/-- The walk: the law's function only reckons, and answers true. -/
theorem walk (c0 : List Value) (h0 : Leaves (List.replicate 64 (.bool : Leaf)) c0) (c1 : List Value) (h1 : Leaves (List.replicate 8 (.bool : Leaf)) c1) : Pure Try.prog 6 [.agg (c0.map canon).toArray, .agg (c1.map canon).toArray] [] (.bool true) := by
  obtain ⟨c, rfl⟩ := leaf_bools h0
  obtain ⟨p, rfl⟩ := leaf_bools h1
  rw [tab_map, tab_map]
  exact wFewestPhases c p []



set_option maxRecDepth 100000 in
theorem lifted (os : Os) (started : os.Started) (H : Type) (enc : TypeId × Value → H) :
    ReturnsInHanded {} Try.checked os 6 .any (Rows.fnExactFewestPhasesSpec.pre6 enc Try.prog Try.f6 Rows.fnExactFewestPhasesRow.domain false) (Rows.fnExactFewestPhasesSpec.post enc Try.prog Try.f6 false true false false) := by
  refine returnsInHanded_of_change (C := Try.checked) own started (by kernel_rfl) Try.func6
    (ChangeSpec.witness6 (enc := enc) (C := Try.checked) false ⟨#[], #[.agg #[.bool false, .bool false, .bool false, .bool false, .bool false, .bool false, .bool false, .bool false, .bool false, .bool false, .bool false, .bool false, .bool false, .bool false, .bool false, .bool false, .bool false, .bool false, .bool false, .bool false, .bool false, .bool false, .bool false, .bool false, .bool false, .bool false, .bool false, .bool false, .bool false, .bool false, .bool false, .bool false, .bool false, .bool false, .bool false, .bool false, .bool false, .bool false, .bool false, .bool false, .bool false, .bool false, .bool false, .bool false, .bool false, .bool false, .bool false, .bool false, .bool false, .bool false, .bool false, .bool false, .bool false, .bool false, .bool false, .bool false, .bool false, .bool false, .bool false, .bool false, .bool false, .bool false, .bool false, .bool false], .agg #[.bool false, .bool false, .bool false, .bool false, .bool false, .bool false, .bool false, .bool false]], []⟩ 8 (by kernel_rfl) (by kernel_rfl) (by kernel_rfl) (by kernel_rfl)) ?_
  intro W base args ds gs before hval0 hW hcnd _
  have hval : ∀ (j : Nat) t v, Try.f6.params[j]? = some t → args[j]? = some v → Value.okWide Try.prog W .any base t v := hval0
  have hW' := hW
  obtain ⟨p, q, hA0, hV, rfl, hfz, hnd⟩ := hW
  have hA : DataW.TrodAll enc Try.prog W 0 (fun _ => true) true Try.f6.params.toList args.toList ds p := hA0
  rw [Try.params6] at hA hval
  obtain ⟨v0, vs0, d0, ds0, p0, q0, hargs, rfl, rfl, k0, r0⟩ := trodAll_cons hA
  obtain ⟨v1, vs1, d1, ds1, p1, q1, rfl, rfl, rfl, k1, r1⟩ := trodAll_cons r0
  obtain ⟨rfl, rfl, rfl⟩ := trodAll_nil r1
  obtain rfl : args = #[v0, v1] := by cases args; simp_all
  obtain ⟨rfl, rfl⟩ := trodVars_none hV
  have lt0 : ∀ x ∈ p0, x.block < W.heap.size := by obtain ⟨m, hm⟩ := k0; exact DataW.trod_lt m _ _ _ hm
  have g0 := k0
  have lt1 : ∀ x ∈ p1, x.block < W.heap.size := by obtain ⟨m, hm⟩ := k1; exact DataW.trod_lt m _ _ _ hm
  have g1 := k1
  obtain ⟨c0, rfl, hc0⟩ := open_flat (ls := List.replicate 64 (.bool : Leaf)) (fs := #[]) (.inr Try.underlying52) (hval 0 52 v0 rfl rfl) k0
  obtain ⟨c1, rfl, hc1⟩ := open_flat (ls := List.replicate 8 (.bool : Leaf)) (fs := #[]) (.inr Try.underlying27) (hval 1 27 v1 rfl rfl) k1
  clear hA0 hval0
  refine (law_calls (walk c0 hc0 c1 hc1) (VRs.cons (VR_canon _ hc0) (VRs.cons (VR_canon _ hc1) (VRs.nil _)))).mono fun e W' ⟨hee, bel⟩ => ?_
  subst hee
  exact ⟨_, rfl, _, _, _, [], _, [], hW', trodAll_mk1 (shut_bool Try.underlying4 _), (trodAll_cons_mk (Below.trod laidOut (by kernel_rfl) (of_decide_eq_true (by kernel_rfl)) g0 bel lt0) (trodAll_cons_mk (Below.trod laidOut (by kernel_rfl) (of_decide_eq_true (by kernel_rfl)) g1 bel lt1) trodAll_mk0)), rfl, bel.frame _, fun h => by cases h⟩


theorem over : Rows.fnExactFewestPhasesRow.holds Try.pinned (OpenSpec.ofChange Rows.fnExactFewestPhasesSpec) :=
  OpenClaim.holds_of_wide 6 Try.f6 rfl rfl rfl rfl rfl rfl rfl ⟨rfl, rfl, rfl, rfl, rfl⟩ rfl rfl rfl rfl rfl (by kernel_rfl) Try.func6 (by kernel_rfl)
    (of_decide_eq_true (by kernel_rfl)) (by unfold Func.isWrapper; first | (rw [if_pos (by decide +kernel)]; kernel_rfl) | (rw [if_neg (by decide +kernel)]; exact ⟨rfl, rfl⟩))
    (fun os started H enc _ => lifted os started H enc)
end Go.Proofs.Ytnpanekgmogffaa.fnExactFewestPhases
namespace Go.Proofs.Ytnpanekgmogffaa
/-- The statement. -/
theorem provedFnExactFewestPhases : Rows.FnExactFewestPhasesSaid := fnExactFewestPhases.over
#print axioms provedFnExactFewestPhases
end Go.Proofs.Ytnpanekgmogffaa
