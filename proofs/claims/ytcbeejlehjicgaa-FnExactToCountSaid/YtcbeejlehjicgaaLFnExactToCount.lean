/- FnExactToCount: for every input the law answers true, and its arguments read as they did. Conditions: none. -/
import Derived.Test.YtcbeejlehjicgaaRows
import Derived.Test.YtcbeejlehjicgaaArgs
import Derived.Test.YtcbeejlehjicgaaB3
namespace Go.Proofs.Ytcbeejlehjicgaa.fnExactToCount
open Go.RowKit Go.ChangeShapes Go.WideShapes Go.ChangeAt Go.Proofs.Ytcbeejlehjicgaa
set_option linter.unusedVariables false
set_option linter.unusedSimpArgs false

theorem own : ownKnob Try.prog.godebug = none := by kernel_rfl
theorem laidOut : laidOutB Try.prog = true := by kernel_rfl

/-- The walk: the law's function only reckons, and answers true. -/
theorem walk (a0 : Nat) (h0 : (Lit.float .f32 a0).wf = true) : Pure Try.prog 10 [.float .f32 (cf .f32 a0)] [] (.bool true) := by
  exact wToCount (cf .f32 a0) []



set_option maxRecDepth 100000 in
theorem lifted (os : Os) (started : os.Started) (H : Type) (enc : TypeId × Value → H) :
    ReturnsInHanded {} Try.checked os 10 .any (Rows.fnExactToCountSpec.pre6 enc Try.prog Try.f10 Rows.fnExactToCountRow.domain false) (Rows.fnExactToCountSpec.post enc Try.prog Try.f10 false true false false) := by
  refine returnsInHanded_of_change (C := Try.checked) own started (by kernel_rfl) Try.func10
    (ChangeSpec.witness6 (enc := enc) (C := Try.checked) false ⟨#[], #[.float .f32 0], []⟩ 8 (by kernel_rfl) (by kernel_rfl) (by kernel_rfl) (by kernel_rfl)) ?_
  intro W base args ds gs before hval0 hW hcnd _
  have hval : ∀ (j : Nat) t v, Try.f10.params[j]? = some t → args[j]? = some v → Value.okWide Try.prog W .any base t v := hval0
  have hW' := hW
  obtain ⟨p, q, hA0, hV, rfl, hfz, hnd⟩ := hW
  have hA : DataW.TrodAll enc Try.prog W 0 (fun _ => true) true Try.f10.params.toList args.toList ds p := hA0
  rw [Try.params10] at hA hval
  obtain ⟨v0, vs0, d0, ds0, p0, q0, hargs, rfl, rfl, k0, r0⟩ := trodAll_cons hA
  obtain ⟨rfl, rfl, rfl⟩ := trodAll_nil r0
  obtain rfl : args = #[v0] := by cases args; simp_all
  obtain ⟨rfl, rfl⟩ := trodVars_none hV
  have lt0 : ∀ x ∈ p0, x.block < W.heap.size := by obtain ⟨m, hm⟩ := k0; exact DataW.trod_lt m _ _ _ hm
  have g0 := k0
  obtain ⟨a0, rfl, ha0⟩ := open_flt Try.underlying32 (hval 0 32 v0 rfl rfl) k0
  clear hA0 hval0
  refine (law_calls (walk a0 ha0) (VRs.cons (.base ⟨_, rfl, rfl, flt_wf ha0⟩) (VRs.nil _))).mono fun e W' ⟨hee, bel⟩ => ?_
  subst hee
  exact ⟨_, rfl, _, _, _, [], _, [], hW', trodAll_mk1 (shut_bool Try.underlying4 _), (trodAll_cons_mk (Below.trod laidOut (by kernel_rfl) (of_decide_eq_true (by kernel_rfl)) g0 bel lt0) trodAll_mk0), rfl, bel.frame _, fun h => by cases h⟩


theorem over : Rows.fnExactToCountRow.holds Try.pinned (OpenSpec.ofChange Rows.fnExactToCountSpec) :=
  OpenClaim.holds_of_wide 10 Try.f10 rfl rfl rfl rfl rfl rfl rfl ⟨rfl, rfl, rfl, rfl, rfl⟩ rfl rfl rfl rfl rfl (by kernel_rfl) Try.func10 (by kernel_rfl)
    (of_decide_eq_true (by kernel_rfl)) (by unfold Func.isWrapper; first | (rw [if_pos (by decide +kernel)]; kernel_rfl) | (rw [if_neg (by decide +kernel)]; exact ⟨rfl, rfl⟩))
    (fun os started H enc _ => lifted os started H enc)
end Go.Proofs.Ytcbeejlehjicgaa.fnExactToCount
namespace Go.Proofs.Ytcbeejlehjicgaa
/-- The statement. -/
theorem provedFnExactToCount : Rows.FnExactToCountSaid := fnExactToCount.over
#print axioms provedFnExactToCount
end Go.Proofs.Ytcbeejlehjicgaa
