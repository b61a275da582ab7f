/- FnExactPlaceDetector: for every input the law answers true, and its arguments read as they did. Conditions: none. -/
import Derived.Test.YtcbeejlehjicgaaRows
import Derived.Test.YtcbeejlehjicgaaB3
namespace Go.Proofs.Ytcbeejlehjicgaa.fnExactPlaceDetector
open Go.RowKit Go.ChangeShapes Go.WideShapes Go.ChangeAt Go.Proofs.Ytcbeejlehjicgaa
set_option linter.unusedVariables false
set_option linter.unusedSimpArgs false

theorem own : ownKnob Try.prog.godebug = none := by kernel_rfl
theorem laidOut : laidOutB Try.prog = true := by kernel_rfl

/-- The walk: the law's function only reckons, and answers true. -/
theorem walk (a0 : Int) (h0 : (Lit.int .i64 a0).wf = true) : Pure Try.prog 9 [.int .i64 a0] [] (.bool true) := by
  exact wPlaceDetector a0 []



set_option maxRecDepth 100000 in
theorem lifted (os : Os) (started : os.Started) (H : Type) (enc : TypeId × Value → H) :
    ReturnsInHanded {} Try.checked os 9 .any (Rows.fnExactPlaceDetectorSpec.pre6 enc Try.prog Try.f9 Rows.fnExactPlaceDetectorRow.domain false) (Rows.fnExactPlaceDetectorSpec.post enc Try.prog Try.f9 false true false false) := by
  refine returnsInHanded_of_change (C := Try.checked) own started (by kernel_rfl) Try.func9
    (ChangeSpec.witness6 (enc := enc) (C := Try.checked) false ⟨#[], #[.int .i64 0], []⟩ 8 (by kernel_rfl) (by kernel_rfl) (by kernel_rfl) (by kernel_rfl)) ?_
  intro W base args ds gs before hval0 hW hcnd _
  have hval : ∀ (j : Nat) t v, Try.f9.params[j]? = some t → args[j]? = some v → Value.okWide Try.prog W .any base t v := hval0
  have hW' := hW
  obtain ⟨p, q, hA0, hV, rfl, hfz, hnd⟩ := hW
  have hA : DataW.TrodAll enc Try.prog W 0 (fun _ => true) true Try.f9.params.toList args.toList ds p := hA0
  rw [Try.params9] at hA hval
  obtain ⟨v0, vs0, d0, ds0, p0, q0, hargs, rfl, rfl, k0, r0⟩ := trodAll_cons hA
  obtain ⟨rfl, rfl, rfl⟩ := trodAll_nil r0
  obtain rfl : args = #[v0] := by cases args; simp_all
  obtain ⟨rfl, rfl⟩ := trodVars_none hV
  have lt0 : ∀ x ∈ p0, x.block < W.heap.size := by obtain ⟨m, hm⟩ := k0; exact DataW.trod_lt m _ _ _ hm
  have g0 := k0
  obtain ⟨a0, rfl, rfl, rfl, ha0⟩ := open_int Try.underlying2 (hval 0 2 v0 rfl rfl) k0
  clear hA0 hval0
  refine (law_calls (walk a0 ha0) (VRs.cons (.base rfl) (VRs.nil _))).mono fun e W' ⟨he, bel⟩ => ?_
  subst he
  exact ⟨_, rfl, _, _, _, [], _, [], hW', trodAll_mk1 (shut_bool Try.underlying4 _), (trodAll_cons_mk (Below.trod laidOut (by kernel_rfl) (of_decide_eq_true (by kernel_rfl)) g0 bel lt0) trodAll_mk0), rfl, bel.frame _, fun h => by cases h⟩


theorem over : Rows.fnExactPlaceDetectorRow.holds Try.pinned (OpenSpec.ofChange Rows.fnExactPlaceDetectorSpec) :=
  OpenClaim.holds_of_wide 9 Try.f9 rfl rfl rfl rfl rfl rfl rfl ⟨rfl, rfl, rfl, rfl, rfl⟩ rfl rfl rfl rfl rfl (by kernel_rfl) Try.func9 (by kernel_rfl)
    (of_decide_eq_true (by kernel_rfl)) (by unfold Func.isWrapper; first | (rw [if_pos (by decide +kernel)]; kernel_rfl) | (rw [if_neg (by decide +kernel)]; exact ⟨rfl, rfl⟩))
    (fun os started H enc _ => lifted os started H enc)
end Go.Proofs.Ytcbeejlehjicgaa.fnExactPlaceDetector
namespace Go.Proofs.Ytcbeejlehjicgaa
/-- The statement. -/
theorem provedFnExactPlaceDetector : Rows.FnExactPlaceDetectorSaid := fnExactPlaceDetector.over
#print axioms provedFnExactPlaceDetector
end Go.Proofs.Ytcbeejlehjicgaa
