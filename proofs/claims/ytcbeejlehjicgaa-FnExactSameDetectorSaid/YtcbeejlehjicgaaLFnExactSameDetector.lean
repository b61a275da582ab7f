/- FnExactSameDetector: for every input the law answers true, and its arguments read as they did. Conditions: none. -/
import Derived.Test.YtcbeejlehjicgaaRows
import Derived.Test.YtcbeejlehjicgaaB3
namespace Go.Proofs.Ytcbeejlehjicgaa.fnExactSameDetector
open Go.RowKit Go.ChangeShapes Go.WideShapes Go.ChangeAt Go.Proofs.Ytcbeejlehjicgaa
set_option linter.unusedVariables false
set_option linter.unusedSimpArgs false

theorem own : ownKnob Try.prog.godebug = none := by kernel_rfl
theorem laidOut : laidOutB Try.prog = true := by kernel_rfl

/-- The walk: the law's function only reckons, and answers true. -/
theorem walk (c0 : List Value) (h0 : Leaves ([.int .i64, .float .f32, .int .i16, .float .f32, .int .i64]) c0) (c1 : List Value) (h1 : Leaves ([.int .i64, .float .f32, .int .i16, .float .f32, .int .i64]) c1) : Pure Try.prog 6 [.agg (c0.map canon).toArray, .agg (c1.map canon).toArray] [] (.bool true) := by
  obtain ⟨_, _, rfl, ⟨c, rfl, _⟩, g00⟩ := h0.cons
  obtain ⟨_, _, rfl, ⟨a, rfl, _⟩, g01⟩ := g00.cons
  obtain ⟨_, _, rfl, ⟨n, rfl, _⟩, g02⟩ := g01.cons
  obtain ⟨_, _, rfl, ⟨f, rfl, _⟩, g03⟩ := g02.cons
  obtain ⟨_, _, rfl, ⟨t, rfl, _⟩, g04⟩ := g03.cons
  obtain rfl := g04.nil
  obtain ⟨_, _, rfl, ⟨c', rfl, _⟩, g10⟩ := h1.cons
  obtain ⟨_, _, rfl, ⟨a', rfl, _⟩, g11⟩ := g10.cons
  obtain ⟨_, _, rfl, ⟨n', rfl, _⟩, g12⟩ := g11.cons
  obtain ⟨_, _, rfl, ⟨f', rfl, _⟩, g13⟩ := g12.cons
  obtain ⟨_, _, rfl, ⟨t', rfl, _⟩, g14⟩ := g13.cons
  obtain rfl := g14.nil
  exact wSameDetector c (cf .f32 a) n (cf .f32 f) t c' (cf .f32 a') n' (cf .f32 f') t' []



set_option maxRecDepth 100000 in
theorem lifted (os : Os) (started : os.Started) (H : Type) (enc : TypeId × Value → H) :
    ReturnsInHanded {} Try.checked os 6 .any (Rows.fnExactSameDetectorSpec.pre6 enc Try.prog Try.f6 Rows.fnExactSameDetectorRow.domain false) (Rows.fnExactSameDetectorSpec.post enc Try.prog Try.f6 false true false false) := by
  refine returnsInHanded_of_change (C := Try.checked) own started (by kernel_rfl) Try.func6
    (ChangeSpec.witness6 (enc := enc) (C := Try.checked) false ⟨#[], #[.agg #[.int .i64 0, .float .f32 0, .int .i16 0, .float .f32 0, .int .i64 0], .agg #[.int .i64 0, .float .f32 0, .int .i16 0, .float .f32 0, .int .i64 0]], []⟩ 8 (by kernel_rfl) (by kernel_rfl) (by kernel_rfl) (by kernel_rfl)) ?_
  intro W base args ds gs before hval0 hW hcnd _
  have hval : ∀ (j : Nat) t v, Try.f6.params[j]? = some t → args[j]? = some v → Value.okWide Try.prog W .any base t v := hval0
  have hW' := hW
  obtain ⟨p, q, hA0, hV, rfl, hfz, hnd⟩ := hW
  have hA : DataW.TrodAll enc Try.prog W 0 (fun _ => true) true Try.f6.params.toList args.toList ds p := hA0
  rw [Try.params6] at hA hval
  obtain ⟨v0, vs0, d0, ds0, p0, q0, hargs, rfl, rfl, k0, r0⟩ := trodAll_cons hA
  obtain ⟨v1, vs1, d1, ds1, p1, q1, rfl, rfl, rfl, k1, r1⟩ := trodAll_cons r0
  obtain ⟨rfl, rfl, rfl⟩ := trodAll_nil r1
  obtain rfl : args = #[v0, v1] := by cases args; simp_all
  obtain ⟨rfl, rfl⟩ := trodVars_none hV
  have lt0 : ∀ x ∈ p0, x.block < W.heap.size := by obtain ⟨m, hm⟩ := k0; exact DataW.trod_lt m _ _ _ hm
  have g0 := k0
  have lt1 : ∀ x ∈ p1, x.block < W.heap.size := by obtain ⟨m, hm⟩ := k1; exact DataW.trod_lt m _ _ _ hm
  have g1 := k1
  obtain ⟨c0, rfl, hc0⟩ := open_flat (ls := [.int .i64, .float .f32, .int .i16, .float .f32, .int .i64]) (n := 0) (e := 0) (.inl Try.underlying35) (hval 0 35 v0 rfl rfl) k0
  obtain ⟨c1, rfl, hc1⟩ := open_flat (ls := [.int .i64, .float .f32, .int .i16, .float .f32, .int .i64]) (n := 0) (e := 0) (.inl Try.underlying35) (hval 1 35 v1 rfl rfl) k1
  clear hA0 hval0
  refine (law_calls (walk c0 hc0 c1 hc1) (VRs.cons (VR_canon _ hc0) (VRs.cons (VR_canon _ hc1) (VRs.nil _)))).mono fun e W' ⟨he, bel⟩ => ?_
  subst he
  exact ⟨_, rfl, _, _, _, [], _, [], hW', trodAll_mk1 (shut_bool Try.underlying4 _), (trodAll_cons_mk (Below.trod laidOut (by kernel_rfl) (of_decide_eq_true (by kernel_rfl)) g0 bel lt0) (trodAll_cons_mk (Below.trod laidOut (by kernel_rfl) (of_decide_eq_true (by kernel_rfl)) g1 bel lt1) trodAll_mk0)), rfl, bel.frame _, fun h => by cases h⟩


theorem over : Rows.fnExactSameDetectorRow.holds Try.pinned (OpenSpec.ofChange Rows.fnExactSameDetectorSpec) :=
  OpenClaim.holds_of_wide 6 Try.f6 rfl rfl rfl rfl rfl rfl rfl ⟨rfl, rfl, rfl, rfl, rfl⟩ rfl rfl rfl rfl rfl (by kernel_rfl) Try.func6 (by kernel_rfl)
    (of_decide_eq_true (by kernel_rfl)) (by unfold Func.isWrapper; first | (rw [if_pos (by decide +kernel)]; kernel_rfl) | (rw [if_neg (by decide +kernel)]; exact ⟨rfl, rfl⟩))
    (fun os started H enc _ => lifted os started H enc)
end Go.Proofs.Ytcbeejlehjicgaa.fnExactSameDetector
namespace Go.Proofs.Ytcbeejlehjicgaa
/-- The statement. -/
theorem provedFnExactSameDetector : Rows.FnExactSameDetectorSaid := fnExactSameDetector.over
#print axioms provedFnExactSameDetector
end Go.Proofs.Ytcbeejlehjicgaa
