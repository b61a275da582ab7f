/- FnExactSamePlan: for every input the law answers true, and its arguments read as they did. Conditions: none. -/
import Derived.Test.YtemobghgdaaknaaRows
import Derived.Test.YtemobghgdaaknaaArgs
import Derived.Test.YtemobghgdaaknaaSpW
namespace Go.Proofs.Ytemobghgdaaknaa.fnExactSamePlan
open Go.RowKit Go.ChangeShapes Go.WideShapes Go.ChangeAt Go.Proofs.Ytemobghgdaaknaa
set_option linter.unusedVariables false
set_option linter.unusedSimpArgs false

theorem own : ownKnob Try.prog.godebug = none := by kernel_rfl
theorem laidOut : laidOutB Try.prog = true := by kernel_rfl

/-- The walk: the law's function only reckons, and answers true. -/
theorem walk (a0 : Option Addr) (n0 cp0 : Nat) (F0 : Nat → List Value) (h0 : ∀ i, i < n0 → Leaves (List.replicate 8 (.bool : Leaf) ++ ([.int .i64] : List Leaf)) (F0 i)) (hcp0 : n0 ≤ cp0 ∧ cp0 ≤ maxLen) (c0 : List Value) (g0 : Leaves (([.int .i64, .int .i64] : List Leaf)) c0) (a1 : Option Addr) (n1 cp1 : Nat) (F1 : Nat → List Value) (h1 : ∀ i, i < n1 → Leaves (List.replicate 8 (.bool : Leaf) ++ ([.int .i64] : List Leaf)) (F1 i)) (hcp1 : n1 ≤ cp1 ∧ cp1 ≤ maxLen) (c1 : List Value) (g1 : Leaves (([.int .i64, .int .i64] : List Leaf)) c1) (M : Mem) (hS0 : SlAt M a0 n0 (rows n0 fun i => (F0 i).map canon)) (hS1 : SlAt M a1 n1 (rows n1 fun i => (F1 i).map canon)) : Pure Try.prog 10 [.agg (.slice a0 n0 cp0 :: c0.map canon).toArray, .agg (.slice a1 n1 cp1 :: c1.map canon).toArray] M (.bool true) := by
  obtain ⟨G, T, hR, hT⟩ := slot_rowsW h0
  rw [rows_congr hR] at hS0
  obtain ⟨b, o, rfl⟩ := two_ints g0
  obtain ⟨G', T', hR', hT'⟩ := slot_rowsW h1
  rw [rows_congr hR'] at hS1
  obtain ⟨b', o', rfl⟩ := two_ints g1
  have hm : maxLen ≤ 9223372036854775807 := by decide
  exact wSamePlan a0 a1 n0 n1 cp0 cp1 b o b' o' G G' T T' M (by omega) (by omega) hT hT' hS0 hS1



set_option maxRecDepth 100000 in
theorem lifted (os : Os) (started : os.Started) (H : Type) (enc : TypeId × Value → H) :
    ReturnsInHanded {} Try.checked os 10 .any (Rows.fnExactSamePlanSpec.pre6 enc Try.prog Try.f10 Rows.fnExactSamePlanRow.domain false) (Rows.fnExactSamePlanSpec.post enc Try.prog Try.f10 false true false false) := by
  refine returnsInHanded_of_change (C := Try.checked) own started (by kernel_rfl) Try.func10
    (ChangeSpec.witness6 (enc := enc) (C := Try.checked) false ⟨#[], #[.agg #[.slice none 0 0, .int .i64 0, .int .i64 0], .agg #[.slice none 0 0, .int .i64 0, .int .i64 0]], []⟩ 8 (by kernel_rfl) (by kernel_rfl) (by kernel_rfl) (by kernel_rfl)) ?_
  intro W base args ds gs before hval0 hW hcnd _
  have hval : ∀ (j : Nat) t v, Try.f10.params[j]? = some t → args[j]? = some v → Value.okWide Try.prog W .any base t v := hval0
  have hW' := hW
  obtain ⟨p, q, hA0, hV, rfl, hfz, hnd⟩ := hW
  have hA : DataW.TrodAll enc Try.prog W 0 (fun _ => true) true Try.f10.params.toList args.toList ds p := hA0
  rw [Try.params10] at hA hval
  obtain ⟨v0, vs0, d0, ds0, p0, q0, hargs, rfl, rfl, k0, r0⟩ := trodAll_cons hA
  obtain ⟨v1, vs1, d1, ds1, p1, q1, rfl, rfl, rfl, k1, r1⟩ := trodAll_cons r0
  obtain ⟨rfl, rfl, rfl⟩ := trodAll_nil r1
  obtain rfl : args = #[v0, v1] := by cases args; simp_all
  obtain ⟨rfl, rfl⟩ := trodVars_none hV
  have lt0 : ∀ x ∈ p0, x.block < W.heap.size := by obtain ⟨m, hm⟩ := k0; exact DataW.trod_lt m _ _ _ hm
  have g0 := k0
  have lt1 : ∀ x ∈ p1, x.block < W.heap.size := by obtain ⟨m, hm⟩ := k1; exact DataW.trod_lt m _ _ _ hm
  have g1 := k1
  obtain ⟨b0, n0, cp0, F0, c0, rfl, hg0, hle0, hmx0, hF0, hQ0⟩ := open_stS (ls := List.replicate 8 (.bool : Leaf) ++ ([.int .i64] : List Leaf)) (lt := ([.int .i64, .int .i64] : List Leaf)) (ts := [2, 2]) Try.underlying56 Try.underlying54 (by kernel_rfl) (.cons inferInstance rfl (.cons inferInstance rfl (.nil))) (by rfl) (by kernel_rfl) (by kernel_rfl) (by kernel_rfl) (hval 0 56 v0 rfl rfl) k0
  obtain ⟨b1, n1, cp1, F1, c1, rfl, hg1, hle1, hmx1, hF1, hQ1⟩ := open_stS (ls := List.replicate 8 (.bool : Leaf) ++ ([.int .i64] : List Leaf)) (lt := ([.int .i64, .int .i64] : List Leaf)) (ts := [2, 2]) Try.underlying56 Try.underlying54 (by kernel_rfl) (.cons inferInstance rfl (.cons inferInstance rfl (.nil))) (by rfl) (by kernel_rfl) (by kernel_rfl) (by kernel_rfl) (hval 1 56 v1 rfl rfl) k1
  clear hA0 hval0
  have hst := Sim.start W
  obtain ⟨ρ0, T0, a0, he0, hs0, hv0, hS0⟩ := hst.addSl hF0 hQ0
  obtain ⟨ρ1, T1, a1, he1, hs1, hv1, hS1⟩ := hs0.addSl hF1 hQ1
  refine (law_callsM (walk a0 n0 cp0 F0 hF0 ⟨hle0, hmx0⟩ c0 hg0 a1 n1 cp1 F1 hF1 ⟨hle1, hmx1⟩ c1 hg1 _ hS0.append hS1) hs1 (VRs.cons (VR.agg_mk (VRs.cons (hv0.mono he1) (VRs_canon _ hg0))) (VRs.cons (VR.agg_mk (VRs.cons hv1 (VRs_canon _ hg1))) (VRs.nil _)))).mono fun e W' ⟨hee, bel⟩ => ?_
  subst hee
  exact ⟨_, rfl, _, _, _, [], _, [], hW', trodAll_mk1 (shut_bool Try.underlying4 _), (trodAll_cons_mk (Below.trod laidOut (by kernel_rfl) (of_decide_eq_true (by kernel_rfl)) g0 bel lt0) (trodAll_cons_mk (Below.trod laidOut (by kernel_rfl) (of_decide_eq_true (by kernel_rfl)) g1 bel lt1) trodAll_mk0)), rfl, bel.frame _, fun h => by cases h⟩


theorem over : Rows.fnExactSamePlanRow.holds Try.pinned (OpenSpec.ofChange Rows.fnExactSamePlanSpec) :=
  OpenClaim.holds_of_wide 10 Try.f10 rfl rfl rfl rfl rfl rfl rfl ⟨rfl, rfl, rfl, rfl, rfl⟩ rfl rfl rfl rfl rfl (by kernel_rfl) Try.func10 (by kernel_rfl)
    (of_decide_eq_true (by kernel_rfl)) (by unfold Func.isWrapper; first | (rw [if_pos (by decide +kernel)]; kernel_rfl) | (rw [if_neg (by decide +kernel)]; exact ⟨rfl, rfl⟩))
    (fun os started H enc _ => lifted os started H enc)
end Go.Proofs.Ytemobghgdaaknaa.fnExactSamePlan
namespace Go.Proofs.Ytemobghgdaaknaa
/-- The statement. -/
theorem provedFnExactSamePlan : Rows.FnExactSamePlanSaid := fnExactSamePlan.over
#print axioms provedFnExactSamePlan
end Go.Proofs.Ytemobghgdaaknaa
