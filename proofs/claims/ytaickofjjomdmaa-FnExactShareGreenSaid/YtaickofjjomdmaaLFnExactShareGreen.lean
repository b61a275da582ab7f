/- FnExactShareGreen: for every input the law answers true, and its arguments read as they did. Conditions: none. -/
import Derived.Test.YtaickofjjomdmaaRows
import Derived.Test.YtaickofjjomdmaaArgs
import Derived.Test.YtaickofjjomdmaaSgW
namespace Go.Proofs.Ytaickofjjomdmaa.fnExactShareGreen
open Go.RowKit Go.ChangeShapes Go.WideShapes Go.ChangeAt Go.Proofs.Ytaickofjjomdmaa
set_option linter.unusedVariables false
set_option linter.unusedSimpArgs false

theorem own : ownKnob Try.prog.godebug = none := by kernel_rfl
theorem laidOut : laidOutB Try.prog = true := by kernel_rfl

/-- The walk: the law's function only reckons, and answers true. -/
theorem walk (a0 : Option Addr) (n0 cp0 : Nat) (F0 : Nat → List Value) (h0 : ∀ i, i < n0 → Leaves (List.replicate 8 (.bool : Leaf)) (F0 i)) (hcp0 : n0 ≤ cp0 ∧ cp0 ≤ maxLen) (c1 : List Value) (h1 : Leaves (List.replicate 8 (.float .f32 : Leaf)) c1) (a2 : Int) (h2 : (Lit.int .i64 a2).wf = true) (a3 : Int) (h3 : (Lit.int .i64 a3).wf = true) (M : Mem) (hS0 : SlAt M a0 n0 (rows n0 fun i => (F0 i).map canon)) : Pure Try.prog 5 [.slice a0 n0 cp0, .agg (c1.map canon).toArray, .int .i64 a2, .int .i64 a3] M (.bool true) := by
  obtain ⟨f, hR⟩ := phase_rows h0
  rw [rows_congr hR] at hS0
  obtain ⟨z, rfl, _⟩ := leaf_floats h1
  rw [tab_map]
  have hm : maxLen ≤ 9223372036854775807 := by decide
  exact wShareGreen a0 n0 cp0 f (fun i => cf .f32 (z i)) a2 a3 M (by omega) hS0



set_option maxRecDepth 100000 in
theorem lifted (os : Os) (started : os.Started) (H : Type) (enc : TypeId × Value → H) :
    ReturnsInHanded {} Try.checked os 5 .any (Rows.fnExactShareGreenSpec.pre6 enc Try.prog Try.f5 Rows.fnExactShareGreenRow.domain false) (Rows.fnExactShareGreenSpec.post enc Try.prog Try.f5 false true false false) := by
  refine returnsInHanded_of_change (C := Try.checked) own started (by kernel_rfl) Try.func5
    (ChangeSpec.witness6 (enc := enc) (C := Try.checked) false ⟨#[], #[.slice none 0 0, .agg #[.float .f32 0, .float .f32 0, .float .f32 0, .float .f32 0, .float .f32 0, .float .f32 0, .float .f32 0, .float .f32 0], .int .i64 0, .int .i64 0], []⟩ 8 (by kernel_rfl) (by kernel_rfl) (by kernel_rfl) (by kernel_rfl)) ?_
  intro W base args ds gs before hval0 hW hcnd _
  have hval : ∀ (j : Nat) t v, Try.f5.params[j]? = some t → args[j]? = some v → Value.okWide Try.prog W .any base t v := hval0
  have hW' := hW
  obtain ⟨p, q, hA0, hV, rfl, hfz, hnd⟩ := hW
  have hA : DataW.TrodAll enc Try.prog W 0 (fun _ => true) true Try.f5.params.toList args.toList ds p := hA0
  rw [Try.params5] at hA hval
  obtain ⟨v0, vs0, d0, ds0, p0, q0, hargs, rfl, rfl, k0, r0⟩ := trodAll_cons hA
  obtain ⟨v1, vs1, d1, ds1, p1, q1, rfl, rfl, rfl, k1, r1⟩ := trodAll_cons r0
  obtain ⟨v2, vs2, d2, ds2, p2, q2, rfl, rfl, rfl, k2, r2⟩ := trodAll_cons r1
  obtain ⟨v3, vs3, d3, ds3, p3, q3, rfl, rfl, rfl, k3, r3⟩ := trodAll_cons r2
  obtain ⟨rfl, rfl, rfl⟩ := trodAll_nil r3
  obtain rfl : args = #[v0, v1, v2, v3] := by cases args; simp_all
  obtain ⟨rfl, rfl⟩ := trodVars_none hV
  have lt0 : ∀ x ∈ p0, x.block < W.heap.size := by obtain ⟨m, hm⟩ := k0; exact DataW.trod_lt m _ _ _ hm
  have g0 := k0
  have lt1 : ∀ x ∈ p1, x.block < W.heap.size := by obtain ⟨m, hm⟩ := k1; exact DataW.trod_lt m _ _ _ hm
  have g1 := k1
  have lt2 : ∀ x ∈ p2, x.block < W.heap.size := by obtain ⟨m, hm⟩ := k2; exact DataW.trod_lt m _ _ _ hm
  have g2 := k2
  have lt3 : ∀ x ∈ p3, x.block < W.heap.size := by obtain ⟨m, hm⟩ := k3; exact DataW.trod_lt m _ _ _ hm
  have g3 := k3
  obtain ⟨b0, n0, cp0, F0, rfl, hle0, hmx0, hF0, hQ0⟩ := open_slice (ls := List.replicate 8 (.bool : Leaf)) Try.underlying51 (hval 0 51 v0 rfl rfl) k0
  obtain ⟨c1, rfl, hc1⟩ := open_flat (ls := List.replicate 8 (.float .f32 : Leaf)) (fs := #[]) (.inr Try.underlying26) (hval 1 26 v1 rfl rfl) k1
  obtain ⟨a2, rfl, rfl, rfl, ha2⟩ := open_int Try.underlying2 (hval 2 2 v2 rfl rfl) k2
  obtain ⟨a3, rfl, rfl, rfl, ha3⟩ := open_int Try.underlying2 (hval 3 2 v3 rfl rfl) k3
  clear hA0 hval0
  have hst := Sim.start W
  obtain ⟨ρ0, T0, a0, he0, hs0, hv0, hS0⟩ := hst.addSl hF0 hQ0
  refine (law_callsM (walk a0 n0 cp0 F0 hF0 ⟨hle0, hmx0⟩ c1 hc1 a2 ha2 a3 ha3 _ hS0) hs0 (VRs.cons hv0 (VRs.cons (VR_canon _ hc1) (VRs.cons (.base rfl) (VRs.cons (.base rfl) (VRs.nil _)))))).mono fun e W' ⟨hee, bel⟩ => ?_
  subst hee
  exact ⟨_, rfl, _, _, _, [], _, [], hW', trodAll_mk1 (shut_bool Try.underlying4 _), (trodAll_cons_mk (Below.trod laidOut (by kernel_rfl) (of_decide_eq_true (by kernel_rfl)) g0 bel lt0) (trodAll_cons_mk (Below.trod laidOut (by kernel_rfl) (of_decide_eq_true (by kernel_rfl)) g1 bel lt1) (trodAll_cons_mk (Below.trod laidOut (by kernel_rfl) (of_decide_eq_true (by kernel_rfl)) g2 bel lt2) (trodAll_cons_mk (Below.trod laidOut (by kernel_rfl) (of_decide_eq_true (by kernel_rfl)) g3 bel lt3) trodAll_mk0)))), rfl, bel.frame _, fun h => by cases h⟩


theorem over : Rows.fnExactShareGreenRow.holds Try.pinned (OpenSpec.ofChange Rows.fnExactShareGreenSpec) :=
  OpenClaim.holds_of_wide 5 Try.f5 rfl rfl rfl rfl rfl rfl rfl ⟨rfl, rfl, rfl, rfl, rfl⟩ rfl rfl rfl rfl rfl (by kernel_rfl) Try.func5 (by kernel_rfl)
    (of_decide_eq_true (by kernel_rfl)) (by unfold Func.isWrapper; first | (rw [if_pos (by decide +kernel)]; kernel_rfl) | (rw [if_neg (by decide +kernel)]; exact ⟨rfl, rfl⟩))
    (fun os started H enc _ => lifted os started H enc)
end Go.Proofs.Ytaickofjjomdmaa.fnExactShareGreen
namespace Go.Proofs.Ytaickofjjomdmaa
/-- The statement. -/
theorem provedFnExactShareGreen : Rows.FnExactShareGreenSaid := fnExactShareGreen.over
#print axioms provedFnExactShareGreen
end Go.Proofs.Ytaickofjjomdmaa
