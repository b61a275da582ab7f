/- FnExactLongestRed: for every input the law answers true, and its arguments read as they did. Conditions: none. -/
import Derived.Test.YtehmdidkhbmkmaaRows
import Derived.Test.YtehmdidkhbmkmaaArgs
import Derived.Test.YtehmdidkhbmkmaaGt5
namespace Go.Proofs.Ytehmdidkhbmkmaa.fnExactLongestRed
open Go.RowKit Go.ChangeShapes Go.WideShapes Go.ChangeAt Go.Proofs.Ytehmdidkhbmkmaa
set_option linter.unusedVariables false
set_option linter.unusedSimpArgs false

theorem own : ownKnob Try.prog.godebug = none := by kernel_rfl
theorem laidOut : laidOutB Try.prog = true := by kernel_rfl

/-- The walk: the law's function only reckons, and answers true. -/
theorem walk (a0 : Option Addr) (n0 cp0 : Nat) (F0 : Nat → List Value) (h0 : ∀ i, i < n0 → Leaves (List.replicate 8 (.bool : Leaf) ++ ([.int .i64] : List Leaf)) (F0 i)) (hcp0 : n0 ≤ cp0 ∧ cp0 ≤ maxLen) (c0 : List Value) (g0 : Leaves (([.int .i64, .int .i64] : List Leaf)) c0) (a1 : Int) (h1 : (Lit.int .i64 a1).wf = true) (M : Mem) (hS0 : SlAt M a0 n0 (rows n0 fun i => (F0 i).map canon)) : Pure Try.prog 8 [.agg (.slice a0 n0 cp0 :: c0.map canon).toArray, .int .i64 a1] M (.bool true) := by
  obtain ⟨G, T, hR⟩ := slot_rows h0
  rw [rows_congr hR] at hS0
  obtain ⟨b, o, rfl⟩ := two_ints g0
  have hm : maxLen ≤ 9223372036854775807 := by decide
  exact wLongestRed a0 n0 cp0 b o G T a1 M (by omega) hS0



set_option maxRecDepth 100000 in
theorem lifted (os : Os) (started : os.Started) (H : Type) (enc : TypeId × Value → H) :
    ReturnsInHanded {} Try.checked os 8 .any (Rows.fnExactLongestRedSpec.pre6 enc Try.prog Try.f8 Rows.fnExactLongestRedRow.domain false) (Rows.fnExactLongestRedSpec.post enc Try.prog Try.f8 false true false false) := by
  refine returnsInHanded_of_change (C := Try.checked) own started (by kernel_rfl) Try.func8
    (ChangeSpec.witness6 (enc := enc) (C := Try.checked) false ⟨#[], #[.agg #[.slice none 0 0, .int .i64 0, .int .i64 0], .int .i64 0], []⟩ 8 (by kernel_rfl) (by kernel_rfl) (by kernel_rfl) (by kernel_rfl)) ?_
  intro W base args ds gs before hval0 hW hcnd _
  have hval : ∀ (j : Nat) t v, Try.f8.params[j]? = some t → args[j]? = some v → Value.okWide Try.prog W .any base t v := hval0
  have hW' := hW
  obtain ⟨p, q, hA0, hV, rfl, hfz, hnd⟩ := hW
  have hA : DataW.TrodAll enc Try.prog W 0 (fun _ => true) true Try.f8.params.toList args.toList ds p := hA0
  rw [Try.params8] at hA hval
  obtain ⟨v0, vs0, d0, ds0, p0, q0, hargs, rfl, rfl, k0, r0⟩ := trodAll_cons hA
  obtain ⟨v1, vs1, d1, ds1, p1, q1, rfl, rfl, rfl, k1, r1⟩ := trodAll_cons r0
  obtain ⟨rfl, rfl, rfl⟩ := trodAll_nil r1
  obtain rfl : args = #[v0, v1] := by cases args; simp_all
  obtain ⟨rfl, rfl⟩ := trodVars_none hV
  have lt0 : ∀ x ∈ p0, x.block < W.heap.size := by obtain ⟨m, hm⟩ := k0; exact DataW.trod_lt m _ _ _ hm
  have g0 := k0
  have lt1 : ∀ x ∈ p1, x.block < W.heap.size := by obtain ⟨m, hm⟩ := k1; exact DataW.trod_lt m _ _ _ hm
  have g1 := k1
  obtain ⟨b0, n0, cp0, F0, c0, rfl, hg0, hle0, hmx0, hF0, hQ0⟩ := open_stS (ls := List.replicate 8 (.bool : Leaf) ++ ([.int .i64] : List Leaf)) (lt := ([.int .i64, .int .i64] : List Leaf)) (ts := [2, 2]) Try.underlying60 Try.underlying58 (by kernel_rfl) (.cons inferInstance rfl (.cons inferInstance rfl (.nil))) (by rfl) (by kernel_rfl) (by kernel_rfl) (by kernel_rfl) (hval 0 60 v0 rfl rfl) k0
  obtain ⟨a1, rfl, rfl, rfl, ha1⟩ := open_int Try.underlying2 (hval 1 2 v1 rfl rfl) k1
  clear hA0 hval0
  have hst := Sim.start W
  obtain ⟨ρ0, T0, a0, he0, hs0, hv0, hS0⟩ := hst.addSl hF0 hQ0
  refine (law_callsM (walk a0 n0 cp0 F0 hF0 ⟨hle0, hmx0⟩ c0 hg0 a1 ha1 _ hS0) hs0 (VRs.cons (VR.agg_mk (VRs.cons hv0 (VRs_canon _ hg0))) (VRs.cons (.base rfl) (VRs.nil _)))).mono fun e W' ⟨hee, bel⟩ => ?_
  subst hee
  exact ⟨_, rfl, _, _, _, [], _, [], hW', trodAll_mk1 (shut_bool Try.underlying4 _), (trodAll_cons_mk (Below.trod laidOut (by kernel_rfl) (of_decide_eq_true (by kernel_rfl)) g0 bel lt0) (trodAll_cons_mk (Below.trod laidOut (by kernel_rfl) (of_decide_eq_true (by kernel_rfl)) g1 bel lt1) trodAll_mk0)), rfl, bel.frame _, fun h => by cases h⟩


theorem over : Rows.fnExactLongestRedRow.holds Try.pinned (OpenSpec.ofChange Rows.fnExactLongestRedSpec) :=
  OpenClaim.holds_of_wide 8 Try.f8 rfl rfl rfl rfl rfl rfl rfl ⟨rfl, rfl, rfl, rfl, rfl⟩ rfl rfl rfl rfl rfl (by kernel_rfl) Try.func8 (by kernel_rfl)
    (of_decide_eq_true (by kernel_rfl)) (by unfold Func.isWrapper; first | (rw [if_pos (by decide +kernel)]; kernel_rfl) | (rw [if_neg (by decide +kernel)]; exact ⟨rfl, rfl⟩))
    (fun os started H enc _ => lifted os started H enc)
end Go.Proofs.Ytehmdidkhbmkmaa.fnExactLongestRed
namespace Go.Proofs.Ytehmdidkhbmkmaa
/-- The statement. -/
theorem provedFnExactLongestRed : Rows.FnExactLongestRedSaid := fnExactLongestRed.over
#print axioms provedFnExactLongestRed
end Go.Proofs.Ytehmdidkhbmkmaa
