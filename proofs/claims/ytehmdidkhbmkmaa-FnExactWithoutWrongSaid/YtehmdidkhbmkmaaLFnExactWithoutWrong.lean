/- FnExactWithoutWrong: for every input the law answers true, and its arguments read as they did. Conditions: none. -/
import Derived.Test.YtehmdidkhbmkmaaRows
import Derived.Test.YtehmdidkhbmkmaaArgs
import Derived.Test.YtehmdidkhbmkmaaWw2
namespace Go.Proofs.Ytehmdidkhbmkmaa.fnExactWithoutWrong
open Go.RowKit Go.ChangeShapes Go.WideShapes Go.ChangeAt Go.Proofs.Ytehmdidkhbmkmaa
set_option linter.unusedVariables false
set_option linter.unusedSimpArgs false

theorem own : ownKnob Try.prog.godebug = none := by kernel_rfl
theorem laidOut : laidOutB Try.prog = true := by kernel_rfl

/-- The walk: the law's function only reckons, and answers true. -/
theorem walk (a0 : Option Addr) (n0 cp0 : Nat) (F0 : Nat → List Value) (h0 : ∀ i, i < n0 → Leaves (([.int .i64, .int .i16, .int .i16] : List Leaf)) (F0 i)) (hcp0 : n0 ≤ cp0 ∧ cp0 ≤ maxLen) (a1 : Int) (h1 : (Lit.int .i16 a1).wf = true) (M : Mem) (hS0 : SlAt M a0 n0 (rows n0 fun i => (F0 i).map canon)) : Pure Try.prog 3 [.slice a0 n0 cp0, .int .i16 a1] M (.bool true) := by
  obtain ⟨A, B, C, hR, hB, hC⟩ := tally_rows h0
  rw [rows_congr hR] at hS0
  have hm : maxLen ≤ 9223372036854775807 := by decide
  exact wWithout A B C a1 a0 n0 cp0 M (by omega) hC hS0



set_option maxRecDepth 100000 in
theorem lifted (os : Os) (started : os.Started) (H : Type) (enc : TypeId × Value → H) :
    ReturnsInHanded {} Try.checked os 3 .any (Rows.fnExactWithoutWrongSpec.pre6 enc Try.prog Try.f3 Rows.fnExactWithoutWrongRow.domain false) (Rows.fnExactWithoutWrongSpec.post enc Try.prog Try.f3 false true false false) := by
  refine returnsInHanded_of_change (C := Try.checked) own started (by kernel_rfl) Try.func3
    (ChangeSpec.witness6 (enc := enc) (C := Try.checked) false ⟨#[], #[.slice none 0 0, .int .i16 0], []⟩ 8 (by kernel_rfl) (by kernel_rfl) (by kernel_rfl) (by kernel_rfl)) ?_
  intro W base args ds gs before hval0 hW hcnd _
  have hval : ∀ (j : Nat) t v, Try.f3.params[j]? = some t → args[j]? = some v → Value.okWide Try.prog W .any base t v := hval0
  have hW' := hW
  obtain ⟨p, q, hA0, hV, rfl, hfz, hnd⟩ := hW
  have hA : DataW.TrodAll enc Try.prog W 0 (fun _ => true) true Try.f3.params.toList args.toList ds p := hA0
  rw [Try.params3] at hA hval
  obtain ⟨v0, vs0, d0, ds0, p0, q0, hargs, rfl, rfl, k0, r0⟩ := trodAll_cons hA
  obtain ⟨v1, vs1, d1, ds1, p1, q1, rfl, rfl, rfl, k1, r1⟩ := trodAll_cons r0
  obtain ⟨rfl, rfl, rfl⟩ := trodAll_nil r1
  obtain rfl : args = #[v0, v1] := by cases args; simp_all
  obtain ⟨rfl, rfl⟩ := trodVars_none hV
  have lt0 : ∀ x ∈ p0, x.block < W.heap.size := by obtain ⟨m, hm⟩ := k0; exact DataW.trod_lt m _ _ _ hm
  have g0 := k0
  have lt1 : ∀ x ∈ p1, x.block < W.heap.size := by obtain ⟨m, hm⟩ := k1; exact DataW.trod_lt m _ _ _ hm
  have g1 := k1
  obtain ⟨b0, n0, cp0, F0, rfl, hle0, hmx0, hF0, hQ0⟩ := open_slice (ls := ([.int .i64, .int .i16, .int .i16] : List Leaf)) Try.underlying22 (hval 0 22 v0 rfl rfl) k0
  obtain ⟨a1, rfl, rfl, rfl, ha1⟩ := open_int Try.underlying23 (hval 1 23 v1 rfl rfl) k1
  clear hA0 hval0
  have hst := Sim.start W
  obtain ⟨ρ0, T0, a0, he0, hs0, hv0, hS0⟩ := hst.addSl hF0 hQ0
  refine (law_callsM (walk a0 n0 cp0 F0 hF0 ⟨hle0, hmx0⟩ a1 ha1 _ hS0) hs0 (VRs.cons hv0 (VRs.cons (.base rfl) (VRs.nil _)))).mono fun e W' ⟨hee, bel⟩ => ?_
  subst hee
  exact ⟨_, rfl, _, _, _, [], _, [], hW', trodAll_mk1 (shut_bool Try.underlying4 _), (trodAll_cons_mk (Below.trod laidOut (by kernel_rfl) (of_decide_eq_true (by kernel_rfl)) g0 bel lt0) (trodAll_cons_mk (Below.trod laidOut (by kernel_rfl) (of_decide_eq_true (by kernel_rfl)) g1 bel lt1) trodAll_mk0)), rfl, bel.frame _, fun h => by cases h⟩


theorem over : Rows.fnExactWithoutWrongRow.holds Try.pinned (OpenSpec.ofChange Rows.fnExactWithoutWrongSpec) :=
  OpenClaim.holds_of_wide 3 Try.f3 rfl rfl rfl rfl rfl rfl rfl ⟨rfl, rfl, rfl, rfl, rfl⟩ rfl rfl rfl rfl rfl (by kernel_rfl) Try.func3 (by kernel_rfl)
    (of_decide_eq_true (by kernel_rfl)) (by unfold Func.isWrapper; first | (rw [if_pos (by decide +kernel)]; kernel_rfl) | (rw [if_neg (by decide +kernel)]; exact ⟨rfl, rfl⟩))
    (fun os started H enc _ => lifted os started H enc)
end Go.Proofs.Ytehmdidkhbmkmaa.fnExactWithoutWrong
namespace Go.Proofs.Ytehmdidkhbmkmaa
/-- The statement. -/
theorem provedFnExactWithoutWrong : Rows.FnExactWithoutWrongSaid := fnExactWithoutWrong.over
#print axioms provedFnExactWithoutWrong
end Go.Proofs.Ytehmdidkhbmkmaa
