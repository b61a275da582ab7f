/- FnFilled: for every input the law answers true, and its arguments read as they did. Conditions: none. -/
import Derived.Test.YtjghdagcmombnaaRows
import Derived.Test.YtjghdagcmombnaaArgs
import Derived.Test.YtjghdagcmombnaaHw
import Derived.Test.YtjghdagcmombnaaBy
namespace Go.Proofs.Ytjghdagcmombnaa.fnFilled
open Go.RowKit Go.ChangeShapes Go.WideShapes Go.ChangeAt Go.Proofs.Ytjghdagcmombnaa
set_option linter.unusedVariables false
set_option linter.unusedSimpArgs false

theorem own : ownKnob Try.prog.godebug = none := by kernel_rfl
theorem laidOut : laidOutB Try.prog = true := by kernel_rfl

/-- The walk: the law's function only reckons, and answers true. -/
theorem walk (a0 : Option Addr) (n0 cp0 : Nat) (F0 : Nat → List Value) (h0 : ∀ i, i < n0 → Leaves (([.int .u8] : List Leaf)) (F0 i)) (hcp0 : n0 ≤ cp0 ∧ cp0 ≤ maxLen) (a1 : Option Addr) (n1 cp1 : Nat) (F1 : Nat → List Value) (h1 : ∀ i, i < n1 → Leaves (([.int .u8] : List Leaf)) (F1 i)) (hcp1 : n1 ≤ cp1 ∧ cp1 ≤ maxLen) (M : Mem) (hS0 : SlAt M a0 n0 (rows n0 fun i => (F0 i).map canon)) (hS1 : SlAt M a1 n1 (rows n1 fun i => (F1 i).map canon)) : Pure Try.prog 3 [.slice a0 n0 cp0, .slice a1 n1 cp1] M (.bool true) := by
  obtain ⟨cd, hcd, hR⟩ := byte_rows h0
  obtain ⟨cd', hcd', hR'⟩ := byte_rows h1
  rw [hR] at hS0
  rw [hR'] at hS1
  have hm : maxLen ≤ 9223372036854775807 := by decide
  exact wFilled a0 a1 n0 n1 cp0 cp1 cd cd' M (by omega) (by omega) hcd hcd' hS0 hS1



set_option maxRecDepth 100000 in
theorem lifted (os : Os) (started : os.Started) (H : Type) (enc : TypeId × Value → H) :
    ReturnsInHanded {} Try.checked os 3 .any (Rows.fnFilledSpec.pre6 enc Try.prog Try.f3 Rows.fnFilledRow.domain false) (Rows.fnFilledSpec.post enc Try.prog Try.f3 false true false false) := by
  refine returnsInHanded_of_change (C := Try.checked) own started (by kernel_rfl) Try.func3
    (ChangeSpec.witness6 (enc := enc) (C := Try.checked) false ⟨#[], #[.slice none 0 0, .slice none 0 0], []⟩ 8 (by kernel_rfl) (by kernel_rfl) (by kernel_rfl) (by kernel_rfl)) ?_
  intro W base args ds gs before hval0 hW hcnd _
  have hval : ∀ (j : Nat) t v, Try.f3.params[j]? = some t → args[j]? = some v → Value.okWide Try.prog W .any base t v := hval0
  have hW' := hW
  obtain ⟨p, q, hA0, hV, rfl, hfz, hnd⟩ := hW
  have hA : DataW.TrodAll enc Try.prog W 0 (fun _ => true) true Try.f3.params.toList args.toList ds p := hA0
  rw [Try.params3] at hA hval
  obtain ⟨v0, vs0, d0, ds0, p0, q0, hargs, rfl, rfl, k0, r0⟩ := trodAll_cons hA
  obtain ⟨v1, vs1, d1, ds1, p1, q1, rfl, rfl, rfl, k1, r1⟩ := trodAll_cons r0
  obtain ⟨rfl, rfl, rfl⟩ := trodAll_nil r1
  obtain rfl : args = #[v0, v1] := by cases args; simp_all
  obtain ⟨rfl, rfl⟩ := trodVars_none hV
  have lt0 : ∀ x ∈ p0, x.block < W.heap.size := by obtain ⟨m, hm⟩ := k0; exact DataW.trod_lt m _ _ _ hm
  have g0 := k0
  have lt1 : ∀ x ∈ p1, x.block < W.heap.size := by obtain ⟨m, hm⟩ := k1; exact DataW.trod_lt m _ _ _ hm
  have g1 := k1
  obtain ⟨b0, n0, cp0, F0, rfl, hle0, hmx0, hF0, hQ0⟩ := open_slice (ls := ([.int .u8] : List Leaf)) Try.underlying22 (hval 0 22 v0 rfl rfl) k0
  obtain ⟨b1, n1, cp1, F1, rfl, hle1, hmx1, hF1, hQ1⟩ := open_slice (ls := ([.int .u8] : List Leaf)) Try.underlying22 (hval 1 22 v1 rfl rfl) k1
  clear hA0 hval0
  have hst := Sim.start W
  obtain ⟨ρ0, T0, a0, he0, hs0, hv0, hS0⟩ := hst.addSl hF0 hQ0
  obtain ⟨ρ1, T1, a1, he1, hs1, hv1, hS1⟩ := hs0.addSl hF1 hQ1
  refine (law_callsM (walk a0 n0 cp0 F0 hF0 ⟨hle0, hmx0⟩ a1 n1 cp1 F1 hF1 ⟨hle1, hmx1⟩ _ hS0.append hS1) hs1 (VRs.cons (hv0.mono he1) (VRs.cons hv1 (VRs.nil _)))).mono fun e W' ⟨hee, bel⟩ => ?_
  subst hee
  exact ⟨_, rfl, _, _, _, [], _, [], hW', trodAll_mk1 (shut_bool Try.underlying4 _), (trodAll_cons_mk (Below.trod laidOut (by kernel_rfl) (of_decide_eq_true (by kernel_rfl)) g0 bel lt0) (trodAll_cons_mk (Below.trod laidOut (by kernel_rfl) (of_decide_eq_true (by kernel_rfl)) g1 bel lt1) trodAll_mk0)), rfl, bel.frame _, fun h => by cases h⟩


theorem over : Rows.fnFilledRow.holds Try.pinned (OpenSpec.ofChange Rows.fnFilledSpec) :=
  OpenClaim.holds_of_wide 3 Try.f3 rfl rfl rfl rfl rfl rfl rfl ⟨rfl, rfl, rfl, rfl, rfl⟩ rfl rfl rfl rfl rfl (by kernel_rfl) Try.func3 (by kernel_rfl)
    (of_decide_eq_true (by kernel_rfl)) (by unfold Func.isWrapper; first | (rw [if_pos (by decide +kernel)]; kernel_rfl) | (rw [if_neg (by decide +kernel)]; exact ⟨rfl, rfl⟩))
    (fun os started H enc _ => lifted os started H enc)
end Go.Proofs.Ytjghdagcmombnaa.fnFilled
namespace Go.Proofs.Ytjghdagcmombnaa
/-- The statement. -/
theorem provedFnFilled : Rows.FnFilledSaid := fnFilled.over
#print axioms provedFnFilled
end Go.Proofs.Ytjghdagcmombnaa
