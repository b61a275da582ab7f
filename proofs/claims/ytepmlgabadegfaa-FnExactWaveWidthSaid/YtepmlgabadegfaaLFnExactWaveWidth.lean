/- FnExactWaveWidth: for every input the law answers true, and its arguments read as they did. Conditions: none. -/
import Derived.Test.YtepmlgabadegfaaRows
import Derived.Test.YtepmlgabadegfaaArgs
import Derived.Test.YtepmlgabadegfaaNs
import Derived.Test.YtepmlgabadegfaaWv8
namespace Go.Proofs.Ytepmlgabadegfaa.fnExactWaveWidth
open Go.RowKit Go.ChangeShapes Go.WideShapes Go.ChangeAt Go.Proofs.Ytepmlgabadegfaa
set_option linter.unusedVariables false
set_option linter.unusedSimpArgs false

theorem own : ownKnob Try.prog.godebug = none := by kernel_rfl
theorem laidOut : laidOutB Try.prog = true := by kernel_rfl

/-- The walk: the law's function only reckons, and answers true. -/
theorem walk (a0 : Option Addr) (n0 cp0 : Nat) (A0 : Nat → Option Addr) (N0 C0 : Nat → Nat) (F0 : Nat → Nat → List Value) (G0 : Nat → List Value) (hcp0 : n0 ≤ cp0 ∧ cp0 ≤ maxLen) (hN0 : ∀ j, j < n0 → N0 j ≤ maxLen) (hF0 : ∀ j, j < n0 → ∀ i, i < N0 j → Leaves (List.replicate 8 (.bool : Leaf) ++ ([.int .i64] : List Leaf)) (F0 j i)) (hG0 : ∀ j, j < n0 → Leaves (([.int .i64, .int .i64] : List Leaf)) (G0 j)) (a1 : Option Addr) (n1 cp1 : Nat) (F1 : Nat → List Value) (h1 : ∀ i, i < n1 → Leaves (([.int .i64] : List Leaf)) (F1 i)) (hcp1 : n1 ≤ cp1 ∧ cp1 ≤ maxLen) (a2 : Int) (h2 : (Lit.int .i64 a2).wf = true) (M : Mem) (hS0 : SlAt M a0 n0 (rows n0 fun j => Value.slice (A0 j) (N0 j) (C0 j) :: (G0 j).map canon)) (hI0 : ∀ j, j < n0 → SlAt M (A0 j) (N0 j) (rows (N0 j) fun i => (F0 j i).map canon)) (hS1 : SlAt M a1 n1 (rows n1 fun i => (F1 i).map canon)) : Pure Try.prog 3 [.slice a0 n0 cp0, .slice a1 n1 cp1, .int .i64 a2] M (.bool true) := by
  have hm : maxLen ≤ 9223372036854775807 := by decide
  obtain ⟨GG, TT, hR⟩ := slot_rows2 hF0
  obtain ⟨BB, OO, hB⟩ := two_rows hG0
  obtain ⟨tt, ht⟩ := int_rows h1
  rw [rows_congr (n := n0) (g := plF A0 N0 C0 BB OO) (fun j hj => by rw [hB j hj]; rfl)] at hS0
  rw [rows_congr ht, rows_tab] at hS1
  exact wWaveWidth n0 A0 N0 C0 BB OO GG TT a0 cp0 n1 tt a1 cp1 a2 M (by omega) (fun q hq => by have := hN0 q hq; omega) hS0 (fun i hi => by have := hI0 i hi; rw [rows_congr (hR i hi)] at this; exact this) (by omega) hS1



set_option maxRecDepth 100000 in
theorem lifted (os : Os) (started : os.Started) (H : Type) (enc : TypeId × Value → H) :
    ReturnsInHanded {} Try.checked os 3 .any (Rows.fnExactWaveWidthSpec.pre6 enc Try.prog Try.f3 Rows.fnExactWaveWidthRow.domain false) (Rows.fnExactWaveWidthSpec.post enc Try.prog Try.f3 false true false false) := by
  refine returnsInHanded_of_change (C := Try.checked) own started (by kernel_rfl) Try.func3
    (ChangeSpec.witness6 (enc := enc) (C := Try.checked) false ⟨#[], #[.slice none 0 0, .slice none 0 0, .int .i64 0], []⟩ 8 (by kernel_rfl) (by kernel_rfl) (by kernel_rfl) (by kernel_rfl)) ?_
  intro W base args ds gs before hval0 hW hcnd _
  have hval : ∀ (j : Nat) t v, Try.f3.params[j]? = some t → args[j]? = some v → Value.okWide Try.prog W .any base t v := hval0
  have hW' := hW
  obtain ⟨p, q, hA0, hV, rfl, hfz, hnd⟩ := hW
  have hA : DataW.TrodAll enc Try.prog W 0 (fun _ => true) true Try.f3.params.toList args.toList ds p := hA0
  rw [Try.params3] at hA hval
  obtain ⟨v0, vs0, d0, ds0, p0, q0, hargs, rfl, rfl, k0, r0⟩ := trodAll_cons hA
  obtain ⟨v1, vs1, d1, ds1, p1, q1, rfl, rfl, rfl, k1, r1⟩ := trodAll_cons r0
  obtain ⟨v2, vs2, d2, ds2, p2, q2, rfl, rfl, rfl, k2, r2⟩ := trodAll_cons r1
  obtain ⟨rfl, rfl, rfl⟩ := trodAll_nil r2
  obtain rfl : args = #[v0, v1, v2] := by cases args; simp_all
  obtain ⟨rfl, rfl⟩ := trodVars_none hV
  have lt0 : ∀ x ∈ p0, x.block < W.heap.size := by obtain ⟨m, hm⟩ := k0; exact DataW.trod_lt m _ _ _ hm
  have g0 := k0
  have lt1 : ∀ x ∈ p1, x.block < W.heap.size := by obtain ⟨m, hm⟩ := k1; exact DataW.trod_lt m _ _ _ hm
  have g1 := k1
  have lt2 : ∀ x ∈ p2, x.block < W.heap.size := by obtain ⟨m, hm⟩ := k2; exact DataW.trod_lt m _ _ _ hm
  have g2 := k2
  obtain ⟨b0, n0, cp0, A0, N0, C0, F0, G0, rfl, hle0, hmx0, hN0, hF0, hQ0, hG0, hO0⟩ := open_slP (ls := List.replicate 8 (.bool : Leaf) ++ ([.int .i64] : List Leaf)) (lt := ([.int .i64, .int .i64] : List Leaf)) (by decide) Try.underlying22 Try.underlying36 Try.underlying34 (.cons inferInstance rfl (.cons inferInstance rfl (.nil))) (by rfl) (by kernel_rfl) (by kernel_rfl) (by kernel_rfl) (hval 0 22 v0 rfl rfl) k0
  obtain ⟨b1, n1, cp1, F1, rfl, hle1, hmx1, hF1, hQ1⟩ := open_slice (ls := ([.int .i64] : List Leaf)) Try.underlying23 (hval 1 23 v1 rfl rfl) k1
  obtain ⟨a2, rfl, rfl, rfl, ha2⟩ := open_int Try.underlying2 (hval 2 2 v2 rfl rfl) k2
  clear hA0 hval0
  have hst := Sim.start W
  obtain ⟨ρ0, T0, a0, A0', C0', he0, hs0, hv0, hS0, hI0⟩ := hst.addNs hF0 hQ0 hG0 hO0
  obtain ⟨ρ1, T1, a1, he1, hs1, hv1, hS1⟩ := hs0.addSl hF1 hQ1
  refine (law_callsM (walk a0 n0 cp0 A0' N0 C0' F0 G0 ⟨hle0, hmx0⟩ hN0 hF0 hG0 a1 n1 cp1 F1 hF1 ⟨hle1, hmx1⟩ a2 ha2 _ hS0.append (fun j hj => (hI0 j hj).append) hS1) hs1 (VRs.cons (hv0.mono he1) (VRs.cons hv1 (VRs.cons (.base rfl) (VRs.nil _))))).mono fun e W' ⟨hee, bel⟩ => ?_
  subst hee
  exact ⟨_, rfl, _, _, _, [], _, [], hW', trodAll_mk1 (shut_bool Try.underlying4 _), (trodAll_cons_mk (Below.trod laidOut (by kernel_rfl) (of_decide_eq_true (by kernel_rfl)) g0 bel lt0) (trodAll_cons_mk (Below.trod laidOut (by kernel_rfl) (of_decide_eq_true (by kernel_rfl)) g1 bel lt1) (trodAll_cons_mk (Below.trod laidOut (by kernel_rfl) (of_decide_eq_true (by kernel_rfl)) g2 bel lt2) trodAll_mk0))), rfl, bel.frame _, fun h => by cases h⟩


theorem over : Rows.fnExactWaveWidthRow.holds Try.pinned (OpenSpec.ofChange Rows.fnExactWaveWidthSpec) :=
  OpenClaim.holds_of_wide 3 Try.f3 rfl rfl rfl rfl rfl rfl rfl ⟨rfl, rfl, rfl, rfl, rfl⟩ rfl rfl rfl rfl rfl (by kernel_rfl) Try.func3 (by kernel_rfl)
    (of_decide_eq_true (by kernel_rfl)) (by unfold Func.isWrapper; first | (rw [if_pos (by decide +kernel)]; kernel_rfl) | (rw [if_neg (by decide +kernel)]; exact ⟨rfl, rfl⟩))
    (fun os started H enc _ => lifted os started H enc)
end Go.Proofs.Ytepmlgabadegfaa.fnExactWaveWidth
namespace Go.Proofs.Ytepmlgabadegfaa
/-- The statement. -/
theorem provedFnExactWaveWidth : Rows.FnExactWaveWidthSaid := fnExactWaveWidth.over
#print axioms provedFnExactWaveWidth
end Go.Proofs.Ytepmlgabadegfaa
