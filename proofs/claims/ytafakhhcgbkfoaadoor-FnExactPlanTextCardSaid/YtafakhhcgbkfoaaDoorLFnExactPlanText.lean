/- FnExactPlanText: for every input the law answers true, and its arguments read as they did. Conditions: none. -/
import Derived.Test.YtafakhhcgbkfoaaDoorCards
import Derived.Test.YtafakhhcgbkfoaaDoorTie
import Derived.Lay
import Derived.Stop.LaidErr
import Derived.SevenTiedAt
import Derived.Test.YtafakhhcgbkfoaaDoorArgs
import Derived.Test.YtafakhhcgbkfoaaDoorPy
namespace Go.Proofs.YtafakhhcgbkfoaaDoor.fnExactPlanText
open Go.RowKit Go.ChangeShapes Go.WideShapes Go.ChangeAt Go.Proofs.YtafakhhcgbkfoaaDoor
set_option linter.unusedVariables false
set_option linter.unusedSimpArgs false

theorem own : ownKnob Tryd.prog.godebug = none := by kernel_rfl
theorem laidOut : laidOutB Tryd.prog = true := by kernel_rfl

/-- The walk: the law's function only reckons, and answers true. -/
theorem walk (a0 : Option Addr) (n0 cp0 : Nat) (F0 : Nat → List Value) (h0 : ∀ i, i < n0 → Leaves (List.replicate 8 (.bool : Leaf) ++ ([.int .i64] : List Leaf)) (F0 i)) (hcp0 : n0 ≤ cp0 ∧ cp0 ≤ maxLen) (c0 : List Value) (g0 : Leaves (([.int .i64, .int .i64] : List Leaf)) c0) (M : Mem) (hS0 : SlAt M a0 n0 (rows n0 fun i => (F0 i).map canon)) : Pure Tryd.prog 3 [.agg (.slice a0 n0 cp0 :: c0.map canon).toArray] M (.bool true) := by
  obtain ⟨G, T, hR⟩ := slot_rows h0
  rw [rows_congr hR] at hS0
  obtain ⟨b, o, rfl⟩ := two_ints g0
  have hm : maxLen ≤ 9223372036854775807 := by decide
  exact wPlanText a0 n0 cp0 b o G T M (by omega) hS0



theorem gPow : Tryd.prog.globalNamed "internal/strconv.uint64pow10" = some 1 := by kernel_rfl

/-- The table of tens, out of what the row lists. -/
theorem good {W : World} (h : laidMetH Tryd.prog Rows.fnExactPlanTextRow.laid W) : Good W.heap.size W := by
  rw [MakeChecks.laidMetH_plain _ _ _ (by kernel_rfl)] at h
  have ht : Lib.TabIs Tryd.prog W "internal/strconv.uint64pow10" .u64 Lib.pow10Tab := Lib.tabIs_of_head (t := 124) (e := 93) (n := 20) gPow (by kernel_rfl) Tryd.underlying124 Tryd.underlying93 (by kernel_rfl) (by kernel_rfl) (laidMet.tail (laidMet.tail (h)))
  intro w hb
  unfold Lib.TabIs World.var? at ht ⊢
  rw [gPow] at ht ⊢
  simp only [Option.bind_some] at ht ⊢
  have hlt : 1 < W.heap.size := by
    refine Nat.lt_of_not_le fun hle => ?_
    rw [Array.getElem?_eq_none hle] at ht
    exact absurd ht (by simp)
  rw [hb.block _ hlt]
  exact ht


set_option maxRecDepth 100000 in
theorem lifted (os : Os) (started : os.Started) (H : Type) (enc : TypeId × Value → H) :
    ReturnsInHanded {} Tryd.checked os 3 .any (fun w args => (Rows.fnExactPlanTextSpec.pre enc Tryd.prog Tryd.f3 Rows.fnExactPlanTextRow.domain false w args ∧ laidMetH Tryd.prog Rows.fnExactPlanTextRow.laid w) ∧ sizedMet enc Tryd.prog Tryd.f3 (OpenSpec.ofChange Rows.fnExactPlanTextSpec) false w args) (Rows.fnExactPlanTextSpec.post enc Tryd.prog Tryd.f3 false true false false) := by
  refine returnsInHanded_of_change_and (C := Tryd.checked) (X := fun w _ => laidMetH Tryd.prog Rows.fnExactPlanTextRow.laid w) (fun _ _ _ hh h => h.of_heap hh) own started (by kernel_rfl) Tryd.func3
    (ChangeSpec.witness_shaped (enc := enc) (C := Tryd.checked) (os := os) (X := fun w _ => laidMetH Tryd.prog Rows.fnExactPlanTextRow.laid w) false (World.laidAll Tryd.prog os Rows.fnExactPlanTextRow.laid) #[.agg #[.slice none 0 0, .int .i64 0, .int .i64 0]] 8 (World.laidAll_os _ _ _)
      (World.shaped_of_ZipB (by kernel_rfl) (by kernel_rfl)) (by kernel_rfl) (by kernel_rfl) (by kernel_rfl)
      (by rw [MakeChecks.laidMetH_plain _ _ _ (by kernel_rfl)]; exact laidMet_laidAll _ (by kernel_rfl) (by kernel_rfl))) ?_
  intro W base args ds gs before hval0 hW hcnd _ hL _
  have hG : Good W.heap.size W := good hL
  have hval : ∀ (j : Nat) t v, Tryd.f3.params[j]? = some t → args[j]? = some v → Value.okWide Tryd.prog W .any base t v := hval0
  have hW' := hW
  obtain ⟨p, q, hA0, hV, rfl, hfz, hnd⟩ := hW
  have hA : DataW.TrodAll enc Tryd.prog W 0 (fun _ => true) true Tryd.f3.params.toList args.toList ds p := hA0
  rw [Tryd.params3] at hA hval
  obtain ⟨v0, vs0, d0, ds0, p0, q0, hargs, rfl, rfl, k0, r0⟩ := trodAll_cons hA
  obtain ⟨rfl, rfl, rfl⟩ := trodAll_nil r0
  obtain rfl : args = #[v0] := by cases args; simp_all
  obtain ⟨rfl, rfl⟩ := trodVars_none hV
  have lt0 : ∀ x ∈ p0, x.block < W.heap.size := by obtain ⟨m, hm⟩ := k0; exact DataW.trod_lt m _ _ _ hm
  have g0 := k0
  obtain ⟨b0, n0, cp0, F0, c0, rfl, hg0, hle0, hmx0, hF0, hQ0⟩ := open_stS (ls := List.replicate 8 (.bool : Leaf) ++ ([.int .i64] : List Leaf)) (lt := ([.int .i64, .int .i64] : List Leaf)) (ts := [2, 2]) Tryd.underlying24 Tryd.underlying22 (by kernel_rfl) (.cons inferInstance rfl (.cons inferInstance rfl (.nil))) (by rfl) (by kernel_rfl) (by kernel_rfl) (by kernel_rfl) (hval 0 24 v0 rfl rfl) k0
  clear hA0 hval0
  have hst := Sim.start W hG
  obtain ⟨ρ0, T0, a0, he0, hs0, hv0, hS0⟩ := hst.addSl hF0 hQ0
  refine (law_callsM (walk a0 n0 cp0 F0 hF0 ⟨hle0, hmx0⟩ c0 hg0 _ hS0) hs0 (VRs.cons (VR.agg_mk (VRs.cons hv0 (VRs_canon _ hg0))) (VRs.nil _))).mono fun e W' ⟨hee, bel⟩ => ?_
  subst hee
  exact ⟨_, rfl, _, _, _, [], _, [], hW', trodAll_mk1 (shut_bool Tryd.underlying4 _), (trodAll_cons_mk (Below.trod laidOut (by kernel_rfl) (of_decide_eq_true (by kernel_rfl)) g0 bel lt0) trodAll_mk0), rfl, bel.frame _, fun h => by cases h⟩


theorem over : Rows.fnExactPlanTextRow.holds Tryd.pinned (OpenSpec.ofChange Rows.fnExactPlanTextSpec) :=
  OpenClaim.holds_of_wide 3 Tryd.f3 rfl rfl rfl rfl rfl rfl rfl ⟨rfl, rfl, rfl, rfl, rfl⟩ rfl rfl rfl rfl rfl (by kernel_rfl) Tryd.func3 (by kernel_rfl)
    (of_decide_eq_true (by kernel_rfl)) (by unfold Func.isWrapper; first | (rw [if_pos (by decide +kernel)]; kernel_rfl) | (rw [if_neg (by decide +kernel)]; exact ⟨rfl, rfl⟩))
    (fun os started H enc _ => lifted os started H enc)
end Go.Proofs.YtafakhhcgbkfoaaDoor.fnExactPlanText
namespace Go.Proofs.YtafakhhcgbkfoaaDoor
/-- The row's statement. -/
theorem provedFnExactPlanTextRow : Rows.FnExactPlanTextSaid := fnExactPlanText.over
/-- The statement: the tied card. -/
theorem provedFnExactPlanText : Rows.FnExactPlanTextCardSaid :=
  Claim7.holds_tied_plain_at .later [] [.data, .data, .data] true (true, "d214af34d1ef1226df5ce1e65e04456b7a2c8a810c49490c87de4a5c919c24d9") false provedFnExactPlanTextRow (fun _ h => by cases h) (by kernel_rfl) (fun _ h => by cases h) fnExactPlanText_row_tie rfl ⟨rfl, rfl⟩ (by kernel_rfl) rfl
    (fun f fn hf hfn => by
      obtain rfl : f = 3 := Option.some.inj ((show Tryd.prog.funcNamed "loop.example/g01227/laws.FnExactPlanText" = some 3 by kernel_rfl).symm.trans hf) |>.symm
      obtain rfl : fn = Tryd.f3 := (Option.some.inj (Tryd.func3.symm.trans hfn)).symm
      exact ⟨by kernel_rfl, fun j t ht => by
        rw [Tryd.params3] at ht
        have hm : t ∈ [24] := by simpa using Array.mem_of_getElem? ht
        have hall : ([24].all fun u => !Tryd.prog.wantsStandIn u) = true := by kernel_rfl
        exact (show Tryd.prog.wantsStandIn t = false by simpa using List.all_eq_true.1 hall t hm)⟩)
    (by kernel_rfl)
#print axioms provedFnExactPlanText
end Go.Proofs.YtafakhhcgbkfoaaDoor
