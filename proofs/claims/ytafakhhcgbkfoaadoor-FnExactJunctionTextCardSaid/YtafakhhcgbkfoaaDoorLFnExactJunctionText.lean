/- FnExactJunctionText: for every input the law answers true, and its arguments read as they did. Conditions: none. -/
import Derived.Test.YtafakhhcgbkfoaaDoorCards
import Derived.Test.YtafakhhcgbkfoaaDoorTie
import Derived.Lay
import Derived.Stop.LaidErr
import Derived.SevenTiedAt
import Derived.Test.YtafakhhcgbkfoaaDoorArgs
import Derived.Test.YtafakhhcgbkfoaaDoorJy
namespace Go.Proofs.YtafakhhcgbkfoaaDoor.fnExactJunctionText
open Go.RowKit Go.ChangeShapes Go.WideShapes Go.ChangeAt Go.Proofs.YtafakhhcgbkfoaaDoor
set_option linter.unusedVariables false
set_option linter.unusedSimpArgs false

theorem own : ownKnob Tryd.prog.godebug = none := by kernel_rfl
theorem laidOut : laidOutB Tryd.prog = true := by kernel_rfl

/-- The walk: the law's function only reckons, and answers true. -/
theorem walk (c0 : List Value) (h0 : Leaves (([.int .i64, .int .i64] : List Leaf) ++ List.replicate 16 (.float .f32 : Leaf) ++ List.replicate 4 (.float .f32 : Leaf)) c0) : Pure Tryd.prog 4 [.agg (c0.map canon).toArray] [] (.bool true) := by
  obtain ⟨ins, outs, h, e⟩ := jn_leaves h0
  rw [e]
  exact wJunctionText ins outs h []



theorem gPow : Tryd.prog.globalNamed "internal/strconv.uint64pow10" = some 1 := by kernel_rfl
theorem gPowTab {W : World} (h : laidMetH Tryd.prog Rows.fnExactJunctionTextRow.laid W) : ∀ w, Below W.heap.size W w → Lib.TabIs Tryd.prog w "internal/strconv.uint64pow10" .u64 Lib.pow10Tab := by
  rw [MakeChecks.laidMetH_plain _ _ _ (by kernel_rfl)] at h
  have ht : Lib.TabIs Tryd.prog W "internal/strconv.uint64pow10" .u64 Lib.pow10Tab := Lib.tabIs_of_head (t := 124) (e := 93) (n := 20) gPow (by kernel_rfl) Tryd.underlying124 Tryd.underlying93 (by kernel_rfl) (by kernel_rfl) (laidMet.tail (laidMet.tail (h)))
  intro w hb
  unfold Lib.TabIs World.var? at ht ⊢
  rw [gPow] at ht ⊢
  simp only [Option.bind_some] at ht ⊢
  have hlt : 1 < W.heap.size := by
    refine Nat.lt_of_not_le fun hle => ?_
    rw [Array.getElem?_eq_none hle] at ht
    exact absurd ht (by simp)
  rw [hb.block _ hlt]
  exact ht

theorem gBru : Tryd.prog.globalNamed "math/bits.deBruijn64tab" = some 4 := by kernel_rfl
theorem gBruTab {W : World} (h : laidMetH Tryd.prog Rows.fnExactJunctionTextRow.laid W) : ∀ w, Below W.heap.size W w → Lib.TabIs Tryd.prog w "math/bits.deBruijn64tab" .u8 [0, 1, 56, 2, 57, 49, 28, 3, 61, 58, 42, 50, 38, 29, 17, 4, 62, 47, 59, 36, 45, 43, 51, 22, 53, 39, 33, 30, 24, 18, 12, 5, 63, 55, 48, 27, 60, 41, 37, 16, 46, 35, 44, 21, 52, 32, 23, 11, 54, 26, 40, 15, 34, 20, 31, 10, 25, 14, 19, 9, 13, 8, 7, 6] := by
  rw [MakeChecks.laidMetH_plain _ _ _ (by kernel_rfl)] at h
  have ht : Lib.TabIs Tryd.prog W "math/bits.deBruijn64tab" .u8 [0, 1, 56, 2, 57, 49, 28, 3, 61, 58, 42, 50, 38, 29, 17, 4, 62, 47, 59, 36, 45, 43, 51, 22, 53, 39, 33, 30, 24, 18, 12, 5, 63, 55, 48, 27, 60, 41, 37, 16, 46, 35, 44, 21, 52, 32, 23, 11, 54, 26, 40, 15, 34, 20, 31, 10, 25, 14, 19, 9, 13, 8, 7, 6] := Lib.tabIs_of_head (t := 130) (e := 5) (n := 64) gBru (by kernel_rfl) Tryd.underlying130 Tryd.underlying5 (by kernel_rfl) (by kernel_rfl) (laidMet.tail (h))
  intro w hb
  unfold Lib.TabIs World.var? at ht ⊢
  rw [gBru] at ht ⊢
  simp only [Option.bind_some] at ht ⊢
  have hlt : 4 < W.heap.size := by
    refine Nat.lt_of_not_le fun hle => ?_
    rw [Array.getElem?_eq_none hle] at ht
    exact absurd ht (by simp)
  rw [hb.block _ hlt]
  exact ht

/-- What is laid, out of what the row lists. -/
theorem good {W : World} (h : laidMetH Tryd.prog Rows.fnExactJunctionTextRow.laid W) : Good W.heap.size W := fun w hb => ⟨gPowTab h w hb, gBruTab h w hb⟩


set_option maxRecDepth 100000 in
theorem lifted (os : Os) (started : os.Started) (H : Type) (enc : TypeId × Value → H) :
    ReturnsInHanded {} Tryd.checked os 4 .any (fun w args => (Rows.fnExactJunctionTextSpec.pre enc Tryd.prog Tryd.f4 Rows.fnExactJunctionTextRow.domain false w args ∧ laidMetH Tryd.prog Rows.fnExactJunctionTextRow.laid w) ∧ sizedMet enc Tryd.prog Tryd.f4 (OpenSpec.ofChange Rows.fnExactJunctionTextSpec) false w args) (Rows.fnExactJunctionTextSpec.post enc Tryd.prog Tryd.f4 false true false false) := by
  refine returnsInHanded_of_change_and (C := Tryd.checked) (X := fun w _ => laidMetH Tryd.prog Rows.fnExactJunctionTextRow.laid w) (fun _ _ _ hh h => h.of_heap hh) own started (by kernel_rfl) Tryd.func4
    (ChangeSpec.witness_shaped (enc := enc) (C := Tryd.checked) (os := os) (X := fun w _ => laidMetH Tryd.prog Rows.fnExactJunctionTextRow.laid w) false (World.laidAll Tryd.prog os Rows.fnExactJunctionTextRow.laid) #[.agg #[.int .i64 0, .int .i64 0, .float .f32 0, .float .f32 0, .float .f32 0, .float .f32 0, .float .f32 0, .float .f32 0, .float .f32 0, .float .f32 0, .float .f32 0, .float .f32 0, .float .f32 0, .float .f32 0, .float .f32 0, .float .f32 0, .float .f32 0, .float .f32 0, .float .f32 0, .float .f32 0, .float .f32 0, .float .f32 0]] 8 (World.laidAll_os _ _ _)
      (World.shaped_of_ZipB (by kernel_rfl) (by kernel_rfl)) (by kernel_rfl) (by kernel_rfl) (by kernel_rfl)
      (by rw [MakeChecks.laidMetH_plain _ _ _ (by kernel_rfl)]; exact laidMet_laidAll _ (by kernel_rfl) (by kernel_rfl))) ?_
  intro W base args ds gs before hval0 hW hcnd _ hL _
  have hG : Good W.heap.size W := good hL
  have hval : ∀ (j : Nat) t v, Tryd.f4.params[j]? = some t → args[j]? = some v → Value.okWide Tryd.prog W .any base t v := hval0
  have hW' := hW
  obtain ⟨p, q, hA0, hV, rfl, hfz, hnd⟩ := hW
  have hA : DataW.TrodAll enc Tryd.prog W 0 (fun _ => true) true Tryd.f4.params.toList args.toList ds p := hA0
  rw [Tryd.params4] at hA hval
  obtain ⟨v0, vs0, d0, ds0, p0, q0, hargs, rfl, rfl, k0, r0⟩ := trodAll_cons hA
  obtain ⟨rfl, rfl, rfl⟩ := trodAll_nil r0
  obtain rfl : args = #[v0] := by cases args; simp_all
  obtain ⟨rfl, rfl⟩ := trodVars_none hV
  have lt0 : ∀ x ∈ p0, x.block < W.heap.size := by obtain ⟨m, hm⟩ := k0; exact DataW.trod_lt m _ _ _ hm
  have g0 := k0
  obtain ⟨c0, rfl, hc0⟩ := open_flat (ls := ([.int .i64, .int .i64] : List Leaf) ++ List.replicate 16 (.float .f32 : Leaf) ++ List.replicate 4 (.float .f32 : Leaf)) (n := 0) (e := 0) (.inl Tryd.underlying37) (hval 0 37 v0 rfl rfl) k0
  clear hA0 hval0
  refine (law_calls (walk c0 hc0) (VRs.cons (VR_canon _ hc0) (VRs.nil _)) (hG)).mono fun e W' ⟨hee, bel⟩ => ?_
  subst hee
  exact ⟨_, rfl, _, _, _, [], _, [], hW', trodAll_mk1 (shut_bool Tryd.underlying4 _), (trodAll_cons_mk (Below.trod laidOut (by kernel_rfl) (of_decide_eq_true (by kernel_rfl)) g0 bel lt0) trodAll_mk0), rfl, bel.frame _, fun h => by cases h⟩


theorem over : Rows.fnExactJunctionTextRow.holds Tryd.pinned (OpenSpec.ofChange Rows.fnExactJunctionTextSpec) :=
  OpenClaim.holds_of_wide 4 Tryd.f4 rfl rfl rfl rfl rfl rfl rfl ⟨rfl, rfl, rfl, rfl, rfl⟩ rfl rfl rfl rfl rfl (by kernel_rfl) Tryd.func4 (by kernel_rfl)
    (of_decide_eq_true (by kernel_rfl)) (by unfold Func.isWrapper; first | (rw [if_pos (by decide +kernel)]; kernel_rfl) | (rw [if_neg (by decide +kernel)]; exact ⟨rfl, rfl⟩))
    (fun os started H enc _ => lifted os started H enc)
end Go.Proofs.YtafakhhcgbkfoaaDoor.fnExactJunctionText
namespace Go.Proofs.YtafakhhcgbkfoaaDoor
/-- The row's statement. -/
theorem provedFnExactJunctionTextRow : Rows.FnExactJunctionTextSaid := fnExactJunctionText.over
/-- The statement: the tied card. -/
theorem provedFnExactJunctionText : Rows.FnExactJunctionTextCardSaid :=
  Claim7.holds_tied_plain_at .later [] [.data, .data, .data] true (true, "d214af34d1ef1226df5ce1e65e04456b7a2c8a810c49490c87de4a5c919c24d9") false provedFnExactJunctionTextRow (fun _ h => by cases h) (by kernel_rfl) (fun _ h => by cases h) fnExactJunctionText_row_tie rfl ⟨rfl, rfl⟩ (by kernel_rfl) rfl
    (fun f fn hf hfn => by
      obtain rfl : f = 4 := Option.some.inj ((show Tryd.prog.funcNamed "loop.example/g01227/laws.FnExactJunctionText" = some 4 by kernel_rfl).symm.trans hf) |>.symm
      obtain rfl : fn = Tryd.f4 := (Option.some.inj (Tryd.func4.symm.trans hfn)).symm
      exact ⟨by kernel_rfl, fun j t ht => by
        rw [Tryd.params4] at ht
        have hm : t ∈ [37] := by simpa using Array.mem_of_getElem? ht
        have hall : ([37].all fun u => !Tryd.prog.wantsStandIn u) = true := by kernel_rfl
        exact (show Tryd.prog.wantsStandIn t = false by simpa using List.all_eq_true.1 hall t hm)⟩)
    (by kernel_rfl)
#print axioms provedFnExactJunctionText
end Go.Proofs.YtafakhhcgbkfoaaDoor
