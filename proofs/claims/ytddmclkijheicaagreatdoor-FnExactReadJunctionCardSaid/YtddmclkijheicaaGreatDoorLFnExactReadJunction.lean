/- FnExactReadJunction: for every input the law answers true, and its arguments read as they did. Conditions: none. -/
import Derived.Test.YtddmclkijheicaaGreatDoorCards
import Derived.Test.YtddmclkijheicaaGreatDoorTie
import Derived.Lay
import Derived.Stop.LaidErr
import Derived.SevenTiedAt
import Derived.Test.YtddmclkijheicaaGreatDoorArgs
import Derived.Test.YtddmclkijheicaaGreatDoorRz
namespace Go.Proofs.YtddmclkijheicaaGreatDoor.fnExactReadJunction
open Go.RowKit Go.ChangeShapes Go.WideShapes Go.ChangeAt Go.Proofs.YtddmclkijheicaaGreatDoor
set_option linter.unusedVariables false
set_option linter.unusedSimpArgs false

theorem own : ownKnob Tryz.prog.godebug = none := by kernel_rfl
theorem laidOut : laidOutB Tryz.prog = true := by kernel_rfl

/-- The walk: the law's function only reckons, and answers true. -/
theorem walk (a0 : ByteArray) : Pure Tryz.prog 5 [.string a0] [] (.bool true) := by
  have h := wReadJunction a0.data.toList []
  have e : strV a0.data.toList = .string a0 := by
    show Value.string ⟨a0.data.toList.toArray⟩ = _
    simp
  rwa [e] at h



theorem gPow : Tryz.prog.globalNamed "internal/strconv.uint64pow10" = some 3 := by kernel_rfl
theorem gPowTab {W : World} (h : laidMetH Tryz.prog Rows.fnExactReadJunctionRow.laid W) : ∀ w, Below W.heap.size W w → Lib.TabIs Tryz.prog w "internal/strconv.uint64pow10" .u64 Lib.pow10Tab := by
  rw [MakeChecks.laidMetH_plain _ _ _ (by kernel_rfl)] at h
  have ht : Lib.TabIs Tryz.prog W "internal/strconv.uint64pow10" .u64 Lib.pow10Tab := Lib.tabIs_of_head (t := 202) (e := 110) (n := 20) gPow (by kernel_rfl) Tryz.underlying202 Tryz.underlying110 (by kernel_rfl) (by kernel_rfl) (laidMet.tail (laidMet.tail (h)))
  intro w hb
  unfold Lib.TabIs World.var? at ht ⊢
  rw [gPow] at ht ⊢
  simp only [Option.bind_some] at ht ⊢
  have hlt : 3 < W.heap.size := by
    refine Nat.lt_of_not_le fun hle => ?_
    rw [Array.getElem?_eq_none hle] at ht
    exact absurd ht (by simp)
  rw [hb.block _ hlt]
  exact ht

theorem gBru : Tryz.prog.globalNamed "math/bits.deBruijn64tab" = some 8 := by kernel_rfl
theorem gBruTab {W : World} (h : laidMetH Tryz.prog Rows.fnExactReadJunctionRow.laid W) : ∀ w, Below W.heap.size W w → Lib.TabIs Tryz.prog w "math/bits.deBruijn64tab" .u8 [0, 1, 56, 2, 57, 49, 28, 3, 61, 58, 42, 50, 38, 29, 17, 4, 62, 47, 59, 36, 45, 43, 51, 22, 53, 39, 33, 30, 24, 18, 12, 5, 63, 55, 48, 27, 60, 41, 37, 16, 46, 35, 44, 21, 52, 32, 23, 11, 54, 26, 40, 15, 34, 20, 31, 10, 25, 14, 19, 9, 13, 8, 7, 6] := by
  rw [MakeChecks.laidMetH_plain _ _ _ (by kernel_rfl)] at h
  have ht : Lib.TabIs Tryz.prog W "math/bits.deBruijn64tab" .u8 [0, 1, 56, 2, 57, 49, 28, 3, 61, 58, 42, 50, 38, 29, 17, 4, 62, 47, 59, 36, 45, 43, 51, 22, 53, 39, 33, 30, 24, 18, 12, 5, 63, 55, 48, 27, 60, 41, 37, 16, 46, 35, 44, 21, 52, 32, 23, 11, 54, 26, 40, 15, 34, 20, 31, 10, 25, 14, 19, 9, 13, 8, 7, 6] := Lib.tabIs_of_head (t := 216) (e := 5) (n := 64) gBru (by kernel_rfl) Tryz.underlying216 Tryz.underlying5 (by kernel_rfl) (by kernel_rfl) (laidMet.tail (h))
  intro w hb
  unfold Lib.TabIs World.var? at ht ⊢
  rw [gBru] at ht ⊢
  simp only [Option.bind_some] at ht ⊢
  have hlt : 8 < W.heap.size := by
    refine Nat.lt_of_not_le fun hle => ?_
    rw [Array.getElem?_eq_none hle] at ht
    exact absurd ht (by simp)
  rw [hb.block _ hlt]
  exact ht

theorem gSyn : Tryz.prog.globalNamed "strconv.ErrSyntax" = some 1 := by kernel_rfl
theorem gSynErr {W : World} (h : laidMetH Tryz.prog Rows.fnExactReadJunctionRow.laid W) : ∀ w, Below W.heap.size W w → ∃ tp p, w.var? Tryz.prog "strconv.ErrSyntax" = some #[.iface tp p] := by
  rw [MakeChecks.laidMetH_plain _ _ _ (by kernel_rfl)] at h
  obtain ⟨a, _, ht, _, _, _⟩ := laid_sentinel (P := Tryz.prog) (n := "strconv.ErrSyntax") (ts := 9) (laidMet.tail (laidMet.tail (laidMet.tail (laidMet.tail (laidMet.tail (h)))))) gSyn (ti := 112) (by kernel_rfl) Tryz.underlying112 (tp := 206)
    (fun u hu => typeName_ptr_named (nm := "errors.errorString") (by rw [show "*" ++ "errors.errorString" = "*errors.errorString" by decide]; kernel_rfl) (by kernel_rfl) (by decide) u (by rw [show "*" ++ "errors.errorString" = "*errors.errorString" by decide]; exact hu))
    Tryz.underlying206 Tryz.underlying208 rfl rfl Tryz.underlying9 (by kernel_rfl) (by kernel_rfl)
  intro w hb
  refine ⟨206, .pointer (some a), ?_⟩
  unfold World.var? at ht ⊢
  rw [gSyn] at ht ⊢
  simp only [Option.bind_some] at ht ⊢
  have hlt : 1 < W.heap.size := by
    refine Nat.lt_of_not_le fun hle => ?_
    rw [Array.getElem?_eq_none hle] at ht
    exact absurd ht (by simp)
  rw [hb.block _ hlt]
  exact ht

theorem gRng : Tryz.prog.globalNamed "strconv.ErrRange" = some 2 := by kernel_rfl
theorem gRngErr {W : World} (h : laidMetH Tryz.prog Rows.fnExactReadJunctionRow.laid W) : ∀ w, Below W.heap.size W w → ∃ tp p, w.var? Tryz.prog "strconv.ErrRange" = some #[.iface tp p] := by
  rw [MakeChecks.laidMetH_plain _ _ _ (by kernel_rfl)] at h
  obtain ⟨a, _, ht, _, _, _⟩ := laid_sentinel (P := Tryz.prog) (n := "strconv.ErrRange") (ts := 9) (laidMet.tail (laidMet.tail (laidMet.tail (laidMet.tail (h))))) gRng (ti := 112) (by kernel_rfl) Tryz.underlying112 (tp := 206)
    (fun u hu => typeName_ptr_named (nm := "errors.errorString") (by rw [show "*" ++ "errors.errorString" = "*errors.errorString" by decide]; kernel_rfl) (by kernel_rfl) (by decide) u (by rw [show "*" ++ "errors.errorString" = "*errors.errorString" by decide]; exact hu))
    Tryz.underlying206 Tryz.underlying208 rfl rfl Tryz.underlying9 (by kernel_rfl) (by kernel_rfl)
  intro w hb
  refine ⟨206, .pointer (some a), ?_⟩
  unfold World.var? at ht ⊢
  rw [gRng] at ht ⊢
  simp only [Option.bind_some] at ht ⊢
  have hlt : 2 < W.heap.size := by
    refine Nat.lt_of_not_le fun hle => ?_
    rw [Array.getElem?_eq_none hle] at ht
    exact absurd ht (by simp)
  rw [hb.block _ hlt]
  exact ht

theorem gMax {W : World} (h : W.ShapedOpen Tryz.prog) : ∀ w, Below W.heap.size W w → ∃ m, w.cell? ⟨4, 0, none⟩ = some (.int .i64 m) := by
  intro w hb
  obtain ⟨m, hm⟩ := Tryz.laysM146.s1_3 W h
  have hm2 : W.cell? ⟨4, 0, none⟩ = some (.int .i64 m) := hm
  refine ⟨m, ?_⟩
  have hlt : 4 < W.heap.size := Lib.lt_of_cell hm2
  rw [← hm2]
  unfold World.cell?
  rw [hb.block _ hlt]
/-- The plain wrap, with what is laid, and the shape of the world. -/
theorem retAndShaped {H : Type} {enc : TypeId × Value → H} {a : Assume} {C : Checked} {os : Os} {f : FuncId} {fn : Func} {s : ChangeSpec} {conds : List PathCond} {apart fresh handsOn again : Bool} {X : World → Array Value → Prop}
    (hX : ∀ (w w' : World) (args : Array Value), w.heap = w'.heap → X w args → X w' args)
    (own : ownKnob C.prog.godebug = none) (started : os.Started) (noInit : C.prog.inits.idxOf? f = none) (hfn : C.prog.funcs[f]? = some fn)
    (witness : ∃ (w : World) (tape : Tape) (i : Input), w.os = os ∧ (w.forCall tape i).Shaped C.prog ∧ i.vars = [] ∧ Input.okWide C.prog (w.forCall tape i) .any w.heap.size f i ∧
      ((s.pre enc C.prog fn conds apart (w.forCall tape i).memory i.args ∧ X (w.forCall tape i).memory i.args) ∧ sizedMet enc C.prog fn (OpenSpec.ofChange s) apart (w.forCall tape i).memory i.args) ∧ a.holds C.prog (lone (Frame.enter C.prog f i.args .normal) [] (w.forCall tape i)))
    (contract : ∀ (W : World) (base : Nat) (args : Array Value) (ds gs : List (DataW H)) (before : List MemPlace),
      (∀ (j : Nat) t v, fn.params[j]? = some t → args[j]? = some v → Value.okWide C.prog W .any base t v) →
      DataW.Whole enc C.prog fn.params.toList s.vars apart W args.toList ds gs before →
      conds.all (PathCond.test C.prog ⟨fn.params.toList, ds, s.plain.varTypes C.prog, gs⟩) = true →
      (DataW.weightsEach C.prog (fn.params.toList ++ s.plain.varTypes C.prog) (ds ++ gs)).all (· ≤ reachBytes) = true → X W args → W.ShapedOpen C.prog →
      a.holds C.prog (lone (Frame.enter C.prog f args .normal) [] W) →
      Calls C.prog f args W fun e W' => ∃ v, e = .returned v ∧ s.post enc C.prog fn apart fresh handsOn again W args v W') :
    ReturnsInHanded a C os f .any (fun w args => (s.pre enc C.prog fn conds apart w args ∧ X w args) ∧ sizedMet enc C.prog fn (OpenSpec.ofChange s) apart w args) (s.post enc C.prog fn apart fresh handsOn again) := by
  refine returnsInHanded_of_calls own started noInit witness ?_
  intro w tape i _ hsh _ hok hpre hholds
  obtain ⟨_, _, _, fn', hfn', _, _, _, _, hval⟩ := hok
  have e : fn' = fn := Option.some.inj (hfn'.symm.trans hfn)
  subst e
  obtain ⟨⟨⟨ds, gs, before, hw, hc⟩, hx⟩, hz⟩ := hpre
  have hw' := DataW.Whole.of_heap (w' := w.forCall tape i) (by rfl) hw
  refine (contract (w.forCall tape i) w.heap.size i.args ds gs before hval hw' hc (hz.weights hw) (hX _ _ _ (by rfl) hx) hsh hholds).mono fun e W' ⟨v, he, hp⟩ => ?_
  subst he
  exact ChangeSpec.post_blind hp

/-- What is laid, out of what the row lists. -/
theorem good {W : World} (h : laidMetH Tryz.prog Rows.fnExactReadJunctionRow.laid W) (hsh : W.ShapedOpen Tryz.prog) : Good W.heap.size W := fun w hb => ⟨gPowTab h w hb, gBruTab h w hb, gMax hsh w hb, gSynErr h w hb, gRngErr h w hb⟩


set_option maxRecDepth 100000 in
theorem lifted (os : Os) (started : os.Started) (H : Type) (enc : TypeId × Value → H) :
    ReturnsInHanded {} Tryz.checked os 5 .any (fun w args => (Rows.fnExactReadJunctionSpec.pre enc Tryz.prog Tryz.f5 Rows.fnExactReadJunctionRow.domain false w args ∧ laidMetH Tryz.prog Rows.fnExactReadJunctionRow.laid w) ∧ sizedMet enc Tryz.prog Tryz.f5 (OpenSpec.ofChange Rows.fnExactReadJunctionSpec) false w args) (Rows.fnExactReadJunctionSpec.post enc Tryz.prog Tryz.f5 false true false false) := by
  refine retAndShaped (C := Tryz.checked) (X := fun w _ => laidMetH Tryz.prog Rows.fnExactReadJunctionRow.laid w) (fun _ _ _ hh h => h.of_heap hh) own started (by kernel_rfl) Tryz.func5
    (ChangeSpec.witness_shaped (enc := enc) (C := Tryz.checked) (os := os) (X := fun w _ => laidMetH Tryz.prog Rows.fnExactReadJunctionRow.laid w) false (World.laidAll Tryz.prog os Rows.fnExactReadJunctionRow.laid) #[.string ByteArray.empty] 8 (World.laidAll_os _ _ _)
      (World.shaped_of_ZipB (by kernel_rfl) (by kernel_rfl)) (by kernel_rfl) (by kernel_rfl) (by kernel_rfl)
      (by rw [MakeChecks.laidMetH_plain _ _ _ (by kernel_rfl)]; exact laidMet_laidAll _ (by kernel_rfl) (by kernel_rfl))) ?_
  intro W base args ds gs before hval0 hW hcnd _ hL hsh _
  have hG : Good W.heap.size W := good hL hsh
  have hval : ∀ (j : Nat) t v, Tryz.f5.params[j]? = some t → args[j]? = some v → Value.okWide Tryz.prog W .any base t v := hval0
  have hW' := hW
  obtain ⟨p, q, hA0, hV, rfl, hfz, hnd⟩ := hW
  have hA : DataW.TrodAll enc Tryz.prog W 0 (fun _ => true) true Tryz.f5.params.toList args.toList ds p := hA0
  rw [Tryz.params5] at hA hval
  obtain ⟨v0, vs0, d0, ds0, p0, q0, hargs, rfl, rfl, k0, r0⟩ := trodAll_cons hA
  obtain ⟨rfl, rfl, rfl⟩ := trodAll_nil r0
  obtain rfl : args = #[v0] := by cases args; simp_all
  obtain ⟨rfl, rfl⟩ := trodVars_none hV
  have lt0 : ∀ x ∈ p0, x.block < W.heap.size := by obtain ⟨m, hm⟩ := k0; exact DataW.trod_lt m _ _ _ hm
  have g0 := k0
  obtain ⟨a0, rfl⟩ := okWide_string Tryz.underlying9 (hval 0 9 v0 rfl rfl)
  clear hA0 hval0
  refine (law_calls (walk a0) (VRs.cons (.base rfl) (VRs.nil _)) (hG)).mono fun e W' ⟨hee, bel⟩ => ?_
  subst hee
  exact ⟨_, rfl, _, _, _, [], _, [], hW', trodAll_mk1 (shut_bool Tryz.underlying4 _), (trodAll_cons_mk (Below.trod laidOut (by kernel_rfl) (of_decide_eq_true (by kernel_rfl)) g0 bel lt0) trodAll_mk0), rfl, bel.frame _, fun h => by cases h⟩


theorem over : Rows.fnExactReadJunctionRow.holds Tryz.pinned (OpenSpec.ofChange Rows.fnExactReadJunctionSpec) :=
  OpenClaim.holds_of_wide 5 Tryz.f5 rfl rfl rfl rfl rfl rfl rfl ⟨rfl, rfl, rfl, rfl, rfl⟩ rfl rfl rfl rfl rfl (by kernel_rfl) Tryz.func5 (by kernel_rfl)
    (of_decide_eq_true (by kernel_rfl)) (by unfold Func.isWrapper; first | (rw [if_pos (by decide +kernel)]; kernel_rfl) | (rw [if_neg (by decide +kernel)]; exact ⟨rfl, rfl⟩))
    (fun os started H enc _ => lifted os started H enc)
end Go.Proofs.YtddmclkijheicaaGreatDoor.fnExactReadJunction
namespace Go.Proofs.YtddmclkijheicaaGreatDoor
/-- The row's statement. -/
theorem provedFnExactReadJunctionRow : Rows.FnExactReadJunctionSaid := fnExactReadJunction.over
/-- The statement: the tied card. -/
theorem provedFnExactReadJunction : Rows.FnExactReadJunctionCardSaid :=
  Claim7.holds_tied_plain_at .later [] [.data, .data, .data, .data, .sentinel, .sentinel, .pinned] true (true, "5e439e2576fd4d8db873154fa6d2641841d48d6f0b8ee035f036c6406a37d64c") true provedFnExactReadJunctionRow (fun _ h => by cases h) (by kernel_rfl) (fun _ h => by cases h) fnExactReadJunction_row_tie rfl ⟨rfl, rfl⟩ (by kernel_rfl) rfl
    (fun f fn hf hfn => by
      obtain rfl : f = 5 := Option.some.inj ((show Tryz.prog.funcNamed "loop.example/g01227/laws.FnExactReadJunction" = some 5 by kernel_rfl).symm.trans hf) |>.symm
      obtain rfl : fn = Tryz.f5 := (Option.some.inj (Tryz.func5.symm.trans hfn)).symm
      exact ⟨by kernel_rfl, fun j t ht => by
        rw [Tryz.params5] at ht
        have hm : t ∈ [9] := by simpa using Array.mem_of_getElem? ht
        have hall : ([9].all fun u => !Tryz.prog.wantsStandIn u) = true := by kernel_rfl
        exact (show Tryz.prog.wantsStandIn t = false by simpa using List.all_eq_true.1 hall t hm)⟩)
    (by kernel_rfl)
#print axioms provedFnExactReadJunction
end Go.Proofs.YtddmclkijheicaaGreatDoor
