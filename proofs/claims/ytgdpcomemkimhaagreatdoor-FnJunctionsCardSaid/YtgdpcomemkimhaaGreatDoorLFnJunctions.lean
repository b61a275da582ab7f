/- FnJunctions: for every input the law answers true, and its arguments read as they did. Conditions: none. -/
import Derived.Test.YtgdpcomemkimhaaGreatDoorCards
import Derived.Test.YtgdpcomemkimhaaGreatDoorTie
import Derived.Lay
import Derived.Stop.LaidErr
import Derived.SevenTiedAt
import Derived.Test.YtgdpcomemkimhaaGreatDoorArgs
import Derived.Test.YtgdpcomemkimhaaGreatDoorGl
import Derived.Test.YtgdpcomemkimhaaGreatDoorBy
namespace Go.Proofs.YtgdpcomemkimhaaGreatDoor.fnJunctions
open Go.RowKit Go.ChangeShapes Go.WideShapes Go.ChangeAt Go.Proofs.YtgdpcomemkimhaaGreatDoor
set_option linter.unusedVariables false
set_option linter.unusedSimpArgs false

theorem own : ownKnob Tryz.prog.godebug = none := by kernel_rfl
theorem laidOut : laidOutB Tryz.prog = true := by kernel_rfl

/-- The walk: the law's function only reckons, and answers true. -/
theorem walk (a0 : Option Addr) (n0 cp0 : Nat) (F0 : Nat → List Value) (h0 : ∀ i, i < n0 → Leaves (([.int .u8] : List Leaf)) (F0 i)) (hcp0 : n0 ≤ cp0 ∧ cp0 ≤ maxLen) (a1 : Option Addr) (n1 cp1 : Nat) (F1 : Nat → List Value) (h1 : ∀ i, i < n1 → Leaves (([.int .u8] : List Leaf)) (F1 i)) (hcp1 : n1 ≤ cp1 ∧ cp1 ≤ maxLen) (M : Mem) (hS0 : SlAt M a0 n0 (rows n0 fun i => (F0 i).map canon)) (hS1 : SlAt M a1 n1 (rows n1 fun i => (F1 i).map canon)) : Pure Tryz.prog 3 [.slice a0 n0 cp0, .slice a1 n1 cp1] M (.bool true) := by
  obtain ⟨cd, hcd, hR⟩ := byte_rows h0
  obtain ⟨cd', hcd', hR'⟩ := byte_rows h1
  rw [hR] at hS0
  rw [hR'] at hS1
  have hm : maxLen ≤ 9223372036854775807 := by decide
  exact wJun a0 a1 n0 n1 cp0 cp1 cd cd' M (by omega) (by omega) hcd hcd' hS0 hS1



theorem gPow : Tryz.prog.globalNamed "internal/strconv.uint64pow10" = some 3 := by kernel_rfl
theorem gPowTab {W : World} (h : laidMetH Tryz.prog Rows.fnJunctionsRow.laid W) : ∀ w, Below W.heap.size W w → Lib.TabIs Tryz.prog w "internal/strconv.uint64pow10" .u64 Lib.pow10Tab := by
  rw [MakeChecks.laidMetH_plain _ _ _ (by kernel_rfl)] at h
  have ht : Lib.TabIs Tryz.prog W "internal/strconv.uint64pow10" .u64 Lib.pow10Tab := Lib.tabIs_of_head (t := 194) (e := 109) (n := 20) gPow (by kernel_rfl) Tryz.underlying194 Tryz.underlying109 (by kernel_rfl) (by kernel_rfl) (laidMet.tail (laidMet.tail (h)))
  intro w hb
  unfold Lib.TabIs World.var? at ht ⊢
  rw [gPow] at ht ⊢
  simp only [Option.bind_some] at ht ⊢
  have hlt : 3 < W.heap.size := by
    refine Nat.lt_of_not_le fun hle => ?_
    rw [Array.getElem?_eq_none hle] at ht
    exact absurd ht (by simp)
  rw [hb.block _ hlt]
  exact ht

theorem gBru : Tryz.prog.globalNamed "math/bits.deBruijn64tab" = some 8 := by kernel_rfl
theorem gBruTab {W : World} (h : laidMetH Tryz.prog Rows.fnJunctionsRow.laid W) : ∀ w, Below W.heap.size W w → Lib.TabIs Tryz.prog w "math/bits.deBruijn64tab" .u8 [0, 1, 56, 2, 57, 49, 28, 3, 61, 58, 42, 50, 38, 29, 17, 4, 62, 47, 59, 36, 45, 43, 51, 22, 53, 39, 33, 30, 24, 18, 12, 5, 63, 55, 48, 27, 60, 41, 37, 16, 46, 35, 44, 21, 52, 32, 23, 11, 54, 26, 40, 15, 34, 20, 31, 10, 25, 14, 19, 9, 13, 8, 7, 6] := by
  rw [MakeChecks.laidMetH_plain _ _ _ (by kernel_rfl)] at h
  have ht : Lib.TabIs Tryz.prog W "math/bits.deBruijn64tab" .u8 [0, 1, 56, 2, 57, 49, 28, 3, 61, 58, 42, 50, 38, 29, 17, 4, 62, 47, 59, 36, 45, 43, 51, 22, 53, 39, 33, 30, 24, 18, 12, 5, 63, 55, 48, 27, 60, 41, 37, 16, 46, 35, 44, 21, 52, 32, 23, 11, 54, 26, 40, 15, 34, 20, 31, 10, 25, 14, 19, 9, 13, 8, 7, 6] := Lib.tabIs_of_head (t := 208) (e := 5) (n := 64) gBru (by kernel_rfl) Tryz.underlying208 Tryz.underlying5 (by kernel_rfl) (by kernel_rfl) (laidMet.tail (h))
  intro w hb
  unfold Lib.TabIs World.var? at ht ⊢
  rw [gBru] at ht ⊢
  simp only [Option.bind_some] at ht ⊢
  have hlt : 8 < W.heap.size := by
    refine Nat.lt_of_not_le fun hle => ?_
    rw [Array.getElem?_eq_none hle] at ht
    exact absurd ht (by simp)
  rw [hb.block _ hlt]
  exact ht

theorem gSyn : Tryz.prog.globalNamed "strconv.ErrSyntax" = some 1 := by kernel_rfl
theorem gSynErr {W : World} (h : laidMetH Tryz.prog Rows.fnJunctionsRow.laid W) : ∀ w, Below W.heap.size W w → ∃ tp p, w.var? Tryz.prog "strconv.ErrSyntax" = some #[.iface tp p] := by
  rw [MakeChecks.laidMetH_plain _ _ _ (by kernel_rfl)] at h
  obtain ⟨a, _, ht, _, _, _⟩ := laid_sentinel (P := Tryz.prog) (n := "strconv.ErrSyntax") (ts := 9) (laidMet.tail (laidMet.tail (laidMet.tail (laidMet.tail (laidMet.tail (h)))))) gSyn (ti := 111) (by kernel_rfl) Tryz.underlying111 (tp := 198)
    (fun u hu => typeName_ptr_named (nm := "errors.errorString") (by rw [show "*" ++ "errors.errorString" = "*errors.errorString" by decide]; kernel_rfl) (by kernel_rfl) (by decide) u (by rw [show "*" ++ "errors.errorString" = "*errors.errorString" by decide]; exact hu))
    Tryz.underlying198 Tryz.underlying200 rfl rfl Tryz.underlying9 (by kernel_rfl) (by kernel_rfl)
  intro w hb
  refine ⟨198, .pointer (some a), ?_⟩
  unfold World.var? at ht ⊢
  rw [gSyn] at ht ⊢
  simp only [Option.bind_some] at ht ⊢
  have hlt : 1 < W.heap.size := by
    refine Nat.lt_of_not_le fun hle => ?_
    rw [Array.getElem?_eq_none hle] at ht
    exact absurd ht (by simp)
  rw [hb.block _ hlt]
  exact ht

theorem gRng : Tryz.prog.globalNamed "strconv.ErrRange" = some 2 := by kernel_rfl
theorem gRngErr {W : World} (h : laidMetH Tryz.prog Rows.fnJunctionsRow.laid W) : ∀ w, Below W.heap.size W w → ∃ tp p, w.var? Tryz.prog "strconv.ErrRange" = some #[.iface tp p] := by
  rw [MakeChecks.laidMetH_plain _ _ _ (by kernel_rfl)] at h
  obtain ⟨a, _, ht, _, _, _⟩ := laid_sentinel (P := Tryz.prog) (n := "strconv.ErrRange") (ts := 9) (laidMet.tail (laidMet.tail (laidMet.tail (laidMet.tail (h))))) gRng (ti := 111) (by kernel_rfl) Tryz.underlying111 (tp := 198)
    (fun u hu => typeName_ptr_named (nm := "errors.errorString") (by rw [show "*" ++ "errors.errorString" = "*errors.errorString" by decide]; kernel_rfl) (by kernel_rfl) (by decide) u (by rw [show "*" ++ "errors.errorString" = "*errors.errorString" by decide]; exact hu))
    Tryz.underlying198 Tryz.underlying200 rfl rfl Tryz.underlying9 (by kernel_rfl) (by kernel_rfl)
  intro w hb
  refine ⟨198, .pointer (some a), ?_⟩
  unfold World.var? at ht ⊢
  rw [gRng] at ht ⊢
  simp only [Option.bind_some] at ht ⊢
  have hlt : 2 < W.heap.size := by
    refine Nat.lt_of_not_le fun hle => ?_
    rw [Array.getElem?_eq_none hle] at ht
    exact absurd ht (by simp)
  rw [hb.block _ hlt]
  exact ht

theorem gMax {W : World} (h : W.ShapedOpen Tryz.prog) : ∀ w, Below W.heap.size W w → ∃ m, w.cell? ⟨4, 0, none⟩ = some (.int .i64 m) := by
  intro w hb
  obtain ⟨m, hm⟩ := Tryz.laysM146.s1_3 W h
  have hm2 : W.cell? ⟨4, 0, none⟩ = some (.int .i64 m) := hm
  refine ⟨m, ?_⟩
  have hlt : 4 < W.heap.size := Lib.lt_of_cell hm2
  rw [← hm2]
  unfold World.cell?
  rw [hb.block _ hlt]
/-- The plain wrap, with what is laid, and the shape of the world. -/
theorem retAndShaped {H : Type} {enc : TypeId × Value → H} {a : Assume} {C : Checked} {os : Os} {f : FuncId} {fn : Func} {s : ChangeSpec} {conds : List PathCond} {apart fresh handsOn again : Bool} {X : World → Array Value → Prop}
    (hX : ∀ (w w' : World) (args : Array Value), w.heap = w'.heap → X w args → X w' args)
    (own : ownKnob C.prog.godebug = none) (started : os.Started) (noInit : C.prog.inits.idxOf? f = none) (hfn : C.prog.funcs[f]? = some fn)
    (witness : ∃ (w : World) (tape : Tape) (i : Input), w.os = os ∧ (w.forCall tape i).Shaped C.prog ∧ i.vars = [] ∧ Input.okWide C.prog (w.forCall tape i) .any w.heap.size f i ∧
      ((s.pre enc C.prog fn conds apart (w.forCall tape i).memory i.args ∧ X (w.forCall tape i).memory i.args) ∧ sizedMet enc C.prog fn (OpenSpec.ofChange s) apart (w.forCall tape i).memory i.args) ∧ a.holds C.prog (lone (Frame.enter C.prog f i.args .normal) [] (w.forCall tape i)))
    (contract : ∀ (W : World) (base : Nat) (args : Array Value) (ds gs : List (DataW H)) (before : List MemPlace),
      (∀ (j : Nat) t v, fn.params[j]? = some t → args[j]? = some v → Value.okWide C.prog W .any base t v) →
      DataW.Whole enc C.prog fn.params.toList s.vars apart W args.toList ds gs before →
      conds.all (PathCond.test C.prog ⟨fn.params.toList, ds, s.plain.varTypes C.prog, gs⟩) = true →
      (DataW.weightsEach C.prog (fn.params.toList ++ s.plain.varTypes C.prog) (ds ++ gs)).all (· ≤ reachBytes) = true → X W args → W.ShapedOpen C.prog →
      a.holds C.prog (lone (Frame.enter C.prog f args .normal) [] W) →
      Calls C.prog f args W fun e W' => ∃ v, e = .returned v ∧ s.post enc C.prog fn apart fresh handsOn again W args v W') :
    ReturnsInHanded a C os f .any (fun w args => (s.pre enc C.prog fn conds apart w args ∧ X w args) ∧ sizedMet enc C.prog fn (OpenSpec.ofChange s) apart w args) (s.post enc C.prog fn apart fresh handsOn again) := by
  refine returnsInHanded_of_calls own started noInit witness ?_
  intro w tape i _ hsh _ hok hpre hholds
  obtain ⟨_, _, _, fn', hfn', _, _, _, _, hval⟩ := hok
  have e : fn' = fn := Option.some.inj (hfn'.symm.trans hfn)
  subst e
  obtain ⟨⟨⟨ds, gs, before, hw, hc⟩, hx⟩, hz⟩ := hpre
  have hw' := DataW.Whole.of_heap (w' := w.forCall tape i) (by rfl) hw
  refine (contract (w.forCall tape i) w.heap.size i.args ds gs before hval hw' hc (hz.weights hw) (hX _ _ _ (by rfl) hx) hsh hholds).mono fun e W' ⟨v, he, hp⟩ => ?_
  subst he
  exact ChangeSpec.post_blind hp

/-- What is laid, out of what the row lists. -/
theorem good {W : World} (h : laidMetH Tryz.prog Rows.fnJunctionsRow.laid W) (hsh : W.ShapedOpen Tryz.prog) : Good W.heap.size W := fun w hb => ⟨gPowTab h w hb, gBruTab h w hb, gMax hsh w hb, gSynErr h w hb, gRngErr h w hb⟩


set_option maxRecDepth 100000 in
theorem lifted (os : Os) (started : os.Started) (H : Type) (enc : TypeId × Value → H) :
    ReturnsInHanded {} Tryz.checked os 3 .any (fun w args => (Rows.fnJunctionsSpec.pre enc Tryz.prog Tryz.f3 Rows.fnJunctionsRow.domain false w args ∧ laidMetH Tryz.prog Rows.fnJunctionsRow.laid w) ∧ sizedMet enc Tryz.prog Tryz.f3 (OpenSpec.ofChange Rows.fnJunctionsSpec) false w args) (Rows.fnJunctionsSpec.post enc Tryz.prog Tryz.f3 false true false false) := by
  refine retAndShaped (C := Tryz.checked) (X := fun w _ => laidMetH Tryz.prog Rows.fnJunctionsRow.laid w) (fun _ _ _ hh h => h.of_heap hh) own started (by kernel_rfl) Tryz.func3
    (ChangeSpec.witness_shaped (enc := enc) (C := Tryz.checked) (os := os) (X := fun w _ => laidMetH Tryz.prog Rows.fnJunctionsRow.laid w) false (World.laidAll Tryz.prog os Rows.fnJunctionsRow.laid) #[.slice none 0 0, .slice none 0 0] 8 (World.laidAll_os _ _ _)
      (World.shaped_of_ZipB (by kernel_rfl) (by kernel_rfl)) (by kernel_rfl) (by kernel_rfl) (by kernel_rfl)
      (by rw [MakeChecks.laidMetH_plain _ _ _ (by kernel_rfl)]; exact laidMet_laidAll _ (by kernel_rfl) (by kernel_rfl))) ?_
  intro W base args ds gs before hval0 hW hcnd _ hL hsh _
  have hG : Good W.heap.size W := good hL hsh
  have hval : ∀ (j : Nat) t v, Tryz.f3.params[j]? = some t → args[j]? = some v → Value.okWide Tryz.prog W .any base t v := hval0
  have hW' := hW
  obtain ⟨p, q, hA0, hV, rfl, hfz, hnd⟩ := hW
  have hA : DataW.TrodAll enc Tryz.prog W 0 (fun _ => true) true Tryz.f3.params.toList args.toList ds p := hA0
  rw [Tryz.params3] at hA hval
  obtain ⟨v0, vs0, d0, ds0, p0, q0, hargs, rfl, rfl, k0, r0⟩ := trodAll_cons hA
  obtain ⟨v1, vs1, d1, ds1, p1, q1, rfl, rfl, rfl, k1, r1⟩ := trodAll_cons r0
  obtain ⟨rfl, rfl, rfl⟩ := trodAll_nil r1
  obtain rfl : args = #[v0, v1] := by cases args; simp_all
  obtain ⟨rfl, rfl⟩ := trodVars_none hV
  have lt0 : ∀ x ∈ p0, x.block < W.heap.size := by obtain ⟨m, hm⟩ := k0; exact DataW.trod_lt m _ _ _ hm
  have g0 := k0
  have lt1 : ∀ x ∈ p1, x.block < W.heap.size := by obtain ⟨m, hm⟩ := k1; exact DataW.trod_lt m _ _ _ hm
  have g1 := k1
  obtain ⟨b0, n0, cp0, F0, rfl, hle0, hmx0, hF0, hQ0⟩ := open_slice (ls := ([.int .u8] : List Leaf)) Tryz.underlying22 (hval 0 22 v0 rfl rfl) k0
  obtain ⟨b1, n1, cp1, F1, rfl, hle1, hmx1, hF1, hQ1⟩ := open_slice (ls := ([.int .u8] : List Leaf)) Tryz.underlying22 (hval 1 22 v1 rfl rfl) k1
  clear hA0 hval0
  have hst := Sim.start W hG
  obtain ⟨ρ0, T0, a0, he0, hs0, hv0, hS0⟩ := hst.addSl hF0 hQ0
  obtain ⟨ρ1, T1, a1, he1, hs1, hv1, hS1⟩ := hs0.addSl hF1 hQ1
  refine (law_callsM (walk a0 n0 cp0 F0 hF0 ⟨hle0, hmx0⟩ a1 n1 cp1 F1 hF1 ⟨hle1, hmx1⟩ _ hS0.append hS1) hs1 (VRs.cons (hv0.mono he1) (VRs.cons hv1 (VRs.nil _)))).mono fun e W' ⟨hee, bel⟩ => ?_
  subst hee
  exact ⟨_, rfl, _, _, _, [], _, [], hW', trodAll_mk1 (shut_bool Tryz.underlying4 _), (trodAll_cons_mk (Below.trod laidOut (by kernel_rfl) (of_decide_eq_true (by kernel_rfl)) g0 bel lt0) (trodAll_cons_mk (Below.trod laidOut (by kernel_rfl) (of_decide_eq_true (by kernel_rfl)) g1 bel lt1) trodAll_mk0)), rfl, bel.frame _, fun h => by cases h⟩


theorem over : Rows.fnJunctionsRow.holds Tryz.pinned (OpenSpec.ofChange Rows.fnJunctionsSpec) :=
  OpenClaim.holds_of_wide 3 Tryz.f3 rfl rfl rfl rfl rfl rfl rfl ⟨rfl, rfl, rfl, rfl, rfl⟩ rfl rfl rfl rfl rfl (by kernel_rfl) Tryz.func3 (by kernel_rfl)
    (of_decide_eq_true (by kernel_rfl)) (by unfold Func.isWrapper; first | (rw [if_pos (by decide +kernel)]; kernel_rfl) | (rw [if_neg (by decide +kernel)]; exact ⟨rfl, rfl⟩))
    (fun os started H enc _ => lifted os started H enc)
end Go.Proofs.YtgdpcomemkimhaaGreatDoor.fnJunctions
namespace Go.Proofs.YtgdpcomemkimhaaGreatDoor
/-- The row's statement. -/
theorem provedFnJunctionsRow : Rows.FnJunctionsSaid := fnJunctions.over
/-- The statement: the tied card. -/
theorem provedFnJunctions : Rows.FnJunctionsCardSaid :=
  Claim7.holds_tied_plain_at .later [] [.data, .data, .data, .data, .sentinel, .sentinel, .pinned] true (true, "efb90cbf69272b194da3a19ab59a8aa5787b0eec4201323f437e18f6fdd3c206") true provedFnJunctionsRow (fun _ h => by cases h) (by kernel_rfl) (fun _ h => by cases h) fnJunctions_row_tie rfl ⟨rfl, rfl⟩ (by kernel_rfl) rfl
    (fun f fn hf hfn => by
      obtain rfl : f = 3 := Option.some.inj ((show Tryz.prog.funcNamed "loop.example/g01227/laws.FnJunctions" = some 3 by kernel_rfl).symm.trans hf) |>.symm
      obtain rfl : fn = Tryz.f3 := (Option.some.inj (Tryz.func3.symm.trans hfn)).symm
      exact ⟨by kernel_rfl, fun j t ht => by
        rw [Tryz.params3] at ht
        have hm : t ∈ [22, 22] := by simpa using Array.mem_of_getElem? ht
        have hall : ([22, 22].all fun u => !Tryz.prog.wantsStandIn u) = true := by kernel_rfl
        exact (show Tryz.prog.wantsStandIn t = false by simpa using List.all_eq_true.1 hall t hm)⟩)
    (by kernel_rfl)
#print axioms provedFnJunctions
end Go.Proofs.YtgdpcomemkimhaaGreatDoor
