/- The law of roads that become empty. -/
import Derived.Test.YtpffdjleonkdoaaDp
import Derived.Test.YtpffdjleonkdoaaDl
import Derived.Test.YtpffdjleonkdoaaCt
import Derived.Test.YtpffdjleonkdoaaBy
namespace Go.Proofs.Ytpffdjleonkdoaa
open Go.RowKit
attribute [local irreducible] AW AOs AO AQ AQW thenA inBlockA postA ACalls Pure
set_option linter.unusedSimpArgs false
set_option linter.unusedVariables false
set_option linter.unusedSectionVars false

theorem untV_is {P : Program} {f : FuncId} {args : List Value} {M : Mem} {r : Int × Int} (h : Pure P f args M (untV r)) {x y : Int} (e : r = (x, y)) : Pure P f args M (.tuple [.int .i64 x, .int .i64 y].toArray) := by subst e; exact h
theorem flt_fge {x y : Nat} (h : flt .f32 x y = true) : fge .f32 x y = false := by
  unfold flt at h; unfold fge
  have e : FloatKind.f32.format.order x y = some .lt := by simpa using h
  rw [e]; rfl
theorem flt_pin {P : Program} {f : FuncId} {args : List Value} {M : Mem} {v w : Value} (h : Pure P f args M v) (e : v = w) : Pure P f args M w := e ▸ h
set_option maxRecDepth 20000 in
set_option maxHeartbeats 16000000 in
theorem wEmAx (a a' : Option Addr) (n n' cp cp' : Nat) (cd cd' : Nat → Int) (M : Mem) (hm : n ≤ 9223372036854775807) (hm' : n' ≤ 9223372036854775807) (hcd : ∀ q, 0 ≤ cd q ∧ cd q ≤ 255) (hcd' : ∀ q, 0 ≤ cd' q ∧ cd' q ≤ 255)
    (hS : SlAt M a n (tab n fun q => .int .u8 (cd q))) (hS' : SlAt M a' n' (tab n' fun q => .int .u8 (cd' q))) {c : Nat → Nat} {p b l off : Nat} (hdr : RdDr c p b l) (no : nn off) (ho1 : fv off ≤ U) (hB : ∀ M, Pure Try.prog 7 [.slice a n cp, .slice a' n' cp'] M (.bool false)) (hR : ∀ M, SlAt M a n (tab n fun q => .int .u8 (cd q)) → Pure Try.prog 8 [.slice a n cp] M (rdV c p b l)) (hO : ∀ M, SlAt M a' n' (tab n' fun q => .int .u8 (cd' q)) → Pure Try.prog 13 [.slice a' n' cp'] M (.float .f32 off)) (hu : untR (fun i => empB l (rdIt c p b (fun _ => 0) (fun _ => 1065353216) i)) (400 + 1) 0 = (0, 7)) (hw : untR (fun i => fulB p b (rdIt c p b (fun _ => off) (fun _ => 0) i)) (300 + 1) 0 = (0, 7)) :
    Pure Try.prog 3 [.slice a n cp, .slice a' n' cp'] M (.bool true) := by
  have hU := U_val
  have hpb := hdr.pb
  have hr := hdr.ok
  have hcr : CrOk c := fun q hq => hdr.car hq
  have h11 : fv 1065353216 ≤ U := by rw [fv_one]; exact Int.le_refl _
  have h00 : fv 0 ≤ U := by rw [fv_zero]; decide
  have hao := nn_am no
  have ha1 := nn_am nn_one
  have ha0 := nn_am nn_zero
  have hp : 2 ^ 145 ≤ fv p := by
    obtain ⟨k, hk, e⟩ := hdr.pace
    rw [e, (pbw_fv hk).2]; omega
  obtain ⟨nl, hl1⟩ : nn l ∧ fv l ≤ 3 * 2 ^ 149 := by
    obtain ⟨k, hk, e⟩ := hdr.lanes
    obtain ⟨g1, g2⟩ := lnw_fv hk
    rw [e]; exact ⟨g1, by omega⟩
  obtain ⟨d1, d2⟩ := dl_late hpb hp hcr ⟨no, ho1⟩ ⟨nn_one, h11⟩ nl hl1
  have d3 : feq .f32 (fmul .f32 (dlS c p b off 1065353216 5) l) (fmul .f32 (dlS c p b off 1065353216 5) l) = true := by rw [feq_fv d1 d1]; exact decide_eq_true rfl
  have z3 : feq .f32 0 0 = true := by decide +kernel
  have hrZ : RdOk (fun _ => 0) p b l := cr_road hr (fun q _ => ⟨nn_zero, h00⟩)
  have hZ := fun M' => iFillRoad hr 0 (nn_sh nn_zero h00) M'
  have hDZ : ∀ M', Pure Try.prog 18 [rdV (fun _ => 0) p b l, .float .f32 0, .float .f32 1065353216, .int .i64 5] M' (.tuple [.float .f32 0, .int .i64 0].toArray) := fun M' =>
    flt_pin (iDelayOf hrZ 0 1065353216 5 ha0 ha1 M' (by omega)) (by rw [dl_zero hpb nn_one, mul_zero32 nl])
  have hD : ∀ M', Pure Try.prog 18 [rdV c p b l, .float .f32 off, .float .f32 1065353216, .int .i64 5] M' (.tuple [.float .f32 (fmul .f32 (dlS c p b off 1065353216 5) l), .int .i64 0].toArray) := fun M' => iDelayOf hr off 1065353216 5 hao ha1 M' (by omega)
  have hD2 : ∀ M', Pure Try.prog 19 [rdV c p b l, .float .f32 off, .float .f32 1065353216, .int .i64 5] M' (.tuple [.float .f32 (fmul .f32 (dlS c p b off 1065353216 5) l), .int .i64 0].toArray) := fun M' => sDelayOf hr off 1065353216 5 hao ha1 M' (by omega) d1
  have hE : ∀ M', Pure Try.prog 9 [rdV c p b l, .int .i64 400] M' (.tuple [.int .i64 0, .int .i64 7].toArray) := fun M' => untV_is (iStepsToEmpty hr 400 M' (by omega)) hu
  have hE2 : ∀ M', Pure Try.prog 10 [rdV c p b l, .int .i64 400] M' (.tuple [.int .i64 0, .int .i64 7].toArray) := fun M' => untV_is (sStepsToEmpty hr 400 M' (by omega)) hu
  have hF : ∀ M', Pure Try.prog 14 [rdV c p b l, .float .f32 off, .int .i64 300] M' (.tuple [.int .i64 0, .int .i64 7].toArray) := fun M' => untV_is (iStepsToFull hr off 300 hao M' (by omega)) hw
  have hF2 : ∀ M', Pure Try.prog 15 [rdV c p b l, .float .f32 off, .int .i64 300] M' (.tuple [.int .i64 0, .int .i64 7].toArray) := fun M' => untV_is (sStepsToFull hr off 300 hao M' (by omega)) hw
  clear hu hw
  generalize fmul .f32 (dlS c p b off 1065353216 5) l = D at *
  clear hU hcr hp hrZ
  refine pure_of Try.func3 Try.ntmps3 rfl rfl (by repeat' (first | exact Flat.bool _ | exact Flat.int _ _ | exact Flat.float _ _ | exact Flat.string _ | exact flat_nil | exact flat_tabL (fun _ => Flat.bool _) | exact flat_tabL (fun _ => Flat.int _ _) | exact flat_tabL (fun _ => Flat.float _ _) | refine flat_tuple ?_ | refine flat_agg ?_ | refine flat_cons ?_ ?_ | refine flat_append ?_ ?_)) ?_
  simp only [envOf, Nat.zero_add, Nat.reduceAdd]
  repeat' (first | (refine d_AOs (h := ?_) ; first | refine o_move (h := ?_) | refine o_assign (h := ?_) | refine AOs.nil (h := ?_) | (refine d_bin (h := ?_) ; first | refine o_fneS (h := ?_) | refine o_fneC (h := ?_) | refine o_feqC (h := ?_) | refine o_fltC (h := ?_) | refine o_fgtC (h := ?_) | refine o_fleC (h := ?_) | refine o_fgeC (h := ?_) | refine o_eqNil (h := ?_) | refine o_addS (h := ?_) | refine o_add (h := ?_) | refine o_lss (h := ?_) | refine o_eqi (h := ?_) | refine o_eqB (h := ?_) | refine o_neB (h := ?_) | refine o_nei (h := ?_) | refine o_gtr (h := ?_) | refine o_geq (h := ?_) | refine o_subS (h := ?_) | refine o_sub (h := ?_) | refine o_fisnan (h := ?_) | refine o_fne (h := ?_) | refine o_feq (h := ?_) | refine o_flt (h := ?_) | refine o_fgt (h := ?_) | refine o_fge (h := ?_) | refine o_fadd (h := ?_) | refine o_fsub (h := ?_) ) | (refine d_grd (h := ?_) ; first | refine g_yes (h := ?_) | refine g_no (h := ?_) | refine g_undef (h := ?_) | (refine g_true (h1 := (fun hg => ?_)) (h0 := (fun hg => ?_)) <;> (try rw [hg]) <;> (try simp only [decide_eq_true_eq, decide_eq_false_iff_not, Int.ofNat_inj, Bool.not_eq_true', Bool.not_eq_false', Int.not_lt, Int.not_le] at hg) <;> (try (exfalso; omega)) <;> (try (exact absurd hg (by decide)))) | (refine g_false (h1 := (fun hg => ?_)) (h0 := (fun hg => ?_)) <;> (try rw [hg]) <;> (try simp only [decide_eq_true_eq, decide_eq_false_iff_not, Int.ofNat_inj, Bool.not_eq_true', Bool.not_eq_false', Int.not_lt, Int.not_le] at hg) <;> (try (exfalso; omega)) <;> (try (exact absurd hg (by decide))))) | refine o_call (hc := (hB _)) (h := ?_) | refine o_call (hc := (hR _ (by first | exact hS | exact hS.append))) (h := ?_) | refine o_call (hc := (hO _ (by first | exact hS' | exact hS'.append))) (h := ?_) | refine o_call (hc := (hE _)) (h := ?_) | refine o_call (hc := (hE2 _)) (h := ?_) | refine o_call (hc := (hF _)) (h := ?_) | refine o_call (hc := (hF2 _)) (h := ?_) | refine o_call (hc := (hZ _)) (h := ?_) | refine o_call (hc := (hDZ _)) (h := ?_) | refine o_call (hc := (hD _)) (h := ?_) | refine o_call (hc := (hD2 _)) (h := ?_) | refine o_store (hw := by first | exact whole_tabR (fun _ => rfl) rfl | exact whole_tab (fun _ => rfl)) (hcs := by exact st_all (by rfl)) (h := ?_) | refine o_load (h := ?_) | refine o_at (h := ?_) | refine o_pick (h := ?_) | refine o_store (h := ?_) | refine o_alloc (h := ?_) | refine o_extract (h := ?_) ) | (refine d_AW (h := ?_) ; first | refine AW.seq (h := ?_) | refine AW.region (h := ?_) | (refine AW.cond (ht := (fun hc => ?_)) (hf := (fun hc => ?_)) <;> (try (with_reducible first | exact absurd hc Bool.false_ne_true | exact absurd hc.symm Bool.false_ne_true)) <;> (try simp only [decide_eq_true_eq, decide_eq_false_iff_not, Int.ofNat_inj, Bool.not_eq_true', Bool.not_eq_false', Int.not_lt, Int.not_le] at hc) <;> (try (exfalso; omega)) <;> (try (exact absurd hc (by decide)))) | refine AW.block (h := ?_) | refine AW.ret (h := ?_) | refine AW.skip (h := ?_) | refine AW.exit (h := ?_) ) | (first | refine t_normal ?_ | refine t_ret ?_ | refine t_exit ?_ | refine b_normal ?_ | refine b_exit ?_ | refine b_exit' (by decide) ?_ | refine b_ret ?_) | (refine d_post (h := ?_) ; first | refine p_ret1 rfl (h := ?_) | refine p_end1 rfl (h := ?_) | refine p_cell1 rfl (h := ?_) ))
  all_goals first | rfl | (exfalso; simp at hc; done) | (exfalso; omega)
set_option maxRecDepth 20000 in
set_option maxHeartbeats 16000000 in
theorem wEmAy (a a' : Option Addr) (n n' cp cp' : Nat) (cd cd' : Nat → Int) (M : Mem) (hm : n ≤ 9223372036854775807) (hm' : n' ≤ 9223372036854775807) (hcd : ∀ q, 0 ≤ cd q ∧ cd q ≤ 255) (hcd' : ∀ q, 0 ≤ cd' q ∧ cd' q ≤ 255)
    (hS : SlAt M a n (tab n fun q => .int .u8 (cd q))) (hS' : SlAt M a' n' (tab n' fun q => .int .u8 (cd' q))) {c : Nat → Nat} {p b l off : Nat} (hdr : RdDr c p b l) (no : nn off) (ho1 : fv off ≤ U) (hB : ∀ M, Pure Try.prog 7 [.slice a n cp, .slice a' n' cp'] M (.bool false)) (hR : ∀ M, SlAt M a n (tab n fun q => .int .u8 (cd q)) → Pure Try.prog 8 [.slice a n cp] M (rdV c p b l)) (hO : ∀ M, SlAt M a' n' (tab n' fun q => .int .u8 (cd' q)) → Pure Try.prog 13 [.slice a' n' cp'] M (.float .f32 off)) (hu : untR (fun i => empB l (rdIt c p b (fun _ => 0) (fun _ => 1065353216) i)) (400 + 1) 0 = (0, 7)) {k0 : Nat} (hk300 : k0 ≤ 300) (hw : untR (fun i => fulB p b (rdIt c p b (fun _ => off) (fun _ => 0) i)) (300 + 1) 0 = ((k0 : Int), 0)) (q3 : fulB p b (rdIt c p b (fun _ => off) (fun _ => 0) k0) = true) :
    Pure Try.prog 3 [.slice a n cp, .slice a' n' cp'] M (.bool true) := by
  have hU := U_val
  have hpb := hdr.pb
  have hr := hdr.ok
  have hcr : CrOk c := fun q hq => hdr.car hq
  have h11 : fv 1065353216 ≤ U := by rw [fv_one]; exact Int.le_refl _
  have h00 : fv 0 ≤ U := by rw [fv_zero]; decide
  have hao := nn_am no
  have ha1 := nn_am nn_one
  have ha0 := nn_am nn_zero
  have hp : 2 ^ 145 ≤ fv p := by
    obtain ⟨k, hk, e⟩ := hdr.pace
    rw [e, (pbw_fv hk).2]; omega
  obtain ⟨nl, hl1⟩ : nn l ∧ fv l ≤ 3 * 2 ^ 149 := by
    obtain ⟨k, hk, e⟩ := hdr.lanes
    obtain ⟨g1, g2⟩ := lnw_fv hk
    rw [e]; exact ⟨g1, by omega⟩
  obtain ⟨d1, d2⟩ := dl_late hpb hp hcr ⟨no, ho1⟩ ⟨nn_one, h11⟩ nl hl1
  have d3 : feq .f32 (fmul .f32 (dlS c p b off 1065353216 5) l) (fmul .f32 (dlS c p b off 1065353216 5) l) = true := by rw [feq_fv d1 d1]; exact decide_eq_true rfl
  have z3 : feq .f32 0 0 = true := by decide +kernel
  have hrZ : RdOk (fun _ => 0) p b l := cr_road hr (fun q _ => ⟨nn_zero, h00⟩)
  have hZ := fun M' => iFillRoad hr 0 (nn_sh nn_zero h00) M'
  have hDZ : ∀ M', Pure Try.prog 18 [rdV (fun _ => 0) p b l, .float .f32 0, .float .f32 1065353216, .int .i64 5] M' (.tuple [.float .f32 0, .int .i64 0].toArray) := fun M' =>
    flt_pin (iDelayOf hrZ 0 1065353216 5 ha0 ha1 M' (by omega)) (by rw [dl_zero hpb nn_one, mul_zero32 nl])
  have hD : ∀ M', Pure Try.prog 18 [rdV c p b l, .float .f32 off, .float .f32 1065353216, .int .i64 5] M' (.tuple [.float .f32 (fmul .f32 (dlS c p b off 1065353216 5) l), .int .i64 0].toArray) := fun M' => iDelayOf hr off 1065353216 5 hao ha1 M' (by omega)
  have hD2 : ∀ M', Pure Try.prog 19 [rdV c p b l, .float .f32 off, .float .f32 1065353216, .int .i64 5] M' (.tuple [.float .f32 (fmul .f32 (dlS c p b off 1065353216 5) l), .int .i64 0].toArray) := fun M' => sDelayOf hr off 1065353216 5 hao ha1 M' (by omega) d1
  have hE : ∀ M', Pure Try.prog 9 [rdV c p b l, .int .i64 400] M' (.tuple [.int .i64 0, .int .i64 7].toArray) := fun M' => untV_is (iStepsToEmpty hr 400 M' (by omega)) hu
  have hE2 : ∀ M', Pure Try.prog 10 [rdV c p b l, .int .i64 400] M' (.tuple [.int .i64 0, .int .i64 7].toArray) := fun M' => untV_is (sStepsToEmpty hr 400 M' (by omega)) hu
  have hF : ∀ M', Pure Try.prog 14 [rdV c p b l, .float .f32 off, .int .i64 300] M' (.tuple [.int .i64 (k0 : Int), .int .i64 0].toArray) := fun M' => untV_is (iStepsToFull hr off 300 hao M' (by omega)) hw
  have hF2 : ∀ M', Pure Try.prog 15 [rdV c p b l, .float .f32 off, .int .i64 300] M' (.tuple [.int .i64 (k0 : Int), .int .i64 0].toArray) := fun M' => untV_is (sStepsToFull hr off 300 hao M' (by omega)) hw
  clear hu hw
  generalize fmul .f32 (dlS c p b off 1065353216 5) l = D at *
  have hSF := fun M' => iStepRoads hr off 0 k0 hao ha0 M' (by omega)
  have hTF := fun i hi M' => iTakesAt (i := i) (cr_road hr (it_ok hpb (fun _ => ⟨no, ho1⟩) (fun _ => ⟨nn_zero, h00⟩) hcr k0)) hi M'
  have w3 := (okK_all _ _).1 q3
  clear q3
  generalize sumIt c p b (fun _ => off) (fun _ => 0) 0 k0 = u0 at *
  generalize sumIt c p b (fun _ => off) (fun _ => 0) 16 k0 = u16 at *
  generalize rdIt c p b (fun _ => off) (fun _ => 0) k0 = sf at *
  clear hU hcr hp hrZ
  refine pure_of Try.func3 Try.ntmps3 rfl rfl (by repeat' (first | exact Flat.bool _ | exact Flat.int _ _ | exact Flat.float _ _ | exact Flat.string _ | exact flat_nil | exact flat_tabL (fun _ => Flat.bool _) | exact flat_tabL (fun _ => Flat.int _ _) | exact flat_tabL (fun _ => Flat.float _ _) | refine flat_tuple ?_ | refine flat_agg ?_ | refine flat_cons ?_ ?_ | refine flat_append ?_ ?_)) ?_
  simp only [envOf, Nat.zero_add, Nat.reduceAdd]
  repeat' (first | (refine d_AOs (h := ?_) ; first | refine o_move (h := ?_) | refine o_assign (h := ?_) | refine AOs.nil (h := ?_) | (refine d_bin (h := ?_) ; first | refine o_fneS (h := ?_) | refine o_fneC (h := ?_) | refine o_feqC (h := ?_) | refine o_fltC (h := ?_) | refine o_fgtC (h := ?_) | refine o_fleC (h := ?_) | refine o_fgeC (h := ?_) | refine o_eqNil (h := ?_) | refine o_addS (h := ?_) | refine o_add (h := ?_) | refine o_lss (h := ?_) | refine o_eqi (h := ?_) | refine o_eqB (h := ?_) | refine o_neB (h := ?_) | refine o_nei (h := ?_) | refine o_gtr (h := ?_) | refine o_geq (h := ?_) | refine o_subS (h := ?_) | refine o_sub (h := ?_) | refine o_fisnan (h := ?_) | refine o_fne (h := ?_) | refine o_feq (h := ?_) | refine o_flt (h := ?_) | refine o_fgt (h := ?_) | refine o_fge (h := ?_) | refine o_fadd (h := ?_) | refine o_fsub (h := ?_) ) | (refine d_grd (h := ?_) ; first | refine g_yes (h := ?_) | refine g_no (h := ?_) | refine g_undef (h := ?_) | (refine g_true (h1 := (fun hg => ?_)) (h0 := (fun hg => ?_)) <;> (try rw [hg]) <;> (try simp only [decide_eq_true_eq, decide_eq_false_iff_not, Int.ofNat_inj, Bool.not_eq_true', Bool.not_eq_false', Int.not_lt, Int.not_le] at hg) <;> (try (exfalso; omega)) <;> (try (exact absurd hg (by decide)))) | (refine g_false (h1 := (fun hg => ?_)) (h0 := (fun hg => ?_)) <;> (try rw [hg]) <;> (try simp only [decide_eq_true_eq, decide_eq_false_iff_not, Int.ofNat_inj, Bool.not_eq_true', Bool.not_eq_false', Int.not_lt, Int.not_le] at hg) <;> (try (exfalso; omega)) <;> (try (exact absurd hg (by decide))))) | refine o_call (hc := (hB _)) (h := ?_) | refine o_call (hc := (hR _ (by first | exact hS | exact hS.append))) (h := ?_) | refine o_call (hc := (hO _ (by first | exact hS' | exact hS'.append))) (h := ?_) | refine o_call (hc := (hE _)) (h := ?_) | refine o_call (hc := (hE2 _)) (h := ?_) | refine o_call (hc := (hF _)) (h := ?_) | refine o_call (hc := (hF2 _)) (h := ?_) | refine o_call (hc := (hSF _)) (h := ?_) | refine o_call (hc := (hZ _)) (h := ?_) | refine o_call (hc := (hDZ _)) (h := ?_) | refine o_call (hc := (hD _)) (h := ?_) | refine o_call (hc := (hD2 _)) (h := ?_) | refine o_store (hw := by first | exact whole_tabR (fun _ => rfl) rfl | exact whole_tab (fun _ => rfl)) (hcs := by exact st_all (by rfl)) (h := ?_) | refine o_load (h := ?_) | refine o_at (h := ?_) | refine o_pick (h := ?_) | refine o_store (h := ?_) | refine o_alloc (h := ?_) | refine o_extract (h := ?_) ) | (refine d_AW (h := ?_) ; first | refine AW.seq (h := ?_) | refine AW.region (h := ?_) | (refine AW.cond (ht := (fun hc => ?_)) (hf := (fun hc => ?_)) <;> (try (with_reducible first | exact absurd hc Bool.false_ne_true | exact absurd hc.symm Bool.false_ne_true)) <;> (try simp only [decide_eq_true_eq, decide_eq_false_iff_not, Int.ofNat_inj, Bool.not_eq_true', Bool.not_eq_false', Int.not_lt, Int.not_le] at hc) <;> (try (exfalso; omega)) <;> (try (exact absurd hc (by decide)))) | refine AW.block (h := ?_) | refine AW.ret (h := ?_) | refine AW.skip (h := ?_) | refine AW.exit (h := ?_) ) | (first | refine t_normal ?_ | refine t_ret ?_ | refine t_exit ?_ | refine b_normal ?_ | refine b_exit ?_ | refine b_exit' (by decide) ?_ | refine b_ret ?_) | (refine d_post (h := ?_) ; first | refine p_ret1 rfl (h := ?_) | refine p_end1 rfl (h := ?_) | refine p_cell1 rfl (h := ?_) ))
  all_goals try (exfalso; simp at hc; done)
  refine AW.loopN [5, 22, 27, 31] (fun k st => ∃ z : Nat, z + k = 16 ∧ st = ⟨217, [(5, .pointer (some ⟨M.length, 0, none⟩)), (22, .float .f32 off), (27, .pointer (some ⟨M.length + 1, 0, none⟩)), (31, .int .i64 (z : Int))], M ++ [rdB c p b l, rdB sf p b l]⟩) 16 ⟨0, by omega, rfl⟩ ?_
  rintro k st ⟨z, hz, rfl⟩
  by_cases hzz : z < 16
  · clear hB hR hO hE hE2 hF hF2 hSF hZ hDZ hD hD2
    have hT := hTF z hzz
    have w4 := w3 z (by omega) (by omega)
    have w5 : fgt .f32 (tksF p b (sf z)) 981467136 = false := by simpa using w4
    repeat' (first | (refine d_AOs (h := ?_) ; first | refine o_move (h := ?_) | refine o_assign (h := ?_) | refine AOs.nil (h := ?_) | (refine d_bin (h := ?_) ; first | refine o_fneS (h := ?_) | refine o_fneC (h := ?_) | refine o_feqC (h := ?_) | refine o_fltC (h := ?_) | refine o_fgtC (h := ?_) | refine o_fleC (h := ?_) | refine o_fgeC (h := ?_) | refine o_eqNil (h := ?_) | refine o_addS (h := ?_) | refine o_add (h := ?_) | refine o_lss (h := ?_) | refine o_eqi (h := ?_) | refine o_eqB (h := ?_) | refine o_neB (h := ?_) | refine o_nei (h := ?_) | refine o_gtr (h := ?_) | refine o_geq (h := ?_) | refine o_subS (h := ?_) | refine o_sub (h := ?_) | refine o_fisnan (h := ?_) | refine o_fne (h := ?_) | refine o_feq (h := ?_) | refine o_flt (h := ?_) | refine o_fgt (h := ?_) | refine o_fge (h := ?_) | refine o_fadd (h := ?_) | refine o_fsub (h := ?_) ) | (refine d_grd (h := ?_) ; first | refine g_yes (h := ?_) | refine g_no (h := ?_) | refine g_undef (h := ?_) | (refine g_true (h1 := (fun hg => ?_)) (h0 := (fun hg => ?_)) <;> (try rw [hg]) <;> (try simp only [decide_eq_true_eq, decide_eq_false_iff_not, Int.ofNat_inj, Bool.not_eq_true', Bool.not_eq_false', Int.not_lt, Int.not_le] at hg) <;> (try (exfalso; omega)) <;> (try (exact absurd hg (by decide)))) | (refine g_false (h1 := (fun hg => ?_)) (h0 := (fun hg => ?_)) <;> (try rw [hg]) <;> (try simp only [decide_eq_true_eq, decide_eq_false_iff_not, Int.ofNat_inj, Bool.not_eq_true', Bool.not_eq_false', Int.not_lt, Int.not_le] at hg) <;> (try (exfalso; omega)) <;> (try (exact absurd hg (by decide))))) | refine o_call (hc := (hT _)) (h := ?_) | refine o_load (h := ?_) | refine o_at (h := ?_) | refine o_pick (h := ?_) | refine o_store (h := ?_) | refine o_alloc (h := ?_) | refine o_extract (h := ?_) ) | (refine d_AW (h := ?_) ; first | refine AW.seq (h := ?_) | refine AW.region (h := ?_) | (refine AW.cond (ht := (fun hc => ?_)) (hf := (fun hc => ?_)) <;> (try (with_reducible first | exact absurd hc Bool.false_ne_true | exact absurd hc.symm Bool.false_ne_true)) <;> (try simp only [decide_eq_true_eq, decide_eq_false_iff_not, Int.ofNat_inj, Bool.not_eq_true', Bool.not_eq_false', Int.not_lt, Int.not_le] at hc) <;> (try (exfalso; omega)) <;> (try (exact absurd hc (by decide)))) | refine AW.block (h := ?_) | refine AW.ret (h := ?_) | refine AW.skip (h := ?_) | refine AW.exit (h := ?_) ) | (first | refine t_normal ?_ | refine t_ret ?_ | refine t_exit ?_ | refine b_normal ?_ | refine b_exit ?_ | refine b_exit' (by decide) ?_ | refine b_ret ?_) | (refine d_post (h := ?_) ; first | refine p_ret1 rfl (h := ?_) | refine p_end1 rfl (h := ?_) | refine p_cell1 rfl (h := ?_) ))
    all_goals first | exact ⟨k - 1, by omega, z + 1, by omega, rfl⟩ | (exfalso; simp at hc; done)
  · obtain rfl : z = 16 := by omega
    repeat' (first | (refine d_AOs (h := ?_) ; first | refine o_move (h := ?_) | refine o_assign (h := ?_) | refine AOs.nil (h := ?_) | (refine d_bin (h := ?_) ; first | refine o_fneS (h := ?_) | refine o_fneC (h := ?_) | refine o_feqC (h := ?_) | refine o_fltC (h := ?_) | refine o_fgtC (h := ?_) | refine o_fleC (h := ?_) | refine o_fgeC (h := ?_) | refine o_eqNil (h := ?_) | refine o_addS (h := ?_) | refine o_add (h := ?_) | refine o_lss (h := ?_) | refine o_eqi (h := ?_) | refine o_eqB (h := ?_) | refine o_neB (h := ?_) | refine o_nei (h := ?_) | refine o_gtr (h := ?_) | refine o_geq (h := ?_) | refine o_subS (h := ?_) | refine o_sub (h := ?_) | refine o_fisnan (h := ?_) | refine o_fne (h := ?_) | refine o_feq (h := ?_) | refine o_flt (h := ?_) | refine o_fgt (h := ?_) | refine o_fge (h := ?_) | refine o_fadd (h := ?_) | refine o_fsub (h := ?_) ) | (refine d_grd (h := ?_) ; first | refine g_yes (h := ?_) | refine g_no (h := ?_) | refine g_undef (h := ?_) | (refine g_true (h1 := (fun hg => ?_)) (h0 := (fun hg => ?_)) <;> (try rw [hg]) <;> (try simp only [decide_eq_true_eq, decide_eq_false_iff_not, Int.ofNat_inj, Bool.not_eq_true', Bool.not_eq_false', Int.not_lt, Int.not_le] at hg) <;> (try (exfalso; omega)) <;> (try (exact absurd hg (by decide)))) | (refine g_false (h1 := (fun hg => ?_)) (h0 := (fun hg => ?_)) <;> (try rw [hg]) <;> (try simp only [decide_eq_true_eq, decide_eq_false_iff_not, Int.ofNat_inj, Bool.not_eq_true', Bool.not_eq_false', Int.not_lt, Int.not_le] at hg) <;> (try (exfalso; omega)) <;> (try (exact absurd hg (by decide))))) | refine o_call (hc := (hB _)) (h := ?_) | refine o_call (hc := (hR _ (by first | exact hS | exact hS.append))) (h := ?_) | refine o_call (hc := (hO _ (by first | exact hS' | exact hS'.append))) (h := ?_) | refine o_call (hc := (hE _)) (h := ?_) | refine o_call (hc := (hE2 _)) (h := ?_) | refine o_call (hc := (hF _)) (h := ?_) | refine o_call (hc := (hF2 _)) (h := ?_) | refine o_call (hc := (hSF _)) (h := ?_) | refine o_call (hc := (hZ _)) (h := ?_) | refine o_call (hc := (hDZ _)) (h := ?_) | refine o_call (hc := (hD _)) (h := ?_) | refine o_call (hc := (hD2 _)) (h := ?_) | refine o_store (hw := by first | exact whole_tabR (fun _ => rfl) rfl | exact whole_tab (fun _ => rfl)) (hcs := by exact st_all (by rfl)) (h := ?_) | refine o_load (h := ?_) | refine o_at (h := ?_) | refine o_pick (h := ?_) | refine o_store (h := ?_) | refine o_alloc (h := ?_) | refine o_extract (h := ?_) ) | (refine d_AW (h := ?_) ; first | refine AW.seq (h := ?_) | refine AW.region (h := ?_) | (refine AW.cond (ht := (fun hc => ?_)) (hf := (fun hc => ?_)) <;> (try (with_reducible first | exact absurd hc Bool.false_ne_true | exact absurd hc.symm Bool.false_ne_true)) <;> (try simp only [decide_eq_true_eq, decide_eq_false_iff_not, Int.ofNat_inj, Bool.not_eq_true', Bool.not_eq_false', Int.not_lt, Int.not_le] at hc) <;> (try (exfalso; omega)) <;> (try (exact absurd hc (by decide)))) | refine AW.block (h := ?_) | refine AW.ret (h := ?_) | refine AW.skip (h := ?_) | refine AW.exit (h := ?_) ) | (first | refine t_normal ?_ | refine t_ret ?_ | refine t_exit ?_ | refine b_normal ?_ | refine b_exit ?_ | refine b_exit' (by decide) ?_ | refine b_ret ?_) | (refine d_post (h := ?_) ; first | refine p_ret1 rfl (h := ?_) | refine p_end1 rfl (h := ?_) | refine p_cell1 rfl (h := ?_) ))
    all_goals first | rfl | (exfalso; simp at hc; done)
set_option maxRecDepth 20000 in
set_option maxHeartbeats 16000000 in
theorem wEmBx (a a' : Option Addr) (n n' cp cp' : Nat) (cd cd' : Nat → Int) (M : Mem) (hm : n ≤ 9223372036854775807) (hm' : n' ≤ 9223372036854775807) (hcd : ∀ q, 0 ≤ cd q ∧ cd q ≤ 255) (hcd' : ∀ q, 0 ≤ cd' q ∧ cd' q ≤ 255)
    (hS : SlAt M a n (tab n fun q => .int .u8 (cd q))) (hS' : SlAt M a' n' (tab n' fun q => .int .u8 (cd' q))) {c : Nat → Nat} {p b l off : Nat} (hdr : RdDr c p b l) (no : nn off) (ho1 : fv off ≤ U) (hB : ∀ M, Pure Try.prog 7 [.slice a n cp, .slice a' n' cp'] M (.bool false)) (hR : ∀ M, SlAt M a n (tab n fun q => .int .u8 (cd q)) → Pure Try.prog 8 [.slice a n cp] M (rdV c p b l)) (hO : ∀ M, SlAt M a' n' (tab n' fun q => .int .u8 (cd' q)) → Pure Try.prog 13 [.slice a' n' cp'] M (.float .f32 off)) (hu : untR (fun i => empB l (rdIt c p b (fun _ => 0) (fun _ => 1065353216) i)) (400 + 1) 0 = (0, 0)) (q1 : empB l c = true) (hw : untR (fun i => fulB p b (rdIt c p b (fun _ => off) (fun _ => 0) i)) (300 + 1) 0 = (0, 7)) :
    Pure Try.prog 3 [.slice a n cp, .slice a' n' cp'] M (.bool true) := by
  have hU := U_val
  have hpb := hdr.pb
  have hr := hdr.ok
  have hcr : CrOk c := fun q hq => hdr.car hq
  have h11 : fv 1065353216 ≤ U := by rw [fv_one]; exact Int.le_refl _
  have h00 : fv 0 ≤ U := by rw [fv_zero]; decide
  have hao := nn_am no
  have ha1 := nn_am nn_one
  have ha0 := nn_am nn_zero
  have hp : 2 ^ 145 ≤ fv p := by
    obtain ⟨k, hk, e⟩ := hdr.pace
    rw [e, (pbw_fv hk).2]; omega
  obtain ⟨nl, hl1⟩ : nn l ∧ fv l ≤ 3 * 2 ^ 149 := by
    obtain ⟨k, hk, e⟩ := hdr.lanes
    obtain ⟨g1, g2⟩ := lnw_fv hk
    rw [e]; exact ⟨g1, by omega⟩
  obtain ⟨d1, d2⟩ := dl_late hpb hp hcr ⟨no, ho1⟩ ⟨nn_one, h11⟩ nl hl1
  have d3 : feq .f32 (fmul .f32 (dlS c p b off 1065353216 5) l) (fmul .f32 (dlS c p b off 1065353216 5) l) = true := by rw [feq_fv d1 d1]; exact decide_eq_true rfl
  have z3 : feq .f32 0 0 = true := by decide +kernel
  have hrZ : RdOk (fun _ => 0) p b l := cr_road hr (fun q _ => ⟨nn_zero, h00⟩)
  have hZ := fun M' => iFillRoad hr 0 (nn_sh nn_zero h00) M'
  have hDZ : ∀ M', Pure Try.prog 18 [rdV (fun _ => 0) p b l, .float .f32 0, .float .f32 1065353216, .int .i64 5] M' (.tuple [.float .f32 0, .int .i64 0].toArray) := fun M' =>
    flt_pin (iDelayOf hrZ 0 1065353216 5 ha0 ha1 M' (by omega)) (by rw [dl_zero hpb nn_one, mul_zero32 nl])
  have hD : ∀ M', Pure Try.prog 18 [rdV c p b l, .float .f32 off, .float .f32 1065353216, .int .i64 5] M' (.tuple [.float .f32 (fmul .f32 (dlS c p b off 1065353216 5) l), .int .i64 0].toArray) := fun M' => iDelayOf hr off 1065353216 5 hao ha1 M' (by omega)
  have hD2 : ∀ M', Pure Try.prog 19 [rdV c p b l, .float .f32 off, .float .f32 1065353216, .int .i64 5] M' (.tuple [.float .f32 (fmul .f32 (dlS c p b off 1065353216 5) l), .int .i64 0].toArray) := fun M' => sDelayOf hr off 1065353216 5 hao ha1 M' (by omega) d1
  have hE : ∀ M', Pure Try.prog 9 [rdV c p b l, .int .i64 400] M' (.tuple [.int .i64 0, .int .i64 0].toArray) := fun M' => untV_is (iStepsToEmpty hr 400 M' (by omega)) hu
  have hE2 : ∀ M', Pure Try.prog 10 [rdV c p b l, .int .i64 400] M' (.tuple [.int .i64 0, .int .i64 0].toArray) := fun M' => untV_is (sStepsToEmpty hr 400 M' (by omega)) hu
  have hF : ∀ M', Pure Try.prog 14 [rdV c p b l, .float .f32 off, .int .i64 300] M' (.tuple [.int .i64 0, .int .i64 7].toArray) := fun M' => untV_is (iStepsToFull hr off 300 hao M' (by omega)) hw
  have hF2 : ∀ M', Pure Try.prog 15 [rdV c p b l, .float .f32 off, .int .i64 300] M' (.tuple [.int .i64 0, .int .i64 7].toArray) := fun M' => untV_is (sStepsToFull hr off 300 hao M' (by omega)) hw
  clear hu hw
  generalize fmul .f32 (dlS c p b off 1065353216 5) l = D at *
  have w1 : fge .f32 (carsF c l) 981467136 = false := flt_fge q1
  clear q1
  have hSE : ∀ M', Pure Try.prog 11 [rdV c p b l, .float .f32 0, .float .f32 1065353216, .int .i64 0] M' (.tuple [rdV c p b l, .float .f32 0, .float .f32 0, .int .i64 0].toArray) := fun M' => iStepRoads hr 0 1065353216 0 ha0 ha1 M' (by omega)
  have hCE := fun M' => iCarsOn hr M'
  generalize carsF c l = xc at *
  clear hU hcr hp hrZ
  refine pure_of Try.func3 Try.ntmps3 rfl rfl (by repeat' (first | exact Flat.bool _ | exact Flat.int _ _ | exact Flat.float _ _ | exact Flat.string _ | exact flat_nil | exact flat_tabL (fun _ => Flat.bool _) | exact flat_tabL (fun _ => Flat.int _ _) | exact flat_tabL (fun _ => Flat.float _ _) | refine flat_tuple ?_ | refine flat_agg ?_ | refine flat_cons ?_ ?_ | refine flat_append ?_ ?_)) ?_
  simp only [envOf, Nat.zero_add, Nat.reduceAdd]
  repeat' (first | (refine d_AOs (h := ?_) ; first | refine o_move (h := ?_) | refine o_assign (h := ?_) | refine AOs.nil (h := ?_) | (refine d_bin (h := ?_) ; first | refine o_fneS (h := ?_) | refine o_fneC (h := ?_) | refine o_feqC (h := ?_) | refine o_fltC (h := ?_) | refine o_fgtC (h := ?_) | refine o_fleC (h := ?_) | refine o_fgeC (h := ?_) | refine o_eqNil (h := ?_) | refine o_addS (h := ?_) | refine o_add (h := ?_) | refine o_lss (h := ?_) | refine o_eqi (h := ?_) | refine o_eqB (h := ?_) | refine o_neB (h := ?_) | refine o_nei (h := ?_) | refine o_gtr (h := ?_) | refine o_geq (h := ?_) | refine o_subS (h := ?_) | refine o_sub (h := ?_) | refine o_fisnan (h := ?_) | refine o_fne (h := ?_) | refine o_feq (h := ?_) | refine o_flt (h := ?_) | refine o_fgt (h := ?_) | refine o_fge (h := ?_) | refine o_fadd (h := ?_) | refine o_fsub (h := ?_) ) | (refine d_grd (h := ?_) ; first | refine g_yes (h := ?_) | refine g_no (h := ?_) | refine g_undef (h := ?_) | (refine g_true (h1 := (fun hg => ?_)) (h0 := (fun hg => ?_)) <;> (try rw [hg]) <;> (try simp only [decide_eq_true_eq, decide_eq_false_iff_not, Int.ofNat_inj, Bool.not_eq_true', Bool.not_eq_false', Int.not_lt, Int.not_le] at hg) <;> (try (exfalso; omega)) <;> (try (exact absurd hg (by decide)))) | (refine g_false (h1 := (fun hg => ?_)) (h0 := (fun hg => ?_)) <;> (try rw [hg]) <;> (try simp only [decide_eq_true_eq, decide_eq_false_iff_not, Int.ofNat_inj, Bool.not_eq_true', Bool.not_eq_false', Int.not_lt, Int.not_le] at hg) <;> (try (exfalso; omega)) <;> (try (exact absurd hg (by decide))))) | refine o_call (hc := (hB _)) (h := ?_) | refine o_call (hc := (hR _ (by first | exact hS | exact hS.append))) (h := ?_) | refine o_call (hc := (hO _ (by first | exact hS' | exact hS'.append))) (h := ?_) | refine o_call (hc := (hE _)) (h := ?_) | refine o_call (hc := (hE2 _)) (h := ?_) | refine o_call (hc := (hSE _)) (h := ?_) | refine o_call (hc := (hCE _)) (h := ?_) | refine o_call (hc := (hF _)) (h := ?_) | refine o_call (hc := (hF2 _)) (h := ?_) | refine o_call (hc := (hZ _)) (h := ?_) | refine o_call (hc := (hDZ _)) (h := ?_) | refine o_call (hc := (hD _)) (h := ?_) | refine o_call (hc := (hD2 _)) (h := ?_) | refine o_store (hw := by first | exact whole_tabR (fun _ => rfl) rfl | exact whole_tab (fun _ => rfl)) (hcs := by exact st_all (by rfl)) (h := ?_) | refine o_load (h := ?_) | refine o_at (h := ?_) | refine o_pick (h := ?_) | refine o_store (h := ?_) | refine o_alloc (h := ?_) | refine o_extract (h := ?_) ) | (refine d_AW (h := ?_) ; first | refine AW.seq (h := ?_) | refine AW.region (h := ?_) | (refine AW.cond (ht := (fun hc => ?_)) (hf := (fun hc => ?_)) <;> (try (with_reducible first | exact absurd hc Bool.false_ne_true | exact absurd hc.symm Bool.false_ne_true)) <;> (try simp only [decide_eq_true_eq, decide_eq_false_iff_not, Int.ofNat_inj, Bool.not_eq_true', Bool.not_eq_false', Int.not_lt, Int.not_le] at hc) <;> (try (exfalso; omega)) <;> (try (exact absurd hc (by decide)))) | refine AW.block (h := ?_) | refine AW.ret (h := ?_) | refine AW.skip (h := ?_) | refine AW.exit (h := ?_) ) | (first | refine t_normal ?_ | refine t_ret ?_ | refine t_exit ?_ | refine b_normal ?_ | refine b_exit ?_ | refine b_exit' (by decide) ?_ | refine b_ret ?_) | (refine d_post (h := ?_) ; first | refine p_ret1 rfl (h := ?_) | refine p_end1 rfl (h := ?_) | refine p_cell1 rfl (h := ?_) ))
  all_goals first | rfl | (exfalso; simp at hc; done) | (exfalso; omega)
set_option maxRecDepth 20000 in
set_option maxHeartbeats 16000000 in
theorem wEmBy (a a' : Option Addr) (n n' cp cp' : Nat) (cd cd' : Nat → Int) (M : Mem) (hm : n ≤ 9223372036854775807) (hm' : n' ≤ 9223372036854775807) (hcd : ∀ q, 0 ≤ cd q ∧ cd q ≤ 255) (hcd' : ∀ q, 0 ≤ cd' q ∧ cd' q ≤ 255)
    (hS : SlAt M a n (tab n fun q => .int .u8 (cd q))) (hS' : SlAt M a' n' (tab n' fun q => .int .u8 (cd' q))) {c : Nat → Nat} {p b l off : Nat} (hdr : RdDr c p b l) (no : nn off) (ho1 : fv off ≤ U) (hB : ∀ M, Pure Try.prog 7 [.slice a n cp, .slice a' n' cp'] M (.bool false)) (hR : ∀ M, SlAt M a n (tab n fun q => .int .u8 (cd q)) → Pure Try.prog 8 [.slice a n cp] M (rdV c p b l)) (hO : ∀ M, SlAt M a' n' (tab n' fun q => .int .u8 (cd' q)) → Pure Try.prog 13 [.slice a' n' cp'] M (.float .f32 off)) (hu : untR (fun i => empB l (rdIt c p b (fun _ => 0) (fun _ => 1065353216) i)) (400 + 1) 0 = (0, 0)) (q1 : empB l c = true) {k0 : Nat} (hk300 : k0 ≤ 300) (hw : untR (fun i => fulB p b (rdIt c p b (fun _ => off) (fun _ => 0) i)) (300 + 1) 0 = ((k0 : Int), 0)) (q3 : fulB p b (rdIt c p b (fun _ => off) (fun _ => 0) k0) = true) :
    Pure Try.prog 3 [.slice a n cp, .slice a' n' cp'] M (.bool true) := by
  have hU := U_val
  have hpb := hdr.pb
  have hr := hdr.ok
  have hcr : CrOk c := fun q hq => hdr.car hq
  have h11 : fv 1065353216 ≤ U := by rw [fv_one]; exact Int.le_refl _
  have h00 : fv 0 ≤ U := by rw [fv_zero]; decide
  have hao := nn_am no
  have ha1 := nn_am nn_one
  have ha0 := nn_am nn_zero
  have hp : 2 ^ 145 ≤ fv p := by
    obtain ⟨k, hk, e⟩ := hdr.pace
    rw [e, (pbw_fv hk).2]; omega
  obtain ⟨nl, hl1⟩ : nn l ∧ fv l ≤ 3 * 2 ^ 149 := by
    obtain ⟨k, hk, e⟩ := hdr.lanes
    obtain ⟨g1, g2⟩ := lnw_fv hk
    rw [e]; exact ⟨g1, by omega⟩
  obtain ⟨d1, d2⟩ := dl_late hpb hp hcr ⟨no, ho1⟩ ⟨nn_one, h11⟩ nl hl1
  have d3 : feq .f32 (fmul .f32 (dlS c p b off 1065353216 5) l) (fmul .f32 (dlS c p b off 1065353216 5) l) = true := by rw [feq_fv d1 d1]; exact decide_eq_true rfl
  have z3 : feq .f32 0 0 = true := by decide +kernel
  have hrZ : RdOk (fun _ => 0) p b l := cr_road hr (fun q _ => ⟨nn_zero, h00⟩)
  have hZ := fun M' => iFillRoad hr 0 (nn_sh nn_zero h00) M'
  have hDZ : ∀ M', Pure Try.prog 18 [rdV (fun _ => 0) p b l, .float .f32 0, .float .f32 1065353216, .int .i64 5] M' (.tuple [.float .f32 0, .int .i64 0].toArray) := fun M' =>
    flt_pin (iDelayOf hrZ 0 1065353216 5 ha0 ha1 M' (by omega)) (by rw [dl_zero hpb nn_one, mul_zero32 nl])
  have hD : ∀ M', Pure Try.prog 18 [rdV c p b l, .float .f32 off, .float .f32 1065353216, .int .i64 5] M' (.tuple [.float .f32 (fmul .f32 (dlS c p b off 1065353216 5) l), .int .i64 0].toArray) := fun M' => iDelayOf hr off 1065353216 5 hao ha1 M' (by omega)
  have hD2 : ∀ M', Pure Try.prog 19 [rdV c p b l, .float .f32 off, .float .f32 1065353216, .int .i64 5] M' (.tuple [.float .f32 (fmul .f32 (dlS c p b off 1065353216 5) l), .int .i64 0].toArray) := fun M' => sDelayOf hr off 1065353216 5 hao ha1 M' (by omega) d1
  have hE : ∀ M', Pure Try.prog 9 [rdV c p b l, .int .i64 400] M' (.tuple [.int .i64 0, .int .i64 0].toArray) := fun M' => untV_is (iStepsToEmpty hr 400 M' (by omega)) hu
  have hE2 : ∀ M', Pure Try.prog 10 [rdV c p b l, .int .i64 400] M' (.tuple [.int .i64 0, .int .i64 0].toArray) := fun M' => untV_is (sStepsToEmpty hr 400 M' (by omega)) hu
  have hF : ∀ M', Pure Try.prog 14 [rdV c p b l, .float .f32 off, .int .i64 300] M' (.tuple [.int .i64 (k0 : Int), .int .i64 0].toArray) := fun M' => untV_is (iStepsToFull hr off 300 hao M' (by omega)) hw
  have hF2 : ∀ M', Pure Try.prog 15 [rdV c p b l, .float .f32 off, .int .i64 300] M' (.tuple [.int .i64 (k0 : Int), .int .i64 0].toArray) := fun M' => untV_is (sStepsToFull hr off 300 hao M' (by omega)) hw
  clear hu hw
  generalize fmul .f32 (dlS c p b off 1065353216 5) l = D at *
  have w1 : fge .f32 (carsF c l) 981467136 = false := flt_fge q1
  clear q1
  have hSE : ∀ M', Pure Try.prog 11 [rdV c p b l, .float .f32 0, .float .f32 1065353216, .int .i64 0] M' (.tuple [rdV c p b l, .float .f32 0, .float .f32 0, .int .i64 0].toArray) := fun M' => iStepRoads hr 0 1065353216 0 ha0 ha1 M' (by omega)
  have hCE := fun M' => iCarsOn hr M'
  generalize carsF c l = xc at *
  have hSF := fun M' => iStepRoads hr off 0 k0 hao ha0 M' (by omega)
  have hTF := fun i hi M' => iTakesAt (i := i) (cr_road hr (it_ok hpb (fun _ => ⟨no, ho1⟩) (fun _ => ⟨nn_zero, h00⟩) hcr k0)) hi M'
  have w3 := (okK_all _ _).1 q3
  clear q3
  generalize sumIt c p b (fun _ => off) (fun _ => 0) 0 k0 = u0 at *
  generalize sumIt c p b (fun _ => off) (fun _ => 0) 16 k0 = u16 at *
  generalize rdIt c p b (fun _ => off) (fun _ => 0) k0 = sf at *
  clear hU hcr hp hrZ
  refine pure_of Try.func3 Try.ntmps3 rfl rfl (by repeat' (first | exact Flat.bool _ | exact Flat.int _ _ | exact Flat.float _ _ | exact Flat.string _ | exact flat_nil | exact flat_tabL (fun _ => Flat.bool _) | exact flat_tabL (fun _ => Flat.int _ _) | exact flat_tabL (fun _ => Flat.float _ _) | refine flat_tuple ?_ | refine flat_agg ?_ | refine flat_cons ?_ ?_ | refine flat_append ?_ ?_)) ?_
  simp only [envOf, Nat.zero_add, Nat.reduceAdd]
  repeat' (first | (refine d_AOs (h := ?_) ; first | refine o_move (h := ?_) | refine o_assign (h := ?_) | refine AOs.nil (h := ?_) | (refine d_bin (h := ?_) ; first | refine o_fneS (h := ?_) | refine o_fneC (h := ?_) | refine o_feqC (h := ?_) | refine o_fltC (h := ?_) | refine o_fgtC (h := ?_) | refine o_fleC (h := ?_) | refine o_fgeC (h := ?_) | refine o_eqNil (h := ?_) | refine o_addS (h := ?_) | refine o_add (h := ?_) | refine o_lss (h := ?_) | refine o_eqi (h := ?_) | refine o_eqB (h := ?_) | refine o_neB (h := ?_) | refine o_nei (h := ?_) | refine o_gtr (h := ?_) | refine o_geq (h := ?_) | refine o_subS (h := ?_) | refine o_sub (h := ?_) | refine o_fisnan (h := ?_) | refine o_fne (h := ?_) | refine o_feq (h := ?_) | refine o_flt (h := ?_) | refine o_fgt (h := ?_) | refine o_fge (h := ?_) | refine o_fadd (h := ?_) | refine o_fsub (h := ?_) ) | (refine d_grd (h := ?_) ; first | refine g_yes (h := ?_) | refine g_no (h := ?_) | refine g_undef (h := ?_) | (refine g_true (h1 := (fun hg => ?_)) (h0 := (fun hg => ?_)) <;> (try rw [hg]) <;> (try simp only [decide_eq_true_eq, decide_eq_false_iff_not, Int.ofNat_inj, Bool.not_eq_true', Bool.not_eq_false', Int.not_lt, Int.not_le] at hg) <;> (try (exfalso; omega)) <;> (try (exact absurd hg (by decide)))) | (refine g_false (h1 := (fun hg => ?_)) (h0 := (fun hg => ?_)) <;> (try rw [hg]) <;> (try simp only [decide_eq_true_eq, decide_eq_false_iff_not, Int.ofNat_inj, Bool.not_eq_true', Bool.not_eq_false', Int.not_lt, Int.not_le] at hg) <;> (try (exfalso; omega)) <;> (try (exact absurd hg (by decide))))) | refine o_call (hc := (hB _)) (h := ?_) | refine o_call (hc := (hR _ (by first | exact hS | exact hS.append))) (h := ?_) | refine o_call (hc := (hO _ (by first | exact hS' | exact hS'.append))) (h := ?_) | refine o_call (hc := (hE _)) (h := ?_) | refine o_call (hc := (hE2 _)) (h := ?_) | refine o_call (hc := (hSE _)) (h := ?_) | refine o_call (hc := (hCE _)) (h := ?_) | refine o_call (hc := (hF _)) (h := ?_) | refine o_call (hc := (hF2 _)) (h := ?_) | refine o_call (hc := (hSF _)) (h := ?_) | refine o_call (hc := (hZ _)) (h := ?_) | refine o_call (hc := (hDZ _)) (h := ?_) | refine o_call (hc := (hD _)) (h := ?_) | refine o_call (hc := (hD2 _)) (h := ?_) | refine o_store (hw := by first | exact whole_tabR (fun _ => rfl) rfl | exact whole_tab (fun _ => rfl)) (hcs := by exact st_all (by rfl)) (h := ?_) | refine o_load (h := ?_) | refine o_at (h := ?_) | refine o_pick (h := ?_) | refine o_store (h := ?_) | refine o_alloc (h := ?_) | refine o_extract (h := ?_) ) | (refine d_AW (h := ?_) ; first | refine AW.seq (h := ?_) | refine AW.region (h := ?_) | (refine AW.cond (ht := (fun hc => ?_)) (hf := (fun hc => ?_)) <;> (try (with_reducible first | exact absurd hc Bool.false_ne_true | exact absurd hc.symm Bool.false_ne_true)) <;> (try simp only [decide_eq_true_eq, decide_eq_false_iff_not, Int.ofNat_inj, Bool.not_eq_true', Bool.not_eq_false', Int.not_lt, Int.not_le] at hc) <;> (try (exfalso; omega)) <;> (try (exact absurd hc (by decide)))) | refine AW.block (h := ?_) | refine AW.ret (h := ?_) | refine AW.skip (h := ?_) | refine AW.exit (h := ?_) ) | (first | refine t_normal ?_ | refine t_ret ?_ | refine t_exit ?_ | refine b_normal ?_ | refine b_exit ?_ | refine b_exit' (by decide) ?_ | refine b_ret ?_) | (refine d_post (h := ?_) ; first | refine p_ret1 rfl (h := ?_) | refine p_end1 rfl (h := ?_) | refine p_cell1 rfl (h := ?_) ))
  all_goals try (exfalso; simp at hc; done)
  refine AW.loopN [5, 22, 27, 31] (fun k st => ∃ z : Nat, z + k = 16 ∧ st = ⟨217, [(5, .pointer (some ⟨M.length, 0, none⟩)), (22, .float .f32 off), (27, .pointer (some ⟨M.length + 2, 0, none⟩)), (31, .int .i64 (z : Int))], M ++ [rdB c p b l, rdB c p b l, rdB sf p b l]⟩) 16 ⟨0, by omega, rfl⟩ ?_
  rintro k st ⟨z, hz, rfl⟩
  by_cases hzz : z < 16
  · clear hB hR hO hE hE2 hF hF2 hSF hZ hDZ hD hD2
    have hT := hTF z hzz
    have w4 := w3 z (by omega) (by omega)
    have w5 : fgt .f32 (tksF p b (sf z)) 981467136 = false := by simpa using w4
    repeat' (first | (refine d_AOs (h := ?_) ; first | refine o_move (h := ?_) | refine o_assign (h := ?_) | refine AOs.nil (h := ?_) | (refine d_bin (h := ?_) ; first | refine o_fneS (h := ?_) | refine o_fneC (h := ?_) | refine o_feqC (h := ?_) | refine o_fltC (h := ?_) | refine o_fgtC (h := ?_) | refine o_fleC (h := ?_) | refine o_fgeC (h := ?_) | refine o_eqNil (h := ?_) | refine o_addS (h := ?_) | refine o_add (h := ?_) | refine o_lss (h := ?_) | refine o_eqi (h := ?_) | refine o_eqB (h := ?_) | refine o_neB (h := ?_) | refine o_nei (h := ?_) | refine o_gtr (h := ?_) | refine o_geq (h := ?_) | refine o_subS (h := ?_) | refine o_sub (h := ?_) | refine o_fisnan (h := ?_) | refine o_fne (h := ?_) | refine o_feq (h := ?_) | refine o_flt (h := ?_) | refine o_fgt (h := ?_) | refine o_fge (h := ?_) | refine o_fadd (h := ?_) | refine o_fsub (h := ?_) ) | (refine d_grd (h := ?_) ; first | refine g_yes (h := ?_) | refine g_no (h := ?_) | refine g_undef (h := ?_) | (refine g_true (h1 := (fun hg => ?_)) (h0 := (fun hg => ?_)) <;> (try rw [hg]) <;> (try simp only [decide_eq_true_eq, decide_eq_false_iff_not, Int.ofNat_inj, Bool.not_eq_true', Bool.not_eq_false', Int.not_lt, Int.not_le] at hg) <;> (try (exfalso; omega)) <;> (try (exact absurd hg (by decide)))) | (refine g_false (h1 := (fun hg => ?_)) (h0 := (fun hg => ?_)) <;> (try rw [hg]) <;> (try simp only [decide_eq_true_eq, decide_eq_false_iff_not, Int.ofNat_inj, Bool.not_eq_true', Bool.not_eq_false', Int.not_lt, Int.not_le] at hg) <;> (try (exfalso; omega)) <;> (try (exact absurd hg (by decide))))) | refine o_call (hc := (hT _)) (h := ?_) | refine o_load (h := ?_) | refine o_at (h := ?_) | refine o_pick (h := ?_) | refine o_store (h := ?_) | refine o_alloc (h := ?_) | refine o_extract (h := ?_) ) | (refine d_AW (h := ?_) ; first | refine AW.seq (h := ?_) | refine AW.region (h := ?_) | (refine AW.cond (ht := (fun hc => ?_)) (hf := (fun hc => ?_)) <;> (try (with_reducible first | exact absurd hc Bool.false_ne_true | exact absurd hc.symm Bool.false_ne_true)) <;> (try simp only [decide_eq_true_eq, decide_eq_false_iff_not, Int.ofNat_inj, Bool.not_eq_true', Bool.not_eq_false', Int.not_lt, Int.not_le] at hc) <;> (try (exfalso; omega)) <;> (try (exact absurd hc (by decide)))) | refine AW.block (h := ?_) | refine AW.ret (h := ?_) | refine AW.skip (h := ?_) | refine AW.exit (h := ?_) ) | (first | refine t_normal ?_ | refine t_ret ?_ | refine t_exit ?_ | refine b_normal ?_ | refine b_exit ?_ | refine b_exit' (by decide) ?_ | refine b_ret ?_) | (refine d_post (h := ?_) ; first | refine p_ret1 rfl (h := ?_) | refine p_end1 rfl (h := ?_) | refine p_cell1 rfl (h := ?_) ))
    all_goals first | exact ⟨k - 1, by omega, z + 1, by omega, rfl⟩ | (exfalso; simp at hc; done)
  · obtain rfl : z = 16 := by omega
    repeat' (first | (refine d_AOs (h := ?_) ; first | refine o_move (h := ?_) | refine o_assign (h := ?_) | refine AOs.nil (h := ?_) | (refine d_bin (h := ?_) ; first | refine o_fneS (h := ?_) | refine o_fneC (h := ?_) | refine o_feqC (h := ?_) | refine o_fltC (h := ?_) | refine o_fgtC (h := ?_) | refine o_fleC (h := ?_) | refine o_fgeC (h := ?_) | refine o_eqNil (h := ?_) | refine o_addS (h := ?_) | refine o_add (h := ?_) | refine o_lss (h := ?_) | refine o_eqi (h := ?_) | refine o_eqB (h := ?_) | refine o_neB (h := ?_) | refine o_nei (h := ?_) | refine o_gtr (h := ?_) | refine o_geq (h := ?_) | refine o_subS (h := ?_) | refine o_sub (h := ?_) | refine o_fisnan (h := ?_) | refine o_fne (h := ?_) | refine o_feq (h := ?_) | refine o_flt (h := ?_) | refine o_fgt (h := ?_) | refine o_fge (h := ?_) | refine o_fadd (h := ?_) | refine o_fsub (h := ?_) ) | (refine d_grd (h := ?_) ; first | refine g_yes (h := ?_) | refine g_no (h := ?_) | refine g_undef (h := ?_) | (refine g_true (h1 := (fun hg => ?_)) (h0 := (fun hg => ?_)) <;> (try rw [hg]) <;> (try simp only [decide_eq_true_eq, decide_eq_false_iff_not, Int.ofNat_inj, Bool.not_eq_true', Bool.not_eq_false', Int.not_lt, Int.not_le] at hg) <;> (try (exfalso; omega)) <;> (try (exact absurd hg (by decide)))) | (refine g_false (h1 := (fun hg => ?_)) (h0 := (fun hg => ?_)) <;> (try rw [hg]) <;> (try simp only [decide_eq_true_eq, decide_eq_false_iff_not, Int.ofNat_inj, Bool.not_eq_true', Bool.not_eq_false', Int.not_lt, Int.not_le] at hg) <;> (try (exfalso; omega)) <;> (try (exact absurd hg (by decide))))) | refine o_call (hc := (hB _)) (h := ?_) | refine o_call (hc := (hR _ (by first | exact hS | exact hS.append))) (h := ?_) | refine o_call (hc := (hO _ (by first | exact hS' | exact hS'.append))) (h := ?_) | refine o_call (hc := (hE _)) (h := ?_) | refine o_call (hc := (hE2 _)) (h := ?_) | refine o_call (hc := (hSE _)) (h := ?_) | refine o_call (hc := (hCE _)) (h := ?_) | refine o_call (hc := (hF _)) (h := ?_) | refine o_call (hc := (hF2 _)) (h := ?_) | refine o_call (hc := (hSF _)) (h := ?_) | refine o_call (hc := (hZ _)) (h := ?_) | refine o_call (hc := (hDZ _)) (h := ?_) | refine o_call (hc := (hD _)) (h := ?_) | refine o_call (hc := (hD2 _)) (h := ?_) | refine o_store (hw := by first | exact whole_tabR (fun _ => rfl) rfl | exact whole_tab (fun _ => rfl)) (hcs := by exact st_all (by rfl)) (h := ?_) | refine o_load (h := ?_) | refine o_at (h := ?_) | refine o_pick (h := ?_) | refine o_store (h := ?_) | refine o_alloc (h := ?_) | refine o_extract (h := ?_) ) | (refine d_AW (h := ?_) ; first | refine AW.seq (h := ?_) | refine AW.region (h := ?_) | (refine AW.cond (ht := (fun hc => ?_)) (hf := (fun hc => ?_)) <;> (try (with_reducible first | exact absurd hc Bool.false_ne_true | exact absurd hc.symm Bool.false_ne_true)) <;> (try simp only [decide_eq_true_eq, decide_eq_false_iff_not, Int.ofNat_inj, Bool.not_eq_true', Bool.not_eq_false', Int.not_lt, Int.not_le] at hc) <;> (try (exfalso; omega)) <;> (try (exact absurd hc (by decide)))) | refine AW.block (h := ?_) | refine AW.ret (h := ?_) | refine AW.skip (h := ?_) | refine AW.exit (h := ?_) ) | (first | refine t_normal ?_ | refine t_ret ?_ | refine t_exit ?_ | refine b_normal ?_ | refine b_exit ?_ | refine b_exit' (by decide) ?_ | refine b_ret ?_) | (refine d_post (h := ?_) ; first | refine p_ret1 rfl (h := ?_) | refine p_end1 rfl (h := ?_) | refine p_cell1 rfl (h := ?_) ))
    all_goals first | rfl | (exfalso; simp at hc; done)
set_option maxRecDepth 20000 in
set_option maxHeartbeats 16000000 in
theorem wEmCx (a a' : Option Addr) (n n' cp cp' : Nat) (cd cd' : Nat → Int) (M : Mem) (hm : n ≤ 9223372036854775807) (hm' : n' ≤ 9223372036854775807) (hcd : ∀ q, 0 ≤ cd q ∧ cd q ≤ 255) (hcd' : ∀ q, 0 ≤ cd' q ∧ cd' q ≤ 255)
    (hS : SlAt M a n (tab n fun q => .int .u8 (cd q))) (hS' : SlAt M a' n' (tab n' fun q => .int .u8 (cd' q))) {c : Nat → Nat} {p b l off : Nat} (hdr : RdDr c p b l) (no : nn off) (ho1 : fv off ≤ U) (hB : ∀ M, Pure Try.prog 7 [.slice a n cp, .slice a' n' cp'] M (.bool false)) (hR : ∀ M, SlAt M a n (tab n fun q => .int .u8 (cd q)) → Pure Try.prog 8 [.slice a n cp] M (rdV c p b l)) (hO : ∀ M, SlAt M a' n' (tab n' fun q => .int .u8 (cd' q)) → Pure Try.prog 13 [.slice a' n' cp'] M (.float .f32 off)) {m : Nat} (hm400 : m + 1 ≤ 400) (hu : untR (fun i => empB l (rdIt c p b (fun _ => 0) (fun _ => 1065353216) i)) (400 + 1) 0 = (((m + 1 : Nat) : Int), 0)) (q1 : empB l (rdIt c p b (fun _ => 0) (fun _ => 1065353216) (m + 1)) = true) (q2 : empB l (rdIt c p b (fun _ => 0) (fun _ => 1065353216) m) = false) (hw : untR (fun i => fulB p b (rdIt c p b (fun _ => off) (fun _ => 0) i)) (300 + 1) 0 = (0, 7)) :
    Pure Try.prog 3 [.slice a n cp, .slice a' n' cp'] M (.bool true) := by
  have hU := U_val
  have hpb := hdr.pb
  have hr := hdr.ok
  have hcr : CrOk c := fun q hq => hdr.car hq
  have h11 : fv 1065353216 ≤ U := by rw [fv_one]; exact Int.le_refl _
  have h00 : fv 0 ≤ U := by rw [fv_zero]; decide
  have hao := nn_am no
  have ha1 := nn_am nn_one
  have ha0 := nn_am nn_zero
  have hp : 2 ^ 145 ≤ fv p := by
    obtain ⟨k, hk, e⟩ := hdr.pace
    rw [e, (pbw_fv hk).2]; omega
  obtain ⟨nl, hl1⟩ : nn l ∧ fv l ≤ 3 * 2 ^ 149 := by
    obtain ⟨k, hk, e⟩ := hdr.lanes
    obtain ⟨g1, g2⟩ := lnw_fv hk
    rw [e]; exact ⟨g1, by omega⟩
  obtain ⟨d1, d2⟩ := dl_late hpb hp hcr ⟨no, ho1⟩ ⟨nn_one, h11⟩ nl hl1
  have d3 : feq .f32 (fmul .f32 (dlS c p b off 1065353216 5) l) (fmul .f32 (dlS c p b off 1065353216 5) l) = true := by rw [feq_fv d1 d1]; exact decide_eq_true rfl
  have z3 : feq .f32 0 0 = true := by decide +kernel
  have hrZ : RdOk (fun _ => 0) p b l := cr_road hr (fun q _ => ⟨nn_zero, h00⟩)
  have hZ := fun M' => iFillRoad hr 0 (nn_sh nn_zero h00) M'
  have hDZ : ∀ M', Pure Try.prog 18 [rdV (fun _ => 0) p b l, .float .f32 0, .float .f32 1065353216, .int .i64 5] M' (.tuple [.float .f32 0, .int .i64 0].toArray) := fun M' =>
    flt_pin (iDelayOf hrZ 0 1065353216 5 ha0 ha1 M' (by omega)) (by rw [dl_zero hpb nn_one, mul_zero32 nl])
  have hD : ∀ M', Pure Try.prog 18 [rdV c p b l, .float .f32 off, .float .f32 1065353216, .int .i64 5] M' (.tuple [.float .f32 (fmul .f32 (dlS c p b off 1065353216 5) l), .int .i64 0].toArray) := fun M' => iDelayOf hr off 1065353216 5 hao ha1 M' (by omega)
  have hD2 : ∀ M', Pure Try.prog 19 [rdV c p b l, .float .f32 off, .float .f32 1065353216, .int .i64 5] M' (.tuple [.float .f32 (fmul .f32 (dlS c p b off 1065353216 5) l), .int .i64 0].toArray) := fun M' => sDelayOf hr off 1065353216 5 hao ha1 M' (by omega) d1
  have hE : ∀ M', Pure Try.prog 9 [rdV c p b l, .int .i64 400] M' (.tuple [.int .i64 ((m + 1 : Nat) : Int), .int .i64 0].toArray) := fun M' => untV_is (iStepsToEmpty hr 400 M' (by omega)) hu
  have hE2 : ∀ M', Pure Try.prog 10 [rdV c p b l, .int .i64 400] M' (.tuple [.int .i64 ((m + 1 : Nat) : Int), .int .i64 0].toArray) := fun M' => untV_is (sStepsToEmpty hr 400 M' (by omega)) hu
  have hF : ∀ M', Pure Try.prog 14 [rdV c p b l, .float .f32 off, .int .i64 300] M' (.tuple [.int .i64 0, .int .i64 7].toArray) := fun M' => untV_is (iStepsToFull hr off 300 hao M' (by omega)) hw
  have hF2 : ∀ M', Pure Try.prog 15 [rdV c p b l, .float .f32 off, .int .i64 300] M' (.tuple [.int .i64 0, .int .i64 7].toArray) := fun M' => untV_is (sStepsToFull hr off 300 hao M' (by omega)) hw
  clear hu hw
  generalize fmul .f32 (dlS c p b off 1065353216 5) l = D at *
  have w1 : fge .f32 (carsF (rdIt c p b (fun _ => 0) (fun _ => 1065353216) (m + 1)) l) 981467136 = false := flt_fge q1
  have w2 : flt .f32 (carsF (rdIt c p b (fun _ => 0) (fun _ => 1065353216) m) l) 981467136 = false := q2
  have hz0 : ∀ _ : Nat, nn 0 ∧ fv 0 ≤ U := fun _ => ⟨nn_zero, h00⟩
  have hz1 : ∀ _ : Nat, nn 1065353216 ∧ fv 1065353216 ≤ U := fun _ => ⟨nn_one, h11⟩
  have hSE := fun M' => iStepRoads hr 0 1065353216 (m + 1) ha0 ha1 M' (by omega)
  have hSE2 := fun M' => iStepRoads hr 0 1065353216 m ha0 ha1 M' (by omega)
  have hCE := fun M' => iCarsOn (cr_road hr (it_ok hpb hz0 hz1 hcr (m + 1))) M'
  have hCE2 := fun M' => iCarsOn (cr_road hr (it_ok hpb hz0 hz1 hcr m)) M'
  generalize sumIt c p b (fun _ => 0) (fun _ => 1065353216) 0 (m + 1) = x0 at *
  generalize sumIt c p b (fun _ => 0) (fun _ => 1065353216) 16 (m + 1) = x16 at *
  generalize sumIt c p b (fun _ => 0) (fun _ => 1065353216) 0 m = y0 at *
  generalize sumIt c p b (fun _ => 0) (fun _ => 1065353216) 16 m = y16 at *
  clear q1 q2 hz0 hz1
  generalize rdIt c p b (fun _ => 0) (fun _ => 1065353216) (m + 1) = s1 at *
  generalize rdIt c p b (fun _ => 0) (fun _ => 1065353216) m = s2 at *
  generalize carsF s1 l = xc1 at *
  generalize carsF s2 l = xc2 at *
  clear hU hcr hp hrZ
  refine pure_of Try.func3 Try.ntmps3 rfl rfl (by repeat' (first | exact Flat.bool _ | exact Flat.int _ _ | exact Flat.float _ _ | exact Flat.string _ | exact flat_nil | exact flat_tabL (fun _ => Flat.bool _) | exact flat_tabL (fun _ => Flat.int _ _) | exact flat_tabL (fun _ => Flat.float _ _) | refine flat_tuple ?_ | refine flat_agg ?_ | refine flat_cons ?_ ?_ | refine flat_append ?_ ?_)) ?_
  simp only [envOf, Nat.zero_add, Nat.reduceAdd]
  repeat' (first | (refine d_AOs (h := ?_) ; first | refine o_move (h := ?_) | refine o_assign (h := ?_) | refine AOs.nil (h := ?_) | (refine d_bin (h := ?_) ; first | refine o_fneS (h := ?_) | refine o_fneC (h := ?_) | refine o_feqC (h := ?_) | refine o_fltC (h := ?_) | refine o_fgtC (h := ?_) | refine o_fleC (h := ?_) | refine o_fgeC (h := ?_) | refine o_subV (v := (m : Int)) (hv := by omega) (h := ?_) | refine o_eqNil (h := ?_) | refine o_addS (h := ?_) | refine o_add (h := ?_) | refine o_lss (h := ?_) | refine o_eqi (h := ?_) | refine o_eqB (h := ?_) | refine o_neB (h := ?_) | refine o_nei (h := ?_) | refine o_gtr (h := ?_) | refine o_geq (h := ?_) | refine o_subS (h := ?_) | refine o_sub (h := ?_) | refine o_fisnan (h := ?_) | refine o_fne (h := ?_) | refine o_feq (h := ?_) | refine o_flt (h := ?_) | refine o_fgt (h := ?_) | refine o_fge (h := ?_) | refine o_fadd (h := ?_) | refine o_fsub (h := ?_) ) | (refine d_grd (h := ?_) ; first | refine g_yes (h := ?_) | refine g_no (h := ?_) | refine g_undef (h := ?_) | (refine g_true (h1 := (fun hg => ?_)) (h0 := (fun hg => ?_)) <;> (try rw [hg]) <;> (try simp only [decide_eq_true_eq, decide_eq_false_iff_not, Int.ofNat_inj, Bool.not_eq_true', Bool.not_eq_false', Int.not_lt, Int.not_le] at hg) <;> (try (exfalso; omega)) <;> (try (exact absurd hg (by decide)))) | (refine g_false (h1 := (fun hg => ?_)) (h0 := (fun hg => ?_)) <;> (try rw [hg]) <;> (try simp only [decide_eq_true_eq, decide_eq_false_iff_not, Int.ofNat_inj, Bool.not_eq_true', Bool.not_eq_false', Int.not_lt, Int.not_le] at hg) <;> (try (exfalso; omega)) <;> (try (exact absurd hg (by decide))))) | refine o_call (hc := (hB _)) (h := ?_) | refine o_call (hc := (hR _ (by first | exact hS | exact hS.append))) (h := ?_) | refine o_call (hc := (hO _ (by first | exact hS' | exact hS'.append))) (h := ?_) | refine o_call (hc := (hE _)) (h := ?_) | refine o_call (hc := (hE2 _)) (h := ?_) | refine o_call (hc := (hSE _)) (h := ?_) | refine o_call (hc := (hSE2 _)) (h := ?_) | refine o_call (hc := (hCE _)) (h := ?_) | refine o_call (hc := (hCE2 _)) (h := ?_) | refine o_call (hc := (hF _)) (h := ?_) | refine o_call (hc := (hF2 _)) (h := ?_) | refine o_call (hc := (hZ _)) (h := ?_) | refine o_call (hc := (hDZ _)) (h := ?_) | refine o_call (hc := (hD _)) (h := ?_) | refine o_call (hc := (hD2 _)) (h := ?_) | refine o_store (hw := by first | exact whole_tabR (fun _ => rfl) rfl | exact whole_tab (fun _ => rfl)) (hcs := by exact st_all (by rfl)) (h := ?_) | refine o_load (h := ?_) | refine o_at (h := ?_) | refine o_pick (h := ?_) | refine o_store (h := ?_) | refine o_alloc (h := ?_) | refine o_extract (h := ?_) ) | (refine d_AW (h := ?_) ; first | refine AW.seq (h := ?_) | refine AW.region (h := ?_) | (refine AW.cond (ht := (fun hc => ?_)) (hf := (fun hc => ?_)) <;> (try (with_reducible first | exact absurd hc Bool.false_ne_true | exact absurd hc.symm Bool.false_ne_true)) <;> (try simp only [decide_eq_true_eq, decide_eq_false_iff_not, Int.ofNat_inj, Bool.not_eq_true', Bool.not_eq_false', Int.not_lt, Int.not_le] at hc) <;> (try (exfalso; omega)) <;> (try (exact absurd hc (by decide)))) | refine AW.block (h := ?_) | refine AW.ret (h := ?_) | refine AW.skip (h := ?_) | refine AW.exit (h := ?_) ) | (first | refine t_normal ?_ | refine t_ret ?_ | refine t_exit ?_ | refine b_normal ?_ | refine b_exit ?_ | refine b_exit' (by decide) ?_ | refine b_ret ?_) | (refine d_post (h := ?_) ; first | refine p_ret1 rfl (h := ?_) | refine p_end1 rfl (h := ?_) | refine p_cell1 rfl (h := ?_) ))
  all_goals first | rfl | (exfalso; simp at hc; done) | (exfalso; omega)
set_option maxRecDepth 20000 in
set_option maxHeartbeats 16000000 in
theorem wEmCy (a a' : Option Addr) (n n' cp cp' : Nat) (cd cd' : Nat → Int) (M : Mem) (hm : n ≤ 9223372036854775807) (hm' : n' ≤ 9223372036854775807) (hcd : ∀ q, 0 ≤ cd q ∧ cd q ≤ 255) (hcd' : ∀ q, 0 ≤ cd' q ∧ cd' q ≤ 255)
    (hS : SlAt M a n (tab n fun q => .int .u8 (cd q))) (hS' : SlAt M a' n' (tab n' fun q => .int .u8 (cd' q))) {c : Nat → Nat} {p b l off : Nat} (hdr : RdDr c p b l) (no : nn off) (ho1 : fv off ≤ U) (hB : ∀ M, Pure Try.prog 7 [.slice a n cp, .slice a' n' cp'] M (.bool false)) (hR : ∀ M, SlAt M a n (tab n fun q => .int .u8 (cd q)) → Pure Try.prog 8 [.slice a n cp] M (rdV c p b l)) (hO : ∀ M, SlAt M a' n' (tab n' fun q => .int .u8 (cd' q)) → Pure Try.prog 13 [.slice a' n' cp'] M (.float .f32 off)) {m : Nat} (hm400 : m + 1 ≤ 400) (hu : untR (fun i => empB l (rdIt c p b (fun _ => 0) (fun _ => 1065353216) i)) (400 + 1) 0 = (((m + 1 : Nat) : Int), 0)) (q1 : empB l (rdIt c p b (fun _ => 0) (fun _ => 1065353216) (m + 1)) = true) (q2 : empB l (rdIt c p b (fun _ => 0) (fun _ => 1065353216) m) = false) {k0 : Nat} (hk300 : k0 ≤ 300) (hw : untR (fun i => fulB p b (rdIt c p b (fun _ => off) (fun _ => 0) i)) (300 + 1) 0 = ((k0 : Int), 0)) (q3 : fulB p b (rdIt c p b (fun _ => off) (fun _ => 0) k0) = true) :
    Pure Try.prog 3 [.slice a n cp, .slice a' n' cp'] M (.bool true) := by
  have hU := U_val
  have hpb := hdr.pb
  have hr := hdr.ok
  have hcr : CrOk c := fun q hq => hdr.car hq
  have h11 : fv 1065353216 ≤ U := by rw [fv_one]; exact Int.le_refl _
  have h00 : fv 0 ≤ U := by rw [fv_zero]; decide
  have hao := nn_am no
  have ha1 := nn_am nn_one
  have ha0 := nn_am nn_zero
  have hp : 2 ^ 145 ≤ fv p := by
    obtain ⟨k, hk, e⟩ := hdr.pace
    rw [e, (pbw_fv hk).2]; omega
  obtain ⟨nl, hl1⟩ : nn l ∧ fv l ≤ 3 * 2 ^ 149 := by
    obtain ⟨k, hk, e⟩ := hdr.lanes
    obtain ⟨g1, g2⟩ := lnw_fv hk
    rw [e]; exact ⟨g1, by omega⟩
  obtain ⟨d1, d2⟩ := dl_late hpb hp hcr ⟨no, ho1⟩ ⟨nn_one, h11⟩ nl hl1
  have d3 : feq .f32 (fmul .f32 (dlS c p b off 1065353216 5) l) (fmul .f32 (dlS c p b off 1065353216 5) l) = true := by rw [feq_fv d1 d1]; exact decide_eq_true rfl
  have z3 : feq .f32 0 0 = true := by decide +kernel
  have hrZ : RdOk (fun _ => 0) p b l := cr_road hr (fun q _ => ⟨nn_zero, h00⟩)
  have hZ := fun M' => iFillRoad hr 0 (nn_sh nn_zero h00) M'
  have hDZ : ∀ M', Pure Try.prog 18 [rdV (fun _ => 0) p b l, .float .f32 0, .float .f32 1065353216, .int .i64 5] M' (.tuple [.float .f32 0, .int .i64 0].toArray) := fun M' =>
    flt_pin (iDelayOf hrZ 0 1065353216 5 ha0 ha1 M' (by omega)) (by rw [dl_zero hpb nn_one, mul_zero32 nl])
  have hD : ∀ M', Pure Try.prog 18 [rdV c p b l, .float .f32 off, .float .f32 1065353216, .int .i64 5] M' (.tuple [.float .f32 (fmul .f32 (dlS c p b off 1065353216 5) l), .int .i64 0].toArray) := fun M' => iDelayOf hr off 1065353216 5 hao ha1 M' (by omega)
  have hD2 : ∀ M', Pure Try.prog 19 [rdV c p b l, .float .f32 off, .float .f32 1065353216, .int .i64 5] M' (.tuple [.float .f32 (fmul .f32 (dlS c p b off 1065353216 5) l), .int .i64 0].toArray) := fun M' => sDelayOf hr off 1065353216 5 hao ha1 M' (by omega) d1
  have hE : ∀ M', Pure Try.prog 9 [rdV c p b l, .int .i64 400] M' (.tuple [.int .i64 ((m + 1 : Nat) : Int), .int .i64 0].toArray) := fun M' => untV_is (iStepsToEmpty hr 400 M' (by omega)) hu
  have hE2 : ∀ M', Pure Try.prog 10 [rdV c p b l, .int .i64 400] M' (.tuple [.int .i64 ((m + 1 : Nat) : Int), .int .i64 0].toArray) := fun M' => untV_is (sStepsToEmpty hr 400 M' (by omega)) hu
  have hF : ∀ M', Pure Try.prog 14 [rdV c p b l, .float .f32 off, .int .i64 300] M' (.tuple [.int .i64 (k0 : Int), .int .i64 0].toArray) := fun M' => untV_is (iStepsToFull hr off 300 hao M' (by omega)) hw
  have hF2 : ∀ M', Pure Try.prog 15 [rdV c p b l, .float .f32 off, .int .i64 300] M' (.tuple [.int .i64 (k0 : Int), .int .i64 0].toArray) := fun M' => untV_is (sStepsToFull hr off 300 hao M' (by omega)) hw
  clear hu hw
  generalize fmul .f32 (dlS c p b off 1065353216 5) l = D at *
  have w1 : fge .f32 (carsF (rdIt c p b (fun _ => 0) (fun _ => 1065353216) (m + 1)) l) 981467136 = false := flt_fge q1
  have w2 : flt .f32 (carsF (rdIt c p b (fun _ => 0) (fun _ => 1065353216) m) l) 981467136 = false := q2
  have hz0 : ∀ _ : Nat, nn 0 ∧ fv 0 ≤ U := fun _ => ⟨nn_zero, h00⟩
  have hz1 : ∀ _ : Nat, nn 1065353216 ∧ fv 1065353216 ≤ U := fun _ => ⟨nn_one, h11⟩
  have hSE := fun M' => iStepRoads hr 0 1065353216 (m + 1) ha0 ha1 M' (by omega)
  have hSE2 := fun M' => iStepRoads hr 0 1065353216 m ha0 ha1 M' (by omega)
  have hCE := fun M' => iCarsOn (cr_road hr (it_ok hpb hz0 hz1 hcr (m + 1))) M'
  have hCE2 := fun M' => iCarsOn (cr_road hr (it_ok hpb hz0 hz1 hcr m)) M'
  generalize sumIt c p b (fun _ => 0) (fun _ => 1065353216) 0 (m + 1) = x0 at *
  generalize sumIt c p b (fun _ => 0) (fun _ => 1065353216) 16 (m + 1) = x16 at *
  generalize sumIt c p b (fun _ => 0) (fun _ => 1065353216) 0 m = y0 at *
  generalize sumIt c p b (fun _ => 0) (fun _ => 1065353216) 16 m = y16 at *
  clear q1 q2 hz0 hz1
  generalize rdIt c p b (fun _ => 0) (fun _ => 1065353216) (m + 1) = s1 at *
  generalize rdIt c p b (fun _ => 0) (fun _ => 1065353216) m = s2 at *
  generalize carsF s1 l = xc1 at *
  generalize carsF s2 l = xc2 at *
  have hSF := fun M' => iStepRoads hr off 0 k0 hao ha0 M' (by omega)
  have hTF := fun i hi M' => iTakesAt (i := i) (cr_road hr (it_ok hpb (fun _ => ⟨no, ho1⟩) (fun _ => ⟨nn_zero, h00⟩) hcr k0)) hi M'
  have w3 := (okK_all _ _).1 q3
  clear q3
  generalize sumIt c p b (fun _ => off) (fun _ => 0) 0 k0 = u0 at *
  generalize sumIt c p b (fun _ => off) (fun _ => 0) 16 k0 = u16 at *
  generalize rdIt c p b (fun _ => off) (fun _ => 0) k0 = sf at *
  clear hU hcr hp hrZ
  refine pure_of Try.func3 Try.ntmps3 rfl rfl (by repeat' (first | exact Flat.bool _ | exact Flat.int _ _ | exact Flat.float _ _ | exact Flat.string _ | exact flat_nil | exact flat_tabL (fun _ => Flat.bool _) | exact flat_tabL (fun _ => Flat.int _ _) | exact flat_tabL (fun _ => Flat.float _ _) | refine flat_tuple ?_ | refine flat_agg ?_ | refine flat_cons ?_ ?_ | refine flat_append ?_ ?_)) ?_
  simp only [envOf, Nat.zero_add, Nat.reduceAdd]
  repeat' (first | (refine d_AOs (h := ?_) ; first | refine o_move (h := ?_) | refine o_assign (h := ?_) | refine AOs.nil (h := ?_) | (refine d_bin (h := ?_) ; first | refine o_fneS (h := ?_) | refine o_fneC (h := ?_) | refine o_feqC (h := ?_) | refine o_fltC (h := ?_) | refine o_fgtC (h := ?_) | refine o_fleC (h := ?_) | refine o_fgeC (h := ?_) | refine o_subV (v := (m : Int)) (hv := by omega) (h := ?_) | refine o_eqNil (h := ?_) | refine o_addS (h := ?_) | refine o_add (h := ?_) | refine o_lss (h := ?_) | refine o_eqi (h := ?_) | refine o_eqB (h := ?_) | refine o_neB (h := ?_) | refine o_nei (h := ?_) | refine o_gtr (h := ?_) | refine o_geq (h := ?_) | refine o_subS (h := ?_) | refine o_sub (h := ?_) | refine o_fisnan (h := ?_) | refine o_fne (h := ?_) | refine o_feq (h := ?_) | refine o_flt (h := ?_) | refine o_fgt (h := ?_) | refine o_fge (h := ?_) | refine o_fadd (h := ?_) | refine o_fsub (h := ?_) ) | (refine d_grd (h := ?_) ; first | refine g_yes (h := ?_) | refine g_no (h := ?_) | refine g_undef (h := ?_) | (refine g_true (h1 := (fun hg => ?_)) (h0 := (fun hg => ?_)) <;> (try rw [hg]) <;> (try simp only [decide_eq_true_eq, decide_eq_false_iff_not, Int.ofNat_inj, Bool.not_eq_true', Bool.not_eq_false', Int.not_lt, Int.not_le] at hg) <;> (try (exfalso; omega)) <;> (try (exact absurd hg (by decide)))) | (refine g_false (h1 := (fun hg => ?_)) (h0 := (fun hg => ?_)) <;> (try rw [hg]) <;> (try simp only [decide_eq_true_eq, decide_eq_false_iff_not, Int.ofNat_inj, Bool.not_eq_true', Bool.not_eq_false', Int.not_lt, Int.not_le] at hg) <;> (try (exfalso; omega)) <;> (try (exact absurd hg (by decide))))) | refine o_call (hc := (hB _)) (h := ?_) | refine o_call (hc := (hR _ (by first | exact hS | exact hS.append))) (h := ?_) | refine o_call (hc := (hO _ (by first | exact hS' | exact hS'.append))) (h := ?_) | refine o_call (hc := (hE _)) (h := ?_) | refine o_call (hc := (hE2 _)) (h := ?_) | refine o_call (hc := (hSE _)) (h := ?_) | refine o_call (hc := (hSE2 _)) (h := ?_) | refine o_call (hc := (hCE _)) (h := ?_) | refine o_call (hc := (hCE2 _)) (h := ?_) | refine o_call (hc := (hF _)) (h := ?_) | refine o_call (hc := (hF2 _)) (h := ?_) | refine o_call (hc := (hSF _)) (h := ?_) | refine o_call (hc := (hZ _)) (h := ?_) | refine o_call (hc := (hDZ _)) (h := ?_) | refine o_call (hc := (hD _)) (h := ?_) | refine o_call (hc := (hD2 _)) (h := ?_) | refine o_store (hw := by first | exact whole_tabR (fun _ => rfl) rfl | exact whole_tab (fun _ => rfl)) (hcs := by exact st_all (by rfl)) (h := ?_) | refine o_load (h := ?_) | refine o_at (h := ?_) | refine o_pick (h := ?_) | refine o_store (h := ?_) | refine o_alloc (h := ?_) | refine o_extract (h := ?_) ) | (refine d_AW (h := ?_) ; first | refine AW.seq (h := ?_) | refine AW.region (h := ?_) | (refine AW.cond (ht := (fun hc => ?_)) (hf := (fun hc => ?_)) <;> (try (with_reducible first | exact absurd hc Bool.false_ne_true | exact absurd hc.symm Bool.false_ne_true)) <;> (try simp only [decide_eq_true_eq, decide_eq_false_iff_not, Int.ofNat_inj, Bool.not_eq_true', Bool.not_eq_false', Int.not_lt, Int.not_le] at hc) <;> (try (exfalso; omega)) <;> (try (exact absurd hc (by decide)))) | refine AW.block (h := ?_) | refine AW.ret (h := ?_) | refine AW.skip (h := ?_) | refine AW.exit (h := ?_) ) | (first | refine t_normal ?_ | refine t_ret ?_ | refine t_exit ?_ | refine b_normal ?_ | refine b_exit ?_ | refine b_exit' (by decide) ?_ | refine b_ret ?_) | (refine d_post (h := ?_) ; first | refine p_ret1 rfl (h := ?_) | refine p_end1 rfl (h := ?_) | refine p_cell1 rfl (h := ?_) ))
  all_goals try (exfalso; simp at hc; done)
  refine AW.loopN [5, 22, 27, 31] (fun k st => ∃ z : Nat, z + k = 16 ∧ st = ⟨217, [(5, .pointer (some ⟨M.length, 0, none⟩)), (22, .float .f32 off), (27, .pointer (some ⟨M.length + 3, 0, none⟩)), (31, .int .i64 (z : Int))], M ++ [rdB c p b l, rdB s1 p b l, rdB s2 p b l, rdB sf p b l]⟩) 16 ⟨0, by omega, rfl⟩ ?_
  rintro k st ⟨z, hz, rfl⟩
  by_cases hzz : z < 16
  · clear hB hR hO hE hE2 hF hF2 hSF hZ hDZ hD hD2
    have hT := hTF z hzz
    have w4 := w3 z (by omega) (by omega)
    have w5 : fgt .f32 (tksF p b (sf z)) 981467136 = false := by simpa using w4
    repeat' (first | (refine d_AOs (h := ?_) ; first | refine o_move (h := ?_) | refine o_assign (h := ?_) | refine AOs.nil (h := ?_) | (refine d_bin (h := ?_) ; first | refine o_fneS (h := ?_) | refine o_fneC (h := ?_) | refine o_feqC (h := ?_) | refine o_fltC (h := ?_) | refine o_fgtC (h := ?_) | refine o_fleC (h := ?_) | refine o_fgeC (h := ?_) | refine o_eqNil (h := ?_) | refine o_addS (h := ?_) | refine o_add (h := ?_) | refine o_lss (h := ?_) | refine o_eqi (h := ?_) | refine o_eqB (h := ?_) | refine o_neB (h := ?_) | refine o_nei (h := ?_) | refine o_gtr (h := ?_) | refine o_geq (h := ?_) | refine o_subS (h := ?_) | refine o_sub (h := ?_) | refine o_fisnan (h := ?_) | refine o_fne (h := ?_) | refine o_feq (h := ?_) | refine o_flt (h := ?_) | refine o_fgt (h := ?_) | refine o_fge (h := ?_) | refine o_fadd (h := ?_) | refine o_fsub (h := ?_) ) | (refine d_grd (h := ?_) ; first | refine g_yes (h := ?_) | refine g_no (h := ?_) | refine g_undef (h := ?_) | (refine g_true (h1 := (fun hg => ?_)) (h0 := (fun hg => ?_)) <;> (try rw [hg]) <;> (try simp only [decide_eq_true_eq, decide_eq_false_iff_not, Int.ofNat_inj, Bool.not_eq_true', Bool.not_eq_false', Int.not_lt, Int.not_le] at hg) <;> (try (exfalso; omega)) <;> (try (exact absurd hg (by decide)))) | (refine g_false (h1 := (fun hg => ?_)) (h0 := (fun hg => ?_)) <;> (try rw [hg]) <;> (try simp only [decide_eq_true_eq, decide_eq_false_iff_not, Int.ofNat_inj, Bool.not_eq_true', Bool.not_eq_false', Int.not_lt, Int.not_le] at hg) <;> (try (exfalso; omega)) <;> (try (exact absurd hg (by decide))))) | refine o_call (hc := (hT _)) (h := ?_) | refine o_load (h := ?_) | refine o_at (h := ?_) | refine o_pick (h := ?_) | refine o_store (h := ?_) | refine o_alloc (h := ?_) | refine o_extract (h := ?_) ) | (refine d_AW (h := ?_) ; first | refine AW.seq (h := ?_) | refine AW.region (h := ?_) | (refine AW.cond (ht := (fun hc => ?_)) (hf := (fun hc => ?_)) <;> (try (with_reducible first | exact absurd hc Bool.false_ne_true | exact absurd hc.symm Bool.false_ne_true)) <;> (try simp only [decide_eq_true_eq, decide_eq_false_iff_not, Int.ofNat_inj, Bool.not_eq_true', Bool.not_eq_false', Int.not_lt, Int.not_le] at hc) <;> (try (exfalso; omega)) <;> (try (exact absurd hc (by decide)))) | refine AW.block (h := ?_) | refine AW.ret (h := ?_) | refine AW.skip (h := ?_) | refine AW.exit (h := ?_) ) | (first | refine t_normal ?_ | refine t_ret ?_ | refine t_exit ?_ | refine b_normal ?_ | refine b_exit ?_ | refine b_exit' (by decide) ?_ | refine b_ret ?_) | (refine d_post (h := ?_) ; first | refine p_ret1 rfl (h := ?_) | refine p_end1 rfl (h := ?_) | refine p_cell1 rfl (h := ?_) ))
    all_goals first | exact ⟨k - 1, by omega, z + 1, by omega, rfl⟩ | (exfalso; simp at hc; done)
  · obtain rfl : z = 16 := by omega
    repeat' (first | (refine d_AOs (h := ?_) ; first | refine o_move (h := ?_) | refine o_assign (h := ?_) | refine AOs.nil (h := ?_) | (refine d_bin (h := ?_) ; first | refine o_fneS (h := ?_) | refine o_fneC (h := ?_) | refine o_feqC (h := ?_) | refine o_fltC (h := ?_) | refine o_fgtC (h := ?_) | refine o_fleC (h := ?_) | refine o_fgeC (h := ?_) | refine o_subV (v := (m : Int)) (hv := by omega) (h := ?_) | refine o_eqNil (h := ?_) | refine o_addS (h := ?_) | refine o_add (h := ?_) | refine o_lss (h := ?_) | refine o_eqi (h := ?_) | refine o_eqB (h := ?_) | refine o_neB (h := ?_) | refine o_nei (h := ?_) | refine o_gtr (h := ?_) | refine o_geq (h := ?_) | refine o_subS (h := ?_) | refine o_sub (h := ?_) | refine o_fisnan (h := ?_) | refine o_fne (h := ?_) | refine o_feq (h := ?_) | refine o_flt (h := ?_) | refine o_fgt (h := ?_) | refine o_fge (h := ?_) | refine o_fadd (h := ?_) | refine o_fsub (h := ?_) ) | (refine d_grd (h := ?_) ; first | refine g_yes (h := ?_) | refine g_no (h := ?_) | refine g_undef (h := ?_) | (refine g_true (h1 := (fun hg => ?_)) (h0 := (fun hg => ?_)) <;> (try rw [hg]) <;> (try simp only [decide_eq_true_eq, decide_eq_false_iff_not, Int.ofNat_inj, Bool.not_eq_true', Bool.not_eq_false', Int.not_lt, Int.not_le] at hg) <;> (try (exfalso; omega)) <;> (try (exact absurd hg (by decide)))) | (refine g_false (h1 := (fun hg => ?_)) (h0 := (fun hg => ?_)) <;> (try rw [hg]) <;> (try simp only [decide_eq_true_eq, decide_eq_false_iff_not, Int.ofNat_inj, Bool.not_eq_true', Bool.not_eq_false', Int.not_lt, Int.not_le] at hg) <;> (try (exfalso; omega)) <;> (try (exact absurd hg (by decide))))) | refine o_call (hc := (hB _)) (h := ?_) | refine o_call (hc := (hR _ (by first | exact hS | exact hS.append))) (h := ?_) | refine o_call (hc := (hO _ (by first | exact hS' | exact hS'.append))) (h := ?_) | refine o_call (hc := (hE _)) (h := ?_) | refine o_call (hc := (hE2 _)) (h := ?_) | refine o_call (hc := (hSE _)) (h := ?_) | refine o_call (hc := (hSE2 _)) (h := ?_) | refine o_call (hc := (hCE _)) (h := ?_) | refine o_call (hc := (hCE2 _)) (h := ?_) | refine o_call (hc := (hF _)) (h := ?_) | refine o_call (hc := (hF2 _)) (h := ?_) | refine o_call (hc := (hSF _)) (h := ?_) | refine o_call (hc := (hZ _)) (h := ?_) | refine o_call (hc := (hDZ _)) (h := ?_) | refine o_call (hc := (hD _)) (h := ?_) | refine o_call (hc := (hD2 _)) (h := ?_) | refine o_store (hw := by first | exact whole_tabR (fun _ => rfl) rfl | exact whole_tab (fun _ => rfl)) (hcs := by exact st_all (by rfl)) (h := ?_) | refine o_load (h := ?_) | refine o_at (h := ?_) | refine o_pick (h := ?_) | refine o_store (h := ?_) | refine o_alloc (h := ?_) | refine o_extract (h := ?_) ) | (refine d_AW (h := ?_) ; first | refine AW.seq (h := ?_) | refine AW.region (h := ?_) | (refine AW.cond (ht := (fun hc => ?_)) (hf := (fun hc => ?_)) <;> (try (with_reducible first | exact absurd hc Bool.false_ne_true | exact absurd hc.symm Bool.false_ne_true)) <;> (try simp only [decide_eq_true_eq, decide_eq_false_iff_not, Int.ofNat_inj, Bool.not_eq_true', Bool.not_eq_false', Int.not_lt, Int.not_le] at hc) <;> (try (exfalso; omega)) <;> (try (exact absurd hc (by decide)))) | refine AW.block (h := ?_) | refine AW.ret (h := ?_) | refine AW.skip (h := ?_) | refine AW.exit (h := ?_) ) | (first | refine t_normal ?_ | refine t_ret ?_ | refine t_exit ?_ | refine b_normal ?_ | refine b_exit ?_ | refine b_exit' (by decide) ?_ | refine b_ret ?_) | (refine d_post (h := ?_) ; first | refine p_ret1 rfl (h := ?_) | refine p_end1 rfl (h := ?_) | refine p_cell1 rfl (h := ?_) ))
    all_goals first | rfl | (exfalso; simp at hc; done)
theorem le_301 {k : Nat} (h : k < 0 + (300 + 1)) : k ≤ 300 := by omega
theorem le_401 {k : Nat} (h : k < 0 + (400 + 1)) : k ≤ 400 := by omega
theorem wEmX (a a' : Option Addr) (n n' cp cp' : Nat) (cd cd' : Nat → Int) (M : Mem) (hm : n ≤ 9223372036854775807) (hm' : n' ≤ 9223372036854775807) (hcd : ∀ q, 0 ≤ cd q ∧ cd q ≤ 255) (hcd' : ∀ q, 0 ≤ cd' q ∧ cd' q ≤ 255)
    (hS : SlAt M a n (tab n fun q => .int .u8 (cd q))) (hS' : SlAt M a' n' (tab n' fun q => .int .u8 (cd' q))) {c : Nat → Nat} {p b l off : Nat} (hdr : RdDr c p b l) (no : nn off) (ho1 : fv off ≤ U) (hB : ∀ M, Pure Try.prog 7 [.slice a n cp, .slice a' n' cp'] M (.bool false)) (hR : ∀ M, SlAt M a n (tab n fun q => .int .u8 (cd q)) → Pure Try.prog 8 [.slice a n cp] M (rdV c p b l)) (hO : ∀ M, SlAt M a' n' (tab n' fun q => .int .u8 (cd' q)) → Pure Try.prog 13 [.slice a' n' cp'] M (.float .f32 off)) (m : Nat) (hE : untR (fun i => empB l (rdIt c p b (fun _ => 0) (fun _ => 1065353216) i)) (400 + 1) 0 = ((m : Int), 0) ∧ 0 ≤ m ∧ m < 0 + (400 + 1) ∧ (fun i => empB l (rdIt c p b (fun _ => 0) (fun _ => 1065353216) i)) m = true ∧ (0 < m → (fun i => empB l (rdIt c p b (fun _ => 0) (fun _ => 1065353216) i)) (m - 1) = false)) (k : Nat) (hF : untR (fun i => fulB p b (rdIt c p b (fun _ => off) (fun _ => 0) i)) (300 + 1) 0 = ((k : Int), 0) ∧ 0 ≤ k ∧ k < 0 + (300 + 1) ∧ (fun i => fulB p b (rdIt c p b (fun _ => off) (fun _ => 0) i)) k = true ∧ (0 < k → (fun i => fulB p b (rdIt c p b (fun _ => off) (fun _ => 0) i)) (k - 1) = false)) :
    Pure Try.prog 3 [.slice a n cp, .slice a' n' cp'] M (.bool true) :=
  match m, hE with
  | 0, hE => wEmBy a a' n n' cp cp' cd cd' M hm hm' hcd hcd' hS hS' hdr no ho1 hB hR hO hE.1 hE.2.2.2.1 (le_301 hF.2.2.1) hF.1 hF.2.2.2.1
  | m + 1, hE => wEmCy a a' n n' cp cp' cd cd' M hm hm' hcd hcd' hS hS' hdr no ho1 hB hR hO (le_401 hE.2.2.1) hE.1 hE.2.2.2.1 (hE.2.2.2.2 (Nat.succ_pos m)) (le_301 hF.2.2.1) hF.1 hF.2.2.2.1
theorem wEmY (a a' : Option Addr) (n n' cp cp' : Nat) (cd cd' : Nat → Int) (M : Mem) (hm : n ≤ 9223372036854775807) (hm' : n' ≤ 9223372036854775807) (hcd : ∀ q, 0 ≤ cd q ∧ cd q ≤ 255) (hcd' : ∀ q, 0 ≤ cd' q ∧ cd' q ≤ 255)
    (hS : SlAt M a n (tab n fun q => .int .u8 (cd q))) (hS' : SlAt M a' n' (tab n' fun q => .int .u8 (cd' q))) {c : Nat → Nat} {p b l off : Nat} (hdr : RdDr c p b l) (no : nn off) (ho1 : fv off ≤ U) (hB : ∀ M, Pure Try.prog 7 [.slice a n cp, .slice a' n' cp'] M (.bool false)) (hR : ∀ M, SlAt M a n (tab n fun q => .int .u8 (cd q)) → Pure Try.prog 8 [.slice a n cp] M (rdV c p b l)) (hO : ∀ M, SlAt M a' n' (tab n' fun q => .int .u8 (cd' q)) → Pure Try.prog 13 [.slice a' n' cp'] M (.float .f32 off)) (m : Nat) (hE : untR (fun i => empB l (rdIt c p b (fun _ => 0) (fun _ => 1065353216) i)) (400 + 1) 0 = ((m : Int), 0) ∧ 0 ≤ m ∧ m < 0 + (400 + 1) ∧ (fun i => empB l (rdIt c p b (fun _ => 0) (fun _ => 1065353216) i)) m = true ∧ (0 < m → (fun i => empB l (rdIt c p b (fun _ => 0) (fun _ => 1065353216) i)) (m - 1) = false)) (f1 : untR (fun i => fulB p b (rdIt c p b (fun _ => off) (fun _ => 0) i)) (300 + 1) 0 = (0, 7)) :
    Pure Try.prog 3 [.slice a n cp, .slice a' n' cp'] M (.bool true) :=
  match m, hE with
  | 0, hE => wEmBx a a' n n' cp cp' cd cd' M hm hm' hcd hcd' hS hS' hdr no ho1 hB hR hO hE.1 hE.2.2.2.1 f1
  | m + 1, hE => wEmCx a a' n n' cp cp' cd cd' M hm hm' hcd hcd' hS hS' hdr no ho1 hB hR hO (le_401 hE.2.2.1) hE.1 hE.2.2.2.1 (hE.2.2.2.2 (Nat.succ_pos m)) f1
set_option maxHeartbeats 4000000 in
theorem wEmptied (a a' : Option Addr) (n n' cp cp' : Nat) (cd cd' : Nat → Int) (M : Mem) (hm : n ≤ 9223372036854775807) (hm' : n' ≤ 9223372036854775807) (hcd : ∀ q, 0 ≤ cd q ∧ cd q ≤ 255) (hcd' : ∀ q, 0 ≤ cd' q ∧ cd' q ≤ 255)
    (hS : SlAt M a n (tab n fun q => .int .u8 (cd q))) (hS' : SlAt M a' n' (tab n' fun q => .int .u8 (cd' q))) :
    Pure Try.prog 3 [.slice a n cp, .slice a' n' cp'] M (.bool true) := by
  have hB := fun M' => la2Long a a' n n' cp cp' hm hm' M'
  by_cases hbig : (3000 : Int) < n ∨ (3000 : Int) < n'
  · rw [decide_eq_true hbig] at hB
    refine pure_of Try.func3 Try.ntmps3 rfl rfl (by repeat' (first | exact Flat.bool _ | exact Flat.int _ _ | exact Flat.float _ _ | exact Flat.string _ | exact flat_nil | exact flat_tabL (fun _ => Flat.bool _) | exact flat_tabL (fun _ => Flat.int _ _) | exact flat_tabL (fun _ => Flat.float _ _) | refine flat_tuple ?_ | refine flat_agg ?_ | refine flat_cons ?_ ?_ | refine flat_append ?_ ?_)) ?_
    simp only [envOf, Nat.zero_add, Nat.reduceAdd]
    repeat' (first | (refine d_AOs (h := ?_) ; first | refine o_move (h := ?_) | refine o_assign (h := ?_) | refine AOs.nil (h := ?_) | (refine d_bin (h := ?_) ; first | refine o_eqNil (h := ?_) | refine o_addS (h := ?_) | refine o_add (h := ?_) | refine o_lss (h := ?_) | refine o_eqi (h := ?_) | refine o_eqB (h := ?_) | refine o_neB (h := ?_) | refine o_nei (h := ?_) | refine o_gtr (h := ?_) | refine o_geq (h := ?_) | refine o_subS (h := ?_) | refine o_sub (h := ?_) | refine o_fisnan (h := ?_) | refine o_fne (h := ?_) | refine o_feq (h := ?_) | refine o_flt (h := ?_) | refine o_fgt (h := ?_) | refine o_fge (h := ?_) | refine o_fadd (h := ?_) | refine o_fsub (h := ?_) ) | (refine d_grd (h := ?_) ; first | refine g_yes (h := ?_) | refine g_no (h := ?_) | refine g_undef (h := ?_) | (refine g_true (h1 := (fun hg => ?_)) (h0 := (fun hg => ?_)) <;> (try rw [hg]) <;> (try simp only [decide_eq_true_eq, decide_eq_false_iff_not, Int.ofNat_inj, Bool.not_eq_true', Bool.not_eq_false', Int.not_lt, Int.not_le] at hg) <;> (try (exfalso; omega)) <;> (try (exact absurd hg (by decide)))) | (refine g_false (h1 := (fun hg => ?_)) (h0 := (fun hg => ?_)) <;> (try rw [hg]) <;> (try simp only [decide_eq_true_eq, decide_eq_false_iff_not, Int.ofNat_inj, Bool.not_eq_true', Bool.not_eq_false', Int.not_lt, Int.not_le] at hg) <;> (try (exfalso; omega)) <;> (try (exact absurd hg (by decide))))) | refine o_call (hc := (hB _)) (h := ?_) | refine o_load (h := ?_) | refine o_at (h := ?_) | refine o_pick (h := ?_) | refine o_store (h := ?_) | refine o_alloc (h := ?_) | refine o_extract (h := ?_) ) | (refine d_AW (h := ?_) ; first | refine AW.seq (h := ?_) | refine AW.region (h := ?_) | (refine AW.cond (ht := (fun hc => ?_)) (hf := (fun hc => ?_)) <;> (try (with_reducible first | exact absurd hc Bool.false_ne_true | exact absurd hc.symm Bool.false_ne_true)) <;> (try simp only [decide_eq_true_eq, decide_eq_false_iff_not, Int.ofNat_inj, Bool.not_eq_true', Bool.not_eq_false', Int.not_lt, Int.not_le] at hc) <;> (try (exfalso; omega)) <;> (try (exact absurd hc (by decide)))) | refine AW.block (h := ?_) | refine AW.ret (h := ?_) | refine AW.skip (h := ?_) | refine AW.exit (h := ?_) ) | (first | refine t_normal ?_ | refine t_ret ?_ | refine t_exit ?_ | refine b_normal ?_ | refine b_exit ?_ | refine b_exit' (by decide) ?_ | refine b_ret ?_) | (refine d_post (h := ?_) ; first | refine p_ret1 rfl (h := ?_) | refine p_end1 rfl (h := ?_) | refine p_cell1 rfl (h := ?_) ))
    all_goals first | rfl | (simp at hc; done)
  · rw [decide_eq_false hbig] at hB
    obtain ⟨c, p, b, l, hdr, hR⟩ : ∃ c p b l, RdDr c p b l ∧ ∀ M, SlAt M a n (tab n fun q => .int .u8 (cd q)) → Pure Try.prog 8 [.slice a n cp] M (rdV c p b l) :=
      ⟨_, _, _, _, dw_drawn n cd (0, 0), fun M' h => sA2Road a n cp cd hcd (by omega) M' h⟩
    have hxo := pkV_bd (n := n') (cd := cd') (0, 0) (m := 33) (by omega)
    have hO := fun M' h => sA2Share a' n' cp' cd' hcd' (by omega) M' h
    obtain ⟨no, fo⟩ := sh32_fv (x := pkV n' cd' (0, 0) 33) (by omega)
    have hU := U_val
    have ho1 : fv (sh32 (pkV n' cd' (0, 0) 33)) ≤ U := by omega
    generalize sh32 (pkV n' cd' (0, 0) 33) = off at *
    clear fo hxo hU hbig
    have hQE := untR_ok (Q := fun i => empB l (rdIt c p b (fun _ => 0) (fun _ => 1065353216) i)) (400 + 1) 0
    have hQF := untR_ok (Q := fun i => fulB p b (rdIt c p b (fun _ => off) (fun _ => 0) i)) (300 + 1) 0
    exact Or.elim hQE
      (fun ⟨m, hE⟩ => Or.elim hQF
        (fun ⟨k, hF⟩ => wEmX a a' n n' cp cp' cd cd' M hm hm' hcd hcd' hS hS' hdr no ho1 hB hR hO m hE k hF)
        (fun f1 => wEmY a a' n n' cp cp' cd cd' M hm hm' hcd hcd' hS hS' hdr no ho1 hB hR hO m hE f1))
      (fun e1 => Or.elim hQF
        (fun ⟨k, hF⟩ => wEmAy a a' n n' cp cp' cd cd' M hm hm' hcd hcd' hS hS' hdr no ho1 hB hR hO e1 (le_301 hF.2.2.1) hF.1 hF.2.2.2.1)
        (fun f1 => wEmAx a a' n n' cp cp' cd cd' M hm hm' hcd hcd' hS hS' hdr no ho1 hB hR hO e1 f1))
end Go.Proofs.Ytpffdjleonkdoaa
