/- Roads and shares that are drawn. -/
import Derived.Test.YtgdpcomemkimhaaGreatDoorDr2
import Derived.Test.YtgdpcomemkimhaaGreatDoorJn

namespace Go.Proofs.YtgdpcomemkimhaaGreatDoor
open Go.RowKit
attribute [local irreducible] AW AOs AO AQ AQW thenA inBlockA postA ACalls Pure
set_option linter.unusedSimpArgs false
set_option linter.unusedVariables false
set_option linter.unusedSectionVars false

def sh32 (x : Int) : Nat := fdiv .f32 (fofInt .f32 x) 1107296256
def pbw (k : Int) : Nat := fdiv .f32 (fofInt .f32 (1 + k)) 1098907648
def lnw (k : Int) : Nat := fdiv .f32 (fofInt .f32 (1 + k)) 1082130432
theorem sh32_33 : ∀ x : Fin 33, fin32 (sh32 x.val) = true ∧ sh32 x.val < 2147483648 ∧ fv (sh32 x.val) = (x.val : Int) * 2 ^ 144 := by decide +kernel
theorem sh32_fv {x : Int} (h : 0 ≤ x ∧ x ≤ 32) : nn (sh32 x) ∧ fv (sh32 x) = x * 2 ^ 144 := by
  obtain ⟨h1, h2, h3⟩ := sh32_33 ⟨x.toNat, by omega⟩
  have e : ((x.toNat : Nat) : Int) = x := Int.toNat_of_nonneg h.1
  simp only [e] at h1 h2 h3
  exact ⟨⟨h1, h2⟩, h3⟩
theorem pbw_16 : ∀ x : Fin 16, fin32 (pbw x.val) = true ∧ pbw x.val < 2147483648 ∧ fv (pbw x.val) = (1 + (x.val : Int)) * 2 ^ 145 := by decide +kernel
theorem pbw_fv {k : Int} (h : 0 ≤ k ∧ k < 16) : nn (pbw k) ∧ fv (pbw k) = (1 + k) * 2 ^ 145 := by
  obtain ⟨h1, h2, h3⟩ := pbw_16 ⟨k.toNat, by omega⟩
  have e : ((k.toNat : Nat) : Int) = k := Int.toNat_of_nonneg h.1
  simp only [e] at h1 h2 h3
  exact ⟨⟨h1, h2⟩, h3⟩
theorem lnw_12 : ∀ x : Fin 12, fin32 (lnw x.val) = true ∧ lnw x.val < 2147483648 ∧ fv (lnw x.val) = (1 + (x.val : Int)) * 2 ^ 147 := by decide +kernel
theorem lnw_fv {k : Int} (h : 0 ≤ k ∧ k < 12) : nn (lnw k) ∧ fv (lnw k) = (1 + k) * 2 ^ 147 := by
  obtain ⟨h1, h2, h3⟩ := lnw_12 ⟨k.toNat, by omega⟩
  have e : ((k.toNat : Nat) : Int) = k := Int.toNat_of_nonneg h.1
  simp only [e] at h1 h2 h3
  exact ⟨⟨h1, h2⟩, h3⟩
theorem sh32_one : sh32 32 = 1065353216 := by decide +kernel
theorem sh32_zero : sh32 0 = 0 := by decide +kernel
/-- A road that can be drawn. -/
structure RdDr (c : Nat → Nat) (p b l : Nat) : Prop where
  cars : ∀ q, q < 16 → ∃ x : Int, (0 ≤ x ∧ x ≤ 32) ∧ c q = sh32 x
  pace : ∃ k : Int, (0 ≤ k ∧ k < 16) ∧ p = pbw k
  back : ∃ k : Int, (0 ≤ k ∧ k < 16) ∧ b = pbw k
  lanes : ∃ k : Int, (0 ≤ k ∧ k < 12) ∧ l = lnw k
theorem lp_fin : fin32 1015021568 = true := by decide +kernel
theorem quarter_fin : fin32 1048576000 = true := by decide +kernel
theorem eight_fin : fin32 1090519040 = true := by decide +kernel
theorem RdDr.pb {c : Nat → Nat} {p b l : Nat} (h : RdDr c p b l) : PbOk p b := by
  obtain ⟨k, hk, rfl⟩ := h.pace
  obtain ⟨k', hk', rfl⟩ := h.back
  obtain ⟨h1, h2⟩ := pbw_fv hk
  obtain ⟨h3, h4⟩ := pbw_fv hk'
  have hU := U_val
  exact ⟨h1, h3, by omega, by omega, by omega, by omega⟩
theorem RdDr.car {c : Nat → Nat} {p b l : Nat} (h : RdDr c p b l) {q : Nat} (hq : q < 16) : nn (c q) ∧ fv (c q) ≤ U := by
  obtain ⟨x, hx, e⟩ := h.cars q hq
  obtain ⟨h1, h2⟩ := sh32_fv hx
  have hU := U_val
  rw [e]; exact ⟨h1, by omega⟩
theorem RdDr.ok {c : Nat → Nat} {p b l : Nat} (h : RdDr c p b l) : RdOk c p b l := by
  have hpb := h.pb
  obtain ⟨k, hk, e⟩ := h.lanes
  obtain ⟨h1, h2⟩ := lnw_fv hk
  refine ⟨fun q hq => nn_sh (h.car hq).1 (h.car hq).2, nn_sh hpb.pn hpb.p1, nn_sh hpb.bn hpb.b1, ?_, ?_, by rw [e]; exact nn_am h1, ?_, ?_⟩
  · rw [fge_fv hpb.pn.1 lp_fin, fv_lp]; exact decide_eq_true hpb.p0
  · rw [fge_fv hpb.bn.1 lp_fin, fv_lp]; exact decide_eq_true hpb.b0
  · rw [e, fge_fv h1.1 quarter_fin, fv_quarter]; exact decide_eq_true (by omega)
  · rw [e, fle_fv h1.1 eight_fin, fv_eight]; exact decide_eq_true (by omega)

section
variable (a : Option Addr) (n cp : Nat) (cd : Nat → Int)
def plS (s : DS) : Nat → DS
  | 0 => s
  | i + 1 => pkS n cd (plS s i) 33
theorem plS_at (s : DS) : ∀ i, (plS n cd s i).1 ≤ s.1 + i
  | 0 => Nat.le_refl _
  | i + 1 => by
    have h1 := plS_at s i
    have h2 := pkS_at n cd (plS n cd s i) 33
    show (pkS n cd (plS n cd s i) 33).1 ≤ _
    omega
theorem splain (hcd : ∀ q, 0 ≤ cd q ∧ cd q ≤ 255) (hn : n ≤ 1048576) (s : DS) (j : Nat) (M : Mem) (hat : s.1 ≤ 1000000) (hb : M[j]? = some (srcB a n cp s)) (hS : SlAt M a n (tab n fun q => .int .u8 (cd q))) :
    Mut Tryz.prog 95 [.pointer (some ⟨j, 0, none⟩)] M (.float .f32 (sh32 (pkV n cd s 33))) (M.set j (srcB a n cp (pkS n cd s 33))) := by
  refine mut_of Tryz.func95 Tryz.ntmps95 rfl rfl (by rw [List.length_set]; exact Nat.le_refl _) (by repeat' (first | exact Flat.bool _ | exact Flat.int _ _ | exact Flat.float _ _ | exact Flat.string _ | exact flat_nil | exact flat_tabL (fun _ => Flat.bool _) | exact flat_tabL (fun _ => Flat.int _ _) | exact flat_tabL (fun _ => Flat.float _ _) | refine flat_tuple ?_ | refine flat_agg ?_ | refine flat_cons ?_ ?_ | refine flat_append ?_ ?_)) (src_closed hb) ?_
  have hpk := spick a n cp cd hcd hn s 33 (by omega) j M hat hb hS
  have hbd := pkV_bd (n := n) (cd := cd) s (m := 33) (by omega)
  simp only [envOf, Nat.zero_add, Nat.reduceAdd]
  repeat' (first | (refine d_AOs (h := ?_) ; first | refine o_move (h := ?_) | refine o_assign (h := ?_) | refine AOs.nil (h := ?_) | (refine d_bin (h := ?_) ; first | refine o_quo (h := ?_) | refine o_fdiv (h := ?_) )  | refine o_callM (hc := hpk) (h := ?_) | refine o_at (h := ?_) | refine o_convS (h := ?_) | refine o_conv (h := ?_) | refine o_fconv (h := ?_) | refine o_fofInt (h := ?_) ) | (refine d_AW (h := ?_) ; first | refine AW.seq (h := ?_) | refine AW.region (h := ?_) | (refine AW.cond (ht := (fun hc => ?_)) (hf := (fun hc => ?_)) <;> (try (with_reducible first | exact absurd hc Bool.false_ne_true | exact absurd hc.symm Bool.false_ne_true)) <;> (try simp only [decide_eq_true_eq, decide_eq_false_iff_not, Int.ofNat_inj, Bool.not_eq_true', Bool.not_eq_false', Int.not_lt, Int.not_le] at hc) <;> (try (exfalso; omega)) <;> (try (exact absurd hc (by decide)))) | refine AW.block (h := ?_) | refine AW.ret (h := ?_) | refine AW.skip (h := ?_) | refine AW.exit (h := ?_) ) | (first | refine t_normal ?_ | refine t_ret ?_ | refine t_exit ?_ | refine b_normal ?_ | refine b_exit ?_ | refine b_exit' (by decide) ?_ | refine b_ret ?_) | (refine d_post (h := ?_) ; first | refine p_ret1 rfl (h := ?_) | refine p_end1 rfl (h := ?_) | refine p_cell1 rfl (h := ?_) ))
  all_goals rfl
theorem sA2Share (hcd : ∀ q, 0 ≤ cd q ∧ cd q ≤ 255) (hn : n ≤ 1048576) (M : Mem) (hS : SlAt M a n (tab n fun q => .int .u8 (cd q))) :
    Pure Tryz.prog 41 [.slice a n cp] M (.float .f32 (sh32 (pkV n cd (0, 0) 33))) := by
  refine pure_of Tryz.func41 Tryz.ntmps41 rfl rfl (by repeat' (first | exact Flat.bool _ | exact Flat.int _ _ | exact Flat.float _ _ | exact Flat.string _ | exact flat_nil | exact flat_tabL (fun _ => Flat.bool _) | exact flat_tabL (fun _ => Flat.int _ _) | exact flat_tabL (fun _ => Flat.float _ _) | refine flat_tuple ?_ | refine flat_agg ?_ | refine flat_cons ?_ ?_ | refine flat_append ?_ ?_)) ?_
  have hp := fun j M' h1 h2 => splain a n cp cd hcd hn (0, 0) j M' (by simp) h1 h2
  simp only [envOf, Nat.zero_add, Nat.reduceAdd]
  repeat' (first | (refine d_AOs (h := ?_) ; first | refine o_move (h := ?_) | refine o_assign (h := ?_) | refine AOs.nil (h := ?_)  | refine o_callA (hc := (sfrom a n cp _)) (h := ?_) | refine o_callM (hc := (hp _ _ (by first | (simp only [mem_tail, mem_tail0, List.getElem?_cons_zero, List.getElem?_cons_succ]; first | done | rfl) | exact mem_head (by assumption) | assumption | (simp only [mem_tailS, mem_tailS0, List.getElem?_cons_zero, List.getElem?_cons_succ]; first | done | rfl) | exact mem_set1 (by assumption) | exact mem_set0 (by assumption) | exact mem_setN1 (by assumption) (by assumption) | exact mem_setN (by assumption) (by assumption)) (by first | exact hS | exact hS.append))) (h := ?_) | refine o_at (h := ?_) ) | (refine d_AW (h := ?_) ; first | refine AW.seq (h := ?_) | refine AW.region (h := ?_) | (refine AW.cond (ht := (fun hc => ?_)) (hf := (fun hc => ?_)) <;> (try (with_reducible first | exact absurd hc Bool.false_ne_true | exact absurd hc.symm Bool.false_ne_true)) <;> (try simp only [decide_eq_true_eq, decide_eq_false_iff_not, Int.ofNat_inj, Bool.not_eq_true', Bool.not_eq_false', Int.not_lt, Int.not_le] at hc) <;> (try (exfalso; omega)) <;> (try (exact absurd hc (by decide)))) | refine AW.block (h := ?_) | refine AW.ret (h := ?_) | refine AW.skip (h := ?_) | refine AW.exit (h := ?_) ) | (first | refine t_normal ?_ | refine t_ret ?_ | refine t_exit ?_ | refine b_normal ?_ | refine b_exit ?_ | refine b_exit' (by decide) ?_ | refine b_ret ?_) | (refine d_post (h := ?_) ; first | refine p_ret1 rfl (h := ?_) | refine p_end1 rfl (h := ?_) | refine p_cell1 rfl (h := ?_) ))
  all_goals rfl
/-! ### A road -/
def dwCar (s : DS) (k : Int) (q : Nat) : Nat := if k = 0 then sh32 (pkV n cd s 33) else if k = 1 then (if pkV n cd s 16 ≤ (q : Int) then 1065353216 else 0) else sh32 (pkV n cd (plS n cd s q) 33)
def dwEnd (s : DS) (k : Int) : DS := if k = 0 then pkS n cd s 33 else if k = 1 then pkS n cd s 16 else plS n cd s 16
def dwS1 (s : DS) : DS := pkS n cd s 16
def dwS2 (s : DS) : DS := pkS n cd (dwS1 n cd s) 16
def dwS3 (s : DS) : DS := pkS n cd (dwS2 n cd s) 12
def dwS4 (s : DS) : DS := pkS n cd (dwS3 n cd s) 4
def dwK (s : DS) : Int := pkV n cd (dwS3 n cd s) 4
abbrev dwC (s : DS) : Nat → Nat := dwCar n cd (dwS4 n cd s) (dwK n cd s)
abbrev dwP (s : DS) : Nat := pbw (pkV n cd s 16)
abbrev dwB (s : DS) : Nat := pbw (pkV n cd (dwS1 n cd s) 16)
abbrev dwL (s : DS) : Nat := lnw (pkV n cd (dwS2 n cd s) 12)
theorem dw_drawn (s : DS) : RdDr (dwC n cd s) (dwP n cd s) (dwB n cd s) (dwL n cd s) := by
  refine ⟨fun q _ => ?_, ⟨_, pkV_bd _ (by omega), rfl⟩, ⟨_, pkV_bd _ (by omega), rfl⟩, ⟨_, pkV_bd _ (by omega), rfl⟩⟩
  show ∃ x : Int, _ ∧ dwCar n cd _ _ q = _
  unfold dwCar
  split
  · have := pkV_bd (n := n) (cd := cd) (dwS4 n cd s) (m := 33) (by omega)
    exact ⟨_, by omega, rfl⟩
  · split
    · split
      · exact ⟨32, by omega, sh32_one.symm⟩
      · exact ⟨0, by omega, sh32_zero.symm⟩
    · have := pkV_bd (n := n) (cd := cd) (plS n cd (dwS4 n cd s) q) (m := 33) (by omega)
      exact ⟨_, by omega, rfl⟩
theorem car_step {i : Nat} {f g : Nat → Nat} : tab 16 (fun q => if q = i then Value.float .f32 (f i) else (fun q => .float .f32 (if q < i then f q else g q)) q) = tab 16 fun q => .float .f32 (if q < i + 1 then f q else g q) :=
  tab_congr fun q _ => by
    by_cases h : q = i
    · subst h; rw [if_pos rfl, if_pos (by omega)]
    · rw [if_neg h]
      by_cases h2 : q < i
      · simp only [h2, if_true]; rw [if_pos (by omega)]
      · simp only [h2, if_false]; rw [if_neg (by omega)]
theorem rdB_all (f g : Nat → Nat) (p b l : Nat) : rdB (fun q => if q < 16 then f q else g q) p b l = rdB f p b l := by
  unfold rdB rdC
  rw [tab_congr (f := fun q => Value.float .f32 (if q < 16 then f q else g q)) (g := fun q => .float .f32 (f q)) fun q hq => by rw [if_pos hq]]
theorem rdB_step (f g : Nat → Nat) (i p b l : Nat) : rdB (fun q => if q < i + 1 then f q else g q) p b l = ⟨tab 16 (fun q => if q = i then Value.float .f32 (f i) else (fun q => .float .f32 (if q < i then f q else g q)) q) ++ ([.float .f32 p, .float .f32 b, .float .f32 l] : List Value), none, true⟩ := by
  unfold rdB rdC
  rw [car_step]
theorem rdB_stepV (f g : Nat → Nat) (i p b l v : Nat) (hv : f i = v) : rdB (fun q => if q < i + 1 then f q else g q) p b l = ⟨tab 16 (fun q => if q = i then Value.float .f32 v else (fun q => .float .f32 (if q < i then f q else g q)) q) ++ ([.float .f32 p, .float .f32 b, .float .f32 l] : List Value), none, true⟩ := by
  subst hv; exact rdB_step f g i p b l
theorem rdB_congr {f g : Nat → Nat} {p b l : Nat} (h : ∀ q, q < 16 → f q = g q) : rdB f p b l = rdB g p b l := by
  unfold rdB rdC
  rw [tab_congr (f := fun q => Value.float .f32 (f q)) (g := fun q => .float .f32 (g q)) fun q hq => by rw [h q hq]]
set_option maxHeartbeats 4000000 in
theorem sdrawnR (hcd : ∀ q, 0 ≤ cd q ∧ cd q ≤ 255) (hn : n ≤ 1048576) (s : DS) (j : Nat) (M : Mem) (hat : s.1 ≤ 900000) (hb : M[j]? = some (srcB a n cp s)) (hS : SlAt M a n (tab n fun q => .int .u8 (cd q))) :
    Mut Tryz.prog 82 [.pointer (some ⟨j, 0, none⟩)] M (rdV (dwC n cd s) (dwP n cd s) (dwB n cd s) (dwL n cd s)) (M.set j (srcB a n cp (dwEnd n cd (dwS4 n cd s) (dwK n cd s)))) := by
  refine mut_of Tryz.func82 Tryz.ntmps82 rfl rfl (by rw [List.length_set]; exact Nat.le_refl _) (by repeat' (first | exact Flat.bool _ | exact Flat.int _ _ | exact Flat.float _ _ | exact Flat.string _ | exact flat_nil | exact flat_tabL (fun _ => Flat.bool _) | exact flat_tabL (fun _ => Flat.int _ _) | exact flat_tabL (fun _ => Flat.float _ _) | refine flat_tuple ?_ | refine flat_agg ?_ | refine flat_cons ?_ ?_ | refine flat_append ?_ ?_)) (src_closed hb) ?_
  have hjl := (List.getElem?_eq_some_iff.1 hb).1
  have q1 := pkS_at n cd s 16
  have q2 := pkS_at n cd (dwS1 n cd s) 16
  have q3 := pkS_at n cd (dwS2 n cd s) 12
  have q4 := pkS_at n cd (dwS3 n cd s) 4
  have p1 := fun M' h1 h2 => spick a n cp cd hcd hn s 16 (by omega) j M' (by omega) h1 h2
  have p2 := fun M' h1 h2 => spick a n cp cd hcd hn (dwS1 n cd s) 16 (by omega) j M' (by show (pkS n cd s 16).1 ≤ _; omega) h1 h2
  have p3 := fun M' h1 h2 => spick a n cp cd hcd hn (dwS2 n cd s) 12 (by omega) j M' (by show (pkS n cd (dwS1 n cd s) 16).1 ≤ _; unfold dwS1 at q2 ⊢; omega) h1 h2
  have p4 := fun M' h1 h2 => spick a n cp cd hcd hn (dwS3 n cd s) 4 (by omega) j M' (by show (pkS n cd (dwS2 n cd s) 12).1 ≤ _; unfold dwS2 dwS1 at q3 ⊢; unfold dwS1 at q2; omega) h1 h2
  have b1 := pkV_bd (n := n) (cd := cd) s (m := 16) (by omega)
  have b2 := pkV_bd (n := n) (cd := cd) (dwS1 n cd s) (m := 16) (by omega)
  have b3 := pkV_bd (n := n) (cd := cd) (dwS2 n cd s) (m := 12) (by omega)
  have b4 := pkV_bd (n := n) (cd := cd) (dwS3 n cd s) (m := 4) (by omega)
  have hat4 : (dwS4 n cd s).1 ≤ 900004 := by
    show (pkS n cd (dwS3 n cd s) 4).1 ≤ _
    unfold dwS3 dwS2 dwS1 at *
    omega
  have hSi : ∀ s' T, SlAt (M.set j (srcB a n cp s') ++ T) a n (tab n fun q => .int .u8 (cd q)) := fun s' T => (src_same hb hS).append
  have e1 : pkS n cd s 16 = dwS1 n cd s := rfl
  have e2 : pkS n cd (dwS1 n cd s) 16 = dwS2 n cd s := rfl
  have e3 : pkS n cd (dwS2 n cd s) 12 = dwS3 n cd s := rfl
  have e4 : pkS n cd (dwS3 n cd s) 4 = dwS4 n cd s := rfl
  rw [e1] at p1
  rw [e2] at p2
  rw [e3] at p3
  rw [e4] at p4
  unfold dwC dwP dwB dwL dwK
  generalize dwS4 n cd s = s4 at *
  generalize dwS3 n cd s = s3 at *
  generalize dwS2 n cd s = s2 at *
  generalize dwS1 n cd s = s1 at *
  clear e1 e2 e3 e4 q1 q2 q3 q4
  generalize pkV n cd s3 4 = k4 at *
  simp only [envOf, Nat.zero_add, Nat.reduceAdd]
  by_cases h0 : k4 = 0
  · subst h0
    have pa := fun M' h1 h2 => splain a n cp cd hcd hn s4 j M' (by omega) h1 h2
    have ec : dwCar n cd s4 0 = fun _ => sh32 (pkV n cd s4 33) := funext fun q => if_pos rfl
    have ee : dwEnd n cd s4 0 = pkS n cd s4 33 := if_pos rfl
    rw [ec, ee]
    repeat' (first | (refine d_AOs (h := ?_) ; first | refine o_move (h := ?_) | refine o_assign (h := ?_) | refine AOs.nil (h := ?_) | (refine d_bin (h := ?_) ; first | refine o_eqNil (h := ?_) | refine o_addS (h := ?_) | refine o_add (h := ?_) | refine o_lss (h := ?_) | refine o_eqi (h := ?_) | refine o_eqB (h := ?_) | refine o_geq (h := ?_) | refine o_quo (h := ?_) | refine o_feq (h := ?_) | refine o_flt (h := ?_) | refine o_fge (h := ?_) | refine o_fadd (h := ?_) | refine o_fdiv (h := ?_) )  | refine o_callM (hc := (p1 _ (mem_head hb) (by first | exact hS | exact hS.append))) (h := ?_) | refine o_build (cs := rdC (fun _ => 0) (pbw (pkV n cd s 16)) (pbw (pkV n cd s1 16)) (lnw (pkV n cd s2 12))) (hf := by rfl) (h := ?_) | refine o_callM (hc := (p2 _ (mem_set1 hjl) (hSi _ _))) (h := ?_) | refine o_callM (hc := (p3 _ (mem_set1 hjl) (hSi _ _))) (h := ?_) | refine o_callM (hc := (p4 _ (mem_set1 hjl) (hSi _ _))) (h := ?_) | refine o_callM (hc := (pa _ (mem_set1 hjl) (hSi _ _))) (h := ?_) | refine o_load (h := ?_) | refine o_at (h := ?_) | refine o_field (h := ?_) | refine o_ixS (h := ?_) | refine o_store (h := ?_) | refine o_alloc (h := ?_) | refine o_ix (h := ?_) | refine o_convS (h := ?_) | refine o_conv (h := ?_) | refine o_fconv (h := ?_) | refine o_fofInt (h := ?_) | refine o_build (h := ?_) ) | (refine d_AW (h := ?_) ; first | refine AW.seq (h := ?_) | refine AW.region (h := ?_) | (refine AW.cond (ht := (fun hc => ?_)) (hf := (fun hc => ?_)) <;> (try (with_reducible first | exact absurd hc Bool.false_ne_true | exact absurd hc.symm Bool.false_ne_true)) <;> (try simp only [decide_eq_true_eq, decide_eq_false_iff_not, Int.ofNat_inj, Bool.not_eq_true', Bool.not_eq_false', Int.not_lt, Int.not_le] at hc) <;> (try (exfalso; omega)) <;> (try (exact absurd hc (by decide)))) | refine AW.block (h := ?_) | refine AW.ret (h := ?_) | refine AW.skip (h := ?_) | refine AW.exit (h := ?_) ) | (first | refine t_normal ?_ | refine t_ret ?_ | refine t_exit ?_ | refine b_normal ?_ | refine b_exit ?_ | refine b_exit' (by decide) ?_ | refine b_ret ?_) | (refine d_post (h := ?_) ; first | refine p_ret1 rfl (h := ?_) | refine p_end1 rfl (h := ?_) | refine p_cell1 rfl (h := ?_) ))
    all_goals try (exfalso; simp at hc; done)
    refine AW.loopN [2, 3, 4, 5] (fun k st => ∃ (i : Nat), i + k = 16 ∧ st = ⟨63, [(2, .pointer (some ⟨M.length, 0, none⟩)), (3, .pointer (some ⟨M.length + 1, 0, none⟩)), (4, .float .f32 (sh32 (pkV n cd s4 33))), (5, .int .i64 (i : Int))], M.set j (srcB a n cp (pkS n cd s4 33)) ++ [rdB (fun _ => 0) 0 0 0, rdB (fun q => if q < i then sh32 (pkV n cd s4 33) else 0) (pbw (pkV n cd s 16)) (pbw (pkV n cd s1 16)) (lnw (pkV n cd s2 12))]⟩) 16 ⟨0, by omega, rfl⟩ ?_
    rintro k st ⟨i, hi, rfl⟩
    by_cases hin : i < 16
    · repeat' (first | (refine d_AOs (h := ?_) ; first | refine o_move (h := ?_) | refine o_assign (h := ?_) | refine AOs.nil (h := ?_) | (refine d_bin (h := ?_) ; first | refine o_eqNil (h := ?_) | refine o_addS (h := ?_) | refine o_add (h := ?_) | refine o_lss (h := ?_) | refine o_eqi (h := ?_) | refine o_eqB (h := ?_) | refine o_geq (h := ?_) | refine o_quo (h := ?_) | refine o_feq (h := ?_) | refine o_flt (h := ?_) | refine o_fge (h := ?_) | refine o_fadd (h := ?_) | refine o_fdiv (h := ?_) )  | refine o_load (h := ?_) | refine o_at (h := ?_) | refine o_field (h := ?_) | refine o_ixS (h := ?_) | refine o_store (h := ?_) | refine o_alloc (h := ?_) | refine o_ix (h := ?_) | refine o_convS (h := ?_) | refine o_conv (h := ?_) | refine o_fconv (h := ?_) | refine o_fofInt (h := ?_) | refine o_build (h := ?_) ) | (refine d_AW (h := ?_) ; first | refine AW.seq (h := ?_) | refine AW.region (h := ?_) | (refine AW.cond (ht := (fun hc => ?_)) (hf := (fun hc => ?_)) <;> (try (with_reducible first | exact absurd hc Bool.false_ne_true | exact absurd hc.symm Bool.false_ne_true)) <;> (try simp only [decide_eq_true_eq, decide_eq_false_iff_not, Int.ofNat_inj, Bool.not_eq_true', Bool.not_eq_false', Int.not_lt, Int.not_le] at hc) <;> (try (exfalso; omega)) <;> (try (exact absurd hc (by decide)))) | refine AW.block (h := ?_) | refine AW.ret (h := ?_) | refine AW.skip (h := ?_) | refine AW.exit (h := ?_) ) | (first | refine t_normal ?_ | refine t_ret ?_ | refine t_exit ?_ | refine b_normal ?_ | refine b_exit ?_ | refine b_exit' (by decide) ?_ | refine b_ret ?_) | (refine d_post (h := ?_) ; first | refine p_ret1 rfl (h := ?_) | refine p_end1 rfl (h := ?_) | refine p_cell1 rfl (h := ?_) ))
      all_goals refine ⟨k - 1, by omega, i + 1, by omega, ?_⟩
      all_goals (rw [rdB_step (fun _ => sh32 (pkV n cd s4 33)) (fun _ => 0)]; rfl)
    · obtain rfl : i = 16 := by omega
      rw [rdB_all (fun _ => sh32 (pkV n cd s4 33)) (fun _ => 0)]
      repeat' (first | (refine d_AOs (h := ?_) ; first | refine o_move (h := ?_) | refine o_assign (h := ?_) | refine AOs.nil (h := ?_) | (refine d_bin (h := ?_) ; first | refine o_eqNil (h := ?_) | refine o_addS (h := ?_) | refine o_add (h := ?_) | refine o_lss (h := ?_) | refine o_eqi (h := ?_) | refine o_eqB (h := ?_) | refine o_geq (h := ?_) | refine o_quo (h := ?_) | refine o_feq (h := ?_) | refine o_flt (h := ?_) | refine o_fge (h := ?_) | refine o_fadd (h := ?_) | refine o_fdiv (h := ?_) )  | refine o_load (h := ?_) | refine o_at (h := ?_) | refine o_field (h := ?_) | refine o_ixS (h := ?_) | refine o_store (h := ?_) | refine o_alloc (h := ?_) | refine o_ix (h := ?_) | refine o_convS (h := ?_) | refine o_conv (h := ?_) | refine o_fconv (h := ?_) | refine o_fofInt (h := ?_) | refine o_build (h := ?_) ) | (refine d_AW (h := ?_) ; first | refine AW.seq (h := ?_) | refine AW.region (h := ?_) | (refine AW.cond (ht := (fun hc => ?_)) (hf := (fun hc => ?_)) <;> (try (with_reducible first | exact absurd hc Bool.false_ne_true | exact absurd hc.symm Bool.false_ne_true)) <;> (try simp only [decide_eq_true_eq, decide_eq_false_iff_not, Int.ofNat_inj, Bool.not_eq_true', Bool.not_eq_false', Int.not_lt, Int.not_le] at hc) <;> (try (exfalso; omega)) <;> (try (exact absurd hc (by decide)))) | refine AW.block (h := ?_) | refine AW.ret (h := ?_) | refine AW.skip (h := ?_) | refine AW.exit (h := ?_) ) | (first | refine t_normal ?_ | refine t_ret ?_ | refine t_exit ?_ | refine b_normal ?_ | refine b_exit ?_ | refine b_exit' (by decide) ?_ | refine b_ret ?_) | (refine d_post (h := ?_) ; first | refine p_ret1 rfl (h := ?_) | refine p_end1 rfl (h := ?_) | refine p_cell1 rfl (h := ?_) ))
      all_goals rfl
  · by_cases h1 : k4 = 1
    · subst h1
      have pa := fun M' h1 h2 => spick a n cp cd hcd hn s4 16 (by omega) j M' (by omega) h1 h2
      have ba := pkV_bd (n := n) (cd := cd) s4 (m := 16) (by omega)
      have ec : dwCar n cd s4 1 = fun q : Nat => if pkV n cd s4 16 ≤ (q : Int) then 1065353216 else 0 := funext fun q : Nat => by unfold dwCar; rw [if_neg (by decide), if_pos rfl]
      have ee : dwEnd n cd s4 1 = pkS n cd s4 16 := by unfold dwEnd; rw [if_neg (by decide), if_pos rfl]
      rw [ec, ee]
      generalize pkV n cd s4 16 = at_ at *
      repeat' (first | (refine d_AOs (h := ?_) ; first | refine o_move (h := ?_) | refine o_assign (h := ?_) | refine AOs.nil (h := ?_) | (refine d_bin (h := ?_) ; first | refine o_eqNil (h := ?_) | refine o_addS (h := ?_) | refine o_add (h := ?_) | refine o_lss (h := ?_) | refine o_eqi (h := ?_) | refine o_eqB (h := ?_) | refine o_geq (h := ?_) | refine o_quo (h := ?_) | refine o_feq (h := ?_) | refine o_flt (h := ?_) | refine o_fge (h := ?_) | refine o_fadd (h := ?_) | refine o_fdiv (h := ?_) )  | refine o_callM (hc := (p1 _ (mem_head hb) (by first | exact hS | exact hS.append))) (h := ?_) | refine o_build (cs := rdC (fun _ => 0) (pbw (pkV n cd s 16)) (pbw (pkV n cd s1 16)) (lnw (pkV n cd s2 12))) (hf := by rfl) (h := ?_) | refine o_callM (hc := (p2 _ (mem_set1 hjl) (hSi _ _))) (h := ?_) | refine o_callM (hc := (p3 _ (mem_set1 hjl) (hSi _ _))) (h := ?_) | refine o_callM (hc := (p4 _ (mem_set1 hjl) (hSi _ _))) (h := ?_) | refine o_callM (hc := (pa _ (mem_set1 hjl) (hSi _ _))) (h := ?_) | refine o_load (h := ?_) | refine o_at (h := ?_) | refine o_field (h := ?_) | refine o_ixS (h := ?_) | refine o_store (h := ?_) | refine o_alloc (h := ?_) | refine o_ix (h := ?_) | refine o_convS (h := ?_) | refine o_conv (h := ?_) | refine o_fconv (h := ?_) | refine o_fofInt (h := ?_) | refine o_build (h := ?_) ) | (refine d_AW (h := ?_) ; first | refine AW.seq (h := ?_) | refine AW.region (h := ?_) | (refine AW.cond (ht := (fun hc => ?_)) (hf := (fun hc => ?_)) <;> (try (with_reducible first | exact absurd hc Bool.false_ne_true | exact absurd hc.symm Bool.false_ne_true)) <;> (try simp only [decide_eq_true_eq, decide_eq_false_iff_not, Int.ofNat_inj, Bool.not_eq_true', Bool.not_eq_false', Int.not_lt, Int.not_le] at hc) <;> (try (exfalso; omega)) <;> (try (exact absurd hc (by decide)))) | refine AW.block (h := ?_) | refine AW.ret (h := ?_) | refine AW.skip (h := ?_) | refine AW.exit (h := ?_) ) | (first | refine t_normal ?_ | refine t_ret ?_ | refine t_exit ?_ | refine b_normal ?_ | refine b_exit ?_ | refine b_exit' (by decide) ?_ | refine b_ret ?_) | (refine d_post (h := ?_) ; first | refine p_ret1 rfl (h := ?_) | refine p_end1 rfl (h := ?_) | refine p_cell1 rfl (h := ?_) ))
      all_goals try (exfalso; simp at hc; done)
      refine AW.loopN [2, 3, 6, 7] (fun k st => ∃ (i : Nat), i + k = 16 ∧ st = ⟨63, [(2, .pointer (some ⟨M.length, 0, none⟩)), (3, .pointer (some ⟨M.length + 1, 0, none⟩)), (6, .int .i64 at_), (7, .int .i64 (i : Int))], M.set j (srcB a n cp (pkS n cd s4 16)) ++ [rdB (fun _ => 0) 0 0 0, rdB (fun q => if q < i then (if at_ ≤ (q : Int) then 1065353216 else 0) else 0) (pbw (pkV n cd s 16)) (pbw (pkV n cd s1 16)) (lnw (pkV n cd s2 12))]⟩) 16 ⟨0, by omega, rfl⟩ ?_
      rintro k st ⟨i, hi, rfl⟩
      by_cases hin : i < 16
      · have ev : at_ ≤ (i : Int) → 1065353216 = (fun q : Nat => if at_ ≤ (q : Int) then 1065353216 else 0) i := fun h => (if_pos h).symm
        have eo : ¬ at_ ≤ (i : Int) → ∀ p b l, rdB (fun q => if q < i + 1 then (if at_ ≤ (q : Int) then 1065353216 else 0) else 0) p b l = rdB (fun q => if q < i then (if at_ ≤ (q : Int) then 1065353216 else 0) else 0) p b l := fun h p b l => rdB_congr fun q _ => by
          by_cases e : q = i
          · subst e; rw [if_pos (Nat.lt_succ_self _), if_neg h, if_neg (Nat.lt_irrefl _)]
          · by_cases h2 : q < i
            · rw [if_pos h2, if_pos (by omega)]
            · rw [if_neg h2, if_neg (by omega)]
        repeat' (first | (refine d_AOs (h := ?_) ; first | refine o_move (h := ?_) | refine o_assign (h := ?_) | refine AOs.nil (h := ?_) | (refine d_bin (h := ?_) ; first | refine o_eqNil (h := ?_) | refine o_addS (h := ?_) | refine o_add (h := ?_) | refine o_lss (h := ?_) | refine o_eqi (h := ?_) | refine o_eqB (h := ?_) | refine o_geq (h := ?_) | refine o_quo (h := ?_) | refine o_feq (h := ?_) | refine o_flt (h := ?_) | refine o_fge (h := ?_) | refine o_fadd (h := ?_) | refine o_fdiv (h := ?_) )  | refine o_load (h := ?_) | refine o_at (h := ?_) | refine o_field (h := ?_) | refine o_ixS (h := ?_) | refine o_store (h := ?_) | refine o_alloc (h := ?_) | refine o_ix (h := ?_) | refine o_convS (h := ?_) | refine o_conv (h := ?_) | refine o_fconv (h := ?_) | refine o_fofInt (h := ?_) | refine o_build (h := ?_) ) | (refine d_AW (h := ?_) ; first | refine AW.seq (h := ?_) | refine AW.region (h := ?_) | (refine AW.cond (ht := (fun hc => ?_)) (hf := (fun hc => ?_)) <;> (try (with_reducible first | exact absurd hc Bool.false_ne_true | exact absurd hc.symm Bool.false_ne_true)) <;> (try simp only [decide_eq_true_eq, decide_eq_false_iff_not, Int.ofNat_inj, Bool.not_eq_true', Bool.not_eq_false', Int.not_lt, Int.not_le] at hc) <;> (try (exfalso; omega)) <;> (try (exact absurd hc (by decide)))) | refine AW.block (h := ?_) | refine AW.ret (h := ?_) | refine AW.skip (h := ?_) | refine AW.exit (h := ?_) ) | (first | refine t_normal ?_ | refine t_ret ?_ | refine t_exit ?_ | refine b_normal ?_ | refine b_exit ?_ | refine b_exit' (by decide) ?_ | refine b_ret ?_) | (refine d_post (h := ?_) ; first | refine p_ret1 rfl (h := ?_) | refine p_end1 rfl (h := ?_) | refine p_cell1 rfl (h := ?_) ))
        · refine ⟨k - 1, by omega, i + 1, by omega, ?_⟩
          rw [rdB_stepV (fun q : Nat => if at_ ≤ (q : Int) then 1065353216 else 0) (fun _ => 0) i _ _ _ 1065353216 (if_pos hc)]; rfl
        · refine ⟨k - 1, by omega, i + 1, by omega, ?_⟩
          rw [eo (by omega)]; rfl
      · obtain rfl : i = 16 := by omega
        rw [rdB_all (fun q : Nat => if at_ ≤ (q : Int) then 1065353216 else 0) (fun _ => 0)]
        repeat' (first | (refine d_AOs (h := ?_) ; first | refine o_move (h := ?_) | refine o_assign (h := ?_) | refine AOs.nil (h := ?_) | (refine d_bin (h := ?_) ; first | refine o_eqNil (h := ?_) | refine o_addS (h := ?_) | refine o_add (h := ?_) | refine o_lss (h := ?_) | refine o_eqi (h := ?_) | refine o_eqB (h := ?_) | refine o_geq (h := ?_) | refine o_quo (h := ?_) | refine o_feq (h := ?_) | refine o_flt (h := ?_) | refine o_fge (h := ?_) | refine o_fadd (h := ?_) | refine o_fdiv (h := ?_) )  | refine o_load (h := ?_) | refine o_at (h := ?_) | refine o_field (h := ?_) | refine o_ixS (h := ?_) | refine o_store (h := ?_) | refine o_alloc (h := ?_) | refine o_ix (h := ?_) | refine o_convS (h := ?_) | refine o_conv (h := ?_) | refine o_fconv (h := ?_) | refine o_fofInt (h := ?_) | refine o_build (h := ?_) ) | (refine d_AW (h := ?_) ; first | refine AW.seq (h := ?_) | refine AW.region (h := ?_) | (refine AW.cond (ht := (fun hc => ?_)) (hf := (fun hc => ?_)) <;> (try (with_reducible first | exact absurd hc Bool.false_ne_true | exact absurd hc.symm Bool.false_ne_true)) <;> (try simp only [decide_eq_true_eq, decide_eq_false_iff_not, Int.ofNat_inj, Bool.not_eq_true', Bool.not_eq_false', Int.not_lt, Int.not_le] at hc) <;> (try (exfalso; omega)) <;> (try (exact absurd hc (by decide)))) | refine AW.block (h := ?_) | refine AW.ret (h := ?_) | refine AW.skip (h := ?_) | refine AW.exit (h := ?_) ) | (first | refine t_normal ?_ | refine t_ret ?_ | refine t_exit ?_ | refine b_normal ?_ | refine b_exit ?_ | refine b_exit' (by decide) ?_ | refine b_ret ?_) | (refine d_post (h := ?_) ; first | refine p_ret1 rfl (h := ?_) | refine p_end1 rfl (h := ?_) | refine p_cell1 rfl (h := ?_) ))
        all_goals rfl
    · have ec : dwCar n cd s4 k4 = fun q => sh32 (pkV n cd (plS n cd s4 q) 33) := funext fun q => by unfold dwCar; rw [if_neg h0, if_neg h1]
      have ee : dwEnd n cd s4 k4 = plS n cd s4 16 := by unfold dwEnd; rw [if_neg h0, if_neg h1]
      rw [ec, ee]
      repeat' (first | (refine d_AOs (h := ?_) ; first | refine o_move (h := ?_) | refine o_assign (h := ?_) | refine AOs.nil (h := ?_) | (refine d_bin (h := ?_) ; first | refine o_eqNil (h := ?_) | refine o_addS (h := ?_) | refine o_add (h := ?_) | refine o_lss (h := ?_) | refine o_eqi (h := ?_) | refine o_eqB (h := ?_) | refine o_geq (h := ?_) | refine o_quo (h := ?_) | refine o_feq (h := ?_) | refine o_flt (h := ?_) | refine o_fge (h := ?_) | refine o_fadd (h := ?_) | refine o_fdiv (h := ?_) )  | refine o_callM (hc := (p1 _ (mem_head hb) (by first | exact hS | exact hS.append))) (h := ?_) | refine o_build (cs := rdC (fun _ => 0) (pbw (pkV n cd s 16)) (pbw (pkV n cd s1 16)) (lnw (pkV n cd s2 12))) (hf := by rfl) (h := ?_) | refine o_callM (hc := (p2 _ (mem_set1 hjl) (hSi _ _))) (h := ?_) | refine o_callM (hc := (p3 _ (mem_set1 hjl) (hSi _ _))) (h := ?_) | refine o_callM (hc := (p4 _ (mem_set1 hjl) (hSi _ _))) (h := ?_) | refine o_load (h := ?_) | refine o_at (h := ?_) | refine o_field (h := ?_) | refine o_ixS (h := ?_) | refine o_store (h := ?_) | refine o_alloc (h := ?_) | refine o_ix (h := ?_) | refine o_convS (h := ?_) | refine o_conv (h := ?_) | refine o_fconv (h := ?_) | refine o_fofInt (h := ?_) | refine o_build (h := ?_) ) | (refine d_AW (h := ?_) ; first | refine AW.seq (h := ?_) | refine AW.region (h := ?_) | (refine AW.cond (ht := (fun hc => ?_)) (hf := (fun hc => ?_)) <;> (try (with_reducible first | exact absurd hc Bool.false_ne_true | exact absurd hc.symm Bool.false_ne_true)) <;> (try simp only [decide_eq_true_eq, decide_eq_false_iff_not, Int.ofNat_inj, Bool.not_eq_true', Bool.not_eq_false', Int.not_lt, Int.not_le] at hc) <;> (try (exfalso; omega)) <;> (try (exact absurd hc (by decide)))) | refine AW.block (h := ?_) | refine AW.ret (h := ?_) | refine AW.skip (h := ?_) | refine AW.exit (h := ?_) ) | (first | refine t_normal ?_ | refine t_ret ?_ | refine t_exit ?_ | refine b_normal ?_ | refine b_exit ?_ | refine b_exit' (by decide) ?_ | refine b_ret ?_) | (refine d_post (h := ?_) ; first | refine p_ret1 rfl (h := ?_) | refine p_end1 rfl (h := ?_) | refine p_cell1 rfl (h := ?_) ))
      all_goals try (exfalso; simp at hc; omega)
      refine AW.loopN [0, 2, 3, 8] (fun k st => ∃ (i : Nat), i + k = 16 ∧ st = ⟨63, [(0, .pointer (some ⟨j, 0, none⟩)), (2, .pointer (some ⟨M.length, 0, none⟩)), (3, .pointer (some ⟨M.length + 1, 0, none⟩)), (8, .int .i64 (i : Int))], M.set j (srcB a n cp (plS n cd s4 i)) ++ [rdB (fun _ => 0) 0 0 0, rdB (fun q => if q < i then sh32 (pkV n cd (plS n cd s4 q) 33) else 0) (pbw (pkV n cd s 16)) (pbw (pkV n cd s1 16)) (lnw (pkV n cd s2 12))]⟩) 16 ⟨0, by omega, rfl⟩ ?_
      rintro k st ⟨i, hi, rfl⟩
      have hat5 := plS_at n cd s4 i
      by_cases hin : i < 16
      · have pa := fun M' h1 h2 => splain a n cp cd hcd hn (plS n cd s4 i) j M' (by omega) h1 h2
        repeat' (first | (refine d_AOs (h := ?_) ; first | refine o_move (h := ?_) | refine o_assign (h := ?_) | refine AOs.nil (h := ?_) | (refine d_bin (h := ?_) ; first | refine o_eqNil (h := ?_) | refine o_addS (h := ?_) | refine o_add (h := ?_) | refine o_lss (h := ?_) | refine o_eqi (h := ?_) | refine o_eqB (h := ?_) | refine o_geq (h := ?_) | refine o_quo (h := ?_) | refine o_feq (h := ?_) | refine o_flt (h := ?_) | refine o_fge (h := ?_) | refine o_fadd (h := ?_) | refine o_fdiv (h := ?_) )  | refine o_callM (hc := (pa _ (mem_set1 hjl) (hSi _ _))) (h := ?_) | refine o_load (h := ?_) | refine o_at (h := ?_) | refine o_field (h := ?_) | refine o_ixS (h := ?_) | refine o_store (h := ?_) | refine o_alloc (h := ?_) | refine o_ix (h := ?_) | refine o_convS (h := ?_) | refine o_conv (h := ?_) | refine o_fconv (h := ?_) | refine o_fofInt (h := ?_) | refine o_build (h := ?_) ) | (refine d_AW (h := ?_) ; first | refine AW.seq (h := ?_) | refine AW.region (h := ?_) | (refine AW.cond (ht := (fun hc => ?_)) (hf := (fun hc => ?_)) <;> (try (with_reducible first | exact absurd hc Bool.false_ne_true | exact absurd hc.symm Bool.false_ne_true)) <;> (try simp only [decide_eq_true_eq, decide_eq_false_iff_not, Int.ofNat_inj, Bool.not_eq_true', Bool.not_eq_false', Int.not_lt, Int.not_le] at hc) <;> (try (exfalso; omega)) <;> (try (exact absurd hc (by decide)))) | refine AW.block (h := ?_) | refine AW.ret (h := ?_) | refine AW.skip (h := ?_) | refine AW.exit (h := ?_) ) | (first | refine t_normal ?_ | refine t_ret ?_ | refine t_exit ?_ | refine b_normal ?_ | refine b_exit ?_ | refine b_exit' (by decide) ?_ | refine b_ret ?_) | (refine d_post (h := ?_) ; first | refine p_ret1 rfl (h := ?_) | refine p_end1 rfl (h := ?_) | refine p_cell1 rfl (h := ?_) ))
        all_goals refine ⟨k - 1, by omega, i + 1, by omega, ?_⟩
        all_goals (rw [rdB_step (fun q => sh32 (pkV n cd (plS n cd s4 q) 33)) (fun _ => 0)]; rfl)
      · obtain rfl : i = 16 := by omega
        rw [rdB_all (fun q => sh32 (pkV n cd (plS n cd s4 q) 33)) (fun _ => 0)]
        repeat' (first | (refine d_AOs (h := ?_) ; first | refine o_move (h := ?_) | refine o_assign (h := ?_) | refine AOs.nil (h := ?_) | (refine d_bin (h := ?_) ; first | refine o_eqNil (h := ?_) | refine o_addS (h := ?_) | refine o_add (h := ?_) | refine o_lss (h := ?_) | refine o_eqi (h := ?_) | refine o_eqB (h := ?_) | refine o_geq (h := ?_) | refine o_quo (h := ?_) | refine o_feq (h := ?_) | refine o_flt (h := ?_) | refine o_fge (h := ?_) | refine o_fadd (h := ?_) | refine o_fdiv (h := ?_) )  | refine o_load (h := ?_) | refine o_at (h := ?_) | refine o_field (h := ?_) | refine o_ixS (h := ?_) | refine o_store (h := ?_) | refine o_alloc (h := ?_) | refine o_ix (h := ?_) | refine o_convS (h := ?_) | refine o_conv (h := ?_) | refine o_fconv (h := ?_) | refine o_fofInt (h := ?_) | refine o_build (h := ?_) ) | (refine d_AW (h := ?_) ; first | refine AW.seq (h := ?_) | refine AW.region (h := ?_) | (refine AW.cond (ht := (fun hc => ?_)) (hf := (fun hc => ?_)) <;> (try (with_reducible first | exact absurd hc Bool.false_ne_true | exact absurd hc.symm Bool.false_ne_true)) <;> (try simp only [decide_eq_true_eq, decide_eq_false_iff_not, Int.ofNat_inj, Bool.not_eq_true', Bool.not_eq_false', Int.not_lt, Int.not_le] at hc) <;> (try (exfalso; omega)) <;> (try (exact absurd hc (by decide)))) | refine AW.block (h := ?_) | refine AW.ret (h := ?_) | refine AW.skip (h := ?_) | refine AW.exit (h := ?_) ) | (first | refine t_normal ?_ | refine t_ret ?_ | refine t_exit ?_ | refine b_normal ?_ | refine b_exit ?_ | refine b_exit' (by decide) ?_ | refine b_ret ?_) | (refine d_post (h := ?_) ; first | refine p_ret1 rfl (h := ?_) | refine p_end1 rfl (h := ?_) | refine p_cell1 rfl (h := ?_) ))
        all_goals rfl
theorem sA2Road (hcd : ∀ q, 0 ≤ cd q ∧ cd q ≤ 255) (hn : n ≤ 1048576) (M : Mem) (hS : SlAt M a n (tab n fun q => .int .u8 (cd q))) :
    Pure Tryz.prog 26 [.slice a n cp] M (rdV (dwC n cd (0, 0)) (dwP n cd (0, 0)) (dwB n cd (0, 0)) (dwL n cd (0, 0))) := by
  refine pure_of Tryz.func26 Tryz.ntmps26 rfl rfl (by repeat' (first | exact Flat.bool _ | exact Flat.int _ _ | exact Flat.float _ _ | exact Flat.string _ | exact flat_nil | exact flat_tabL (fun _ => Flat.bool _) | exact flat_tabL (fun _ => Flat.int _ _) | exact flat_tabL (fun _ => Flat.float _ _) | refine flat_tuple ?_ | refine flat_agg ?_ | refine flat_cons ?_ ?_ | refine flat_append ?_ ?_)) ?_
  have hp := fun j M' h1 h2 => sdrawnR a n cp cd hcd hn (0, 0) j M' (by simp) h1 h2
  simp only [envOf, Nat.zero_add, Nat.reduceAdd]
  repeat' (first | (refine d_AOs (h := ?_) ; first | refine o_move (h := ?_) | refine o_assign (h := ?_) | refine AOs.nil (h := ?_)  | refine o_callA (hc := (sfrom a n cp _)) (h := ?_) | refine o_callM (hc := (hp _ _ (by first | (simp only [mem_tail, mem_tail0, List.getElem?_cons_zero, List.getElem?_cons_succ]; first | done | rfl) | exact mem_head (by assumption) | assumption | (simp only [mem_tailS, mem_tailS0, List.getElem?_cons_zero, List.getElem?_cons_succ]; first | done | rfl) | exact mem_set1 (by assumption) | exact mem_set0 (by assumption) | exact mem_setN1 (by assumption) (by assumption) | exact mem_setN (by assumption) (by assumption)) (by first | exact hS | exact hS.append))) (h := ?_) | refine o_at (h := ?_) | refine o_store (h := ?_) | refine o_alloc (h := ?_) ) | (refine d_AW (h := ?_) ; first | refine AW.seq (h := ?_) | refine AW.region (h := ?_) | (refine AW.cond (ht := (fun hc => ?_)) (hf := (fun hc => ?_)) <;> (try (with_reducible first | exact absurd hc Bool.false_ne_true | exact absurd hc.symm Bool.false_ne_true)) <;> (try simp only [decide_eq_true_eq, decide_eq_false_iff_not, Int.ofNat_inj, Bool.not_eq_true', Bool.not_eq_false', Int.not_lt, Int.not_le] at hc) <;> (try (exfalso; omega)) <;> (try (exact absurd hc (by decide)))) | refine AW.block (h := ?_) | refine AW.ret (h := ?_) | refine AW.skip (h := ?_) | refine AW.exit (h := ?_) ) | (first | refine t_normal ?_ | refine t_ret ?_ | refine t_exit ?_ | refine b_normal ?_ | refine b_exit ?_ | refine b_exit' (by decide) ?_ | refine b_ret ?_) | (refine d_post (h := ?_) ; first | refine p_ret1 rfl (h := ?_) | refine p_end1 rfl (h := ?_) | refine p_cell1 rfl (h := ?_) ))
  all_goals rfl
end
end Go.Proofs.YtgdpcomemkimhaaGreatDoor
