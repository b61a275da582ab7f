/- Roads and shares that are drawn. -/
import Derived.Test.YtgdpcomemkimhaaGreatDoorDr2
import Derived.Test.YtgdpcomemkimhaaGreatDoorFr
import Derived.Test.YtgdpcomemkimhaaGreatDoorFloat

namespace Go.Proofs.YtgdpcomemkimhaaGreatDoor
open Go.RowKit
attribute [local irreducible] AW AOs AO AQ AQW thenA inBlockA postA ACalls Pure
set_option linter.unusedSimpArgs false
set_option linter.unusedVariables false
set_option linter.unusedSectionVars false

def sh32 (x : Int) : Nat := fdiv .f32 (fofInt .f32 x) 1107296256
def pbw (k : Int) : Nat := fdiv .f32 (fofInt .f32 (1 + k)) 1098907648
def lnw (k : Int) : Nat := fdiv .f32 (fofInt .f32 (1 + k)) 1082130432
theorem sh32_33 : ∀ x : Fin 33, fin32 (sh32 x.val) = true ∧ sh32 x.val < 2147483648 ∧ fv (sh32 x.val) = (x.val : Int) * 2 ^ 144 := by decide +kernel
theorem sh32_fv {x : Int} (h : 0 ≤ x ∧ x ≤ 32) : nn (sh32 x) ∧ fv (sh32 x) = x * 2 ^ 144 := by
  obtain ⟨h1, h2, h3⟩ := sh32_33 ⟨x.toNat, by omega⟩
  have e : ((x.toNat : Nat) : Int) = x := Int.toNat_of_nonneg h.1
  simp only [e] at h1 h2 h3
  exact ⟨⟨h1, h2⟩, h3⟩
theorem pbw_16 : ∀ x : Fin 16, fin32 (pbw x.val) = true ∧ pbw x.val < 2147483648 ∧ fv (pbw x.val) = (1 + (x.val : Int)) * 2 ^ 145 := by decide +kernel
theorem pbw_fv {k : Int} (h : 0 ≤ k ∧ k < 16) : nn (pbw k) ∧ fv (pbw k) = (1 + k) * 2 ^ 145 := by
  obtain ⟨h1, h2, h3⟩ := pbw_16 ⟨k.toNat, by omega⟩
  have e : ((k.toNat : Nat) : Int) = k := Int.toNat_of_nonneg h.1
  simp only [e] at h1 h2 h3
  exact ⟨⟨h1, h2⟩, h3⟩
theorem lnw_12 : ∀ x : Fin 12, fin32 (lnw x.val) = true ∧ lnw x.val < 2147483648 ∧ fv (lnw x.val) = (1 + (x.val : Int)) * 2 ^ 147 := by decide +kernel
theorem lnw_fv {k : Int} (h : 0 ≤ k ∧ k < 12) : nn (lnw k) ∧ fv (lnw k) = (1 + k) * 2 ^ 147 := by
  obtain ⟨h1, h2, h3⟩ := lnw_12 ⟨k.toNat, by omega⟩
  have e : ((k.toNat : Nat) : Int) = k := Int.toNat_of_nonneg h.1
  simp only [e] at h1 h2 h3
  exact ⟨⟨h1, h2⟩, h3⟩
/-- A road that can be drawn. -/
structure RdDr (c : Nat → Nat) (p b l : Nat) : Prop where
  cars : ∀ q, q < 16 → ∃ x : Int, (0 ≤ x ∧ x ≤ 32) ∧ c q = sh32 x
  pace : ∃ k : Int, (0 ≤ k ∧ k < 16) ∧ p = pbw k
  back : ∃ k : Int, (0 ≤ k ∧ k < 16) ∧ b = pbw k
  lanes : ∃ k : Int, (0 ≤ k ∧ k < 12) ∧ l = lnw k
theorem lp_fin : fin32 1015021568 = true := by decide +kernel
theorem quarter_fin : fin32 1048576000 = true := by decide +kernel
theorem eight_fin : fin32 1090519040 = true := by decide +kernel
theorem RdDr.pb {c : Nat → Nat} {p b l : Nat} (h : RdDr c p b l) : PbOk p b := by
  obtain ⟨k, hk, rfl⟩ := h.pace
  obtain ⟨k', hk', rfl⟩ := h.back
  obtain ⟨h1, h2⟩ := pbw_fv hk
  obtain ⟨h3, h4⟩ := pbw_fv hk'
  have hU := U_val
  exact ⟨h1, h3, by omega, by omega, by omega, by omega⟩
theorem RdDr.car {c : Nat → Nat} {p b l : Nat} (h : RdDr c p b l) {q : Nat} (hq : q < 16) : nn (c q) ∧ fv (c q) ≤ U := by
  obtain ⟨x, hx, e⟩ := h.cars q hq
  obtain ⟨h1, h2⟩ := sh32_fv hx
  have hU := U_val
  rw [e]; exact ⟨h1, by omega⟩
theorem RdDr.ok {c : Nat → Nat} {p b l : Nat} (h : RdDr c p b l) : RdOk c p b l := by
  have hpb := h.pb
  obtain ⟨k, hk, e⟩ := h.lanes
  obtain ⟨h1, h2⟩ := lnw_fv hk
  refine ⟨fun q hq => nn_sh (h.car hq).1 (h.car hq).2, nn_sh hpb.pn hpb.p1, nn_sh hpb.bn hpb.b1, ?_, ?_, by rw [e]; exact nn_am h1, ?_, ?_⟩
  · rw [fge_fv hpb.pn.1 lp_fin, fv_lp]; exact decide_eq_true hpb.p0
  · rw [fge_fv hpb.bn.1 lp_fin, fv_lp]; exact decide_eq_true hpb.b0
  · rw [e, fge_fv h1.1 quarter_fin, fv_quarter]; exact decide_eq_true (by omega)
  · rw [e, fle_fv h1.1 eight_fin, fv_eight]; exact decide_eq_true (by omega)

section
variable (a : Option Addr) (n cp : Nat) (cd : Nat → Int)
def plS (s : DS) : Nat → DS
  | 0 => s
  | i + 1 => pkS n cd (plS s i) 33
theorem plS_at (s : DS) : ∀ i, (plS n cd s i).1 ≤ s.1 + i
  | 0 => Nat.le_refl _
  | i + 1 => by
    have h1 := plS_at s i
    have h2 := pkS_at n cd (plS n cd s i) 33
    show (pkS n cd (plS n cd s i) 33).1 ≤ _
    omega
/-! ### A road -/
end
end Go.Proofs.YtgdpcomemkimhaaGreatDoor

/- The cells of a junction. -/
namespace Go.Proofs.YtgdpcomemkimhaaGreatDoor
open Go.RowKit
attribute [local irreducible] AW AOs AO AQ AQW thenA inBlockA postA ACalls Pure
set_option linter.unusedSimpArgs false
set_option linter.unusedVariables false
set_option linter.unusedSectionVars false

/-- The cells of a junction. -/
def jnJ (ins outs : Int) (h : Nat → Nat) (q : Nat) : Value := if q = 0 then .int .i64 ins else if q = 1 then .int .i64 outs else .float .f32 (h q)
abbrev jnB (ins outs : Int) (h : Nat → Nat) : Blk := ⟨tab 22 (jnJ ins outs h), none, true⟩
abbrev jnV (ins outs : Int) (h : Nat → Nat) : Value := .agg (tab 22 (jnJ ins outs h)).toArray
theorem jn_flat {ins outs : Int} {h : Nat → Nat} : ∀ c ∈ tab 22 (jnJ ins outs h), Flat c := flat_tabs fun i => by
  unfold jnJ
  split
  · exact Flat.int _ _
  · split
    · exact Flat.int _ _
    · exact Flat.float _ _
theorem jn_one {ins outs : Int} {h : Nat → Nat} (i : Nat) : one (jnJ ins outs h i) = true := by
  unfold jnJ
  split
  · rfl
  · split <;> rfl
theorem jn_put {ins outs : Int} {h : Nat → Nat} {x v : Nat} (hx : 2 ≤ x) : (tab 22 fun i => if i = x then Value.float .f32 v else jnJ ins outs h i) = tab 22 (jnJ ins outs fun q => if q = x then v else h q) := by
  congr 1
  funext i
  unfold jnJ
  by_cases e : i = x
  · rw [if_pos e, if_neg (by omega), if_neg (by omega)]
    show _ = Value.float .f32 (if i = x then v else h i)
    rw [if_pos e]
  · rw [if_neg e]
    split
    · rfl
    · split
      · rfl
      · show _ = Value.float .f32 (if i = x then v else h i)
        rw [if_neg e]
end Go.Proofs.YtgdpcomemkimhaaGreatDoor

/- Junctions and amounts that are drawn. -/
namespace Go.Proofs.YtgdpcomemkimhaaGreatDoor
open Go.RowKit
attribute [local irreducible] AW AOs AO AQ AQW thenA inBlockA postA ACalls Pure
set_option linter.unusedSimpArgs false
set_option linter.unusedVariables false
set_option linter.unusedSectionVars false

def shw (w : Int) : Nat := fdiv .f32 (fofInt .f32 w) 1098907648
def prw (w : Int) : Nat := fdiv .f32 (fofInt .f32 (1 + w)) 1082130432
def evIn (outs i : Nat) : Nat → (Nat → Nat) → Nat → Nat
  | 0, h => h
  | k + 1, h => fun q => if q = 2 + i * 4 + k then fdiv .f32 1065353216 (fofInt .f32 (outs : Int)) else evIn outs i k h q
def evOut (outs : Nat) : Nat → Nat → Nat
  | 0 => fun _ => 0
  | i + 1 => fun q => if q = 18 + i then 1065353216 else evIn outs i outs (evOut outs i) q
theorem shw_0 : shw 0 = 0 := by decide +kernel
section
variable (a : Option Addr) (n cp : Nat) (cd : Nat → Int)
def jdIn (outs i : Nat) : Nat → DS × Int × (Nat → Nat) → DS × Int × (Nat → Nat)
  | 0, x => x
  | k + 1, x =>
    (pkS n cd (jdIn outs i k x).1 ((jdIn outs i k x).2.1 + 1), (jdIn outs i k x).2.1 - (if k + 1 = outs then (jdIn outs i k x).2.1 else pkV n cd (jdIn outs i k x).1 ((jdIn outs i k x).2.1 + 1)),
      fun q => if q = 2 + i * 4 + k then shw (if k + 1 = outs then (jdIn outs i k x).2.1 else pkV n cd (jdIn outs i k x).1 ((jdIn outs i k x).2.1 + 1)) else (jdIn outs i k x).2.2 q)
def jdOut (outs : Nat) : Nat → DS × (Nat → Nat) → DS × (Nat → Nat)
  | 0, x => x
  | i + 1, x => (pkS n cd (jdIn n cd outs i outs ((jdOut outs i x).1, 16, (jdOut outs i x).2)).1 8, fun q => if q = 18 + i then prw (pkV n cd (jdIn n cd outs i outs ((jdOut outs i x).1, 16, (jdOut outs i x).2)).1 8) else (jdIn n cd outs i outs ((jdOut outs i x).1, 16, (jdOut outs i x).2)).2.2 q)
theorem jdIn_bd {outs i : Nat} {x : DS × Int × (Nat → Nat)} (hx : 0 ≤ x.2.1 ∧ x.2.1 ≤ 16) : ∀ k, (0 ≤ (jdIn n cd outs i k x).2.1 ∧ (jdIn n cd outs i k x).2.1 ≤ 16) ∧ (jdIn n cd outs i k x).1.1 ≤ x.1.1 + k
  | 0 => ⟨hx, Nat.le_refl _⟩
  | k + 1 => by
    obtain ⟨h1, h2⟩ := jdIn_bd (outs := outs) (i := i) hx k
    have h3 := pkV_bd (n := n) (cd := cd) (jdIn n cd outs i k x).1 (m := (jdIn n cd outs i k x).2.1 + 1) (by omega)
    have h4 := pkS_at n cd (jdIn n cd outs i k x).1 ((jdIn n cd outs i k x).2.1 + 1)
    unfold jdIn
    refine ⟨?_, by show (pkS _ _ _ _).1 ≤ _; omega⟩
    show 0 ≤ (_ : Int) - (if k + 1 = outs then _ else _) ∧ (_ : Int) - (if k + 1 = outs then _ else _) ≤ 16
    split <;> omega
theorem jdOut_at {outs : Nat} {x : DS × (Nat → Nat)} : ∀ i, (jdOut n cd outs i x).1.1 ≤ x.1.1 + i * (outs + 1)
  | 0 => by show x.1.1 ≤ _; omega
  | i + 1 => by
    have h1 := jdOut_at (outs := outs) (x := x) i
    have h2 := (jdIn_bd n cd (outs := outs) (i := i) (x := ((jdOut n cd outs i x).1, 16, (jdOut n cd outs i x).2)) ⟨by show (0 : Int) ≤ 16; omega, by show (16 : Int) ≤ 16; omega⟩ outs).2
    have h3 := pkS_at n cd (jdIn n cd outs i outs ((jdOut n cd outs i x).1, 16, (jdOut n cd outs i x).2)).1 8
    show (pkS _ _ _ _).1 ≤ _
    rw [Nat.add_mul]
    show (pkS _ _ _ _).1 ≤ _
    have h2' : (jdIn n cd outs i outs ((jdOut n cd outs i x).1, 16, (jdOut n cd outs i x).2)).1.1 ≤ (jdOut n cd outs i x).1.1 + outs := h2
    omega
set_option maxHeartbeats 8000000 in
omit a n cp cd in
theorem sl03Even (N1 N2 : Nat) (h1 : N1 ≤ 4) (h2 : N2 ≤ 4) (M : Mem) : Pure Tryz.prog 102 [.int .i64 (N1 : Int), .int .i64 (N2 : Int)] M (jnV (N1 : Int) (N2 : Int) (evOut N2 N1)) := by
  refine pure_of Tryz.func102 Tryz.ntmps102 rfl rfl (flat_agg jn_flat) ?_
  simp only [envOf, Nat.zero_add, Nat.reduceAdd]
  repeat' (first | (refine d_AOs (h := ?_) ; first | refine o_move (h := ?_) | refine o_assign (h := ?_) | refine AOs.nil (h := ?_) | refine o_build (cs := tab 22 (jnJ (N1 : Int) (N2 : Int) fun _ => 0)) (hf := by rfl) (h := ?_) | refine o_store (hw := by exact whole_tab (fun i => jn_one i)) (hcs := by exact st_all (by rfl)) (h := ?_) | refine o_alloc (h := ?_)) | (refine d_AW (h := ?_) ; first | refine AW.seq (h := ?_) | refine AW.region (h := ?_) | refine AW.block (h := ?_)) | (first | refine t_normal ?_))
  refine AW.loopN [0, 1, 4, 5, 6] (fun k st => ∃ i : Nat, i + k = N1 ∧ st = ⟨33, [(0, .int .i64 (N1 : Int)), (1, .int .i64 (N2 : Int)), (4, .pointer (some ⟨M.length, 0, none⟩)), (5, .pointer (some ⟨M.length + 1, 0, none⟩)), (6, .int .i64 (i : Int))], M ++ [jnB 0 0 (fun _ => 0), jnB (N1 : Int) (N2 : Int) (evOut N2 i)]⟩) N1 ⟨0, by omega, rfl⟩ ?_
  rintro k st ⟨i, hi, rfl⟩
  by_cases hin : i < N1
  · repeat' (first | (refine d_AOs (h := ?_) ; first | refine o_move (h := ?_) | refine o_assign (h := ?_) | refine AOs.nil (h := ?_) | (refine d_bin (h := ?_) ; first | refine o_lss (h := ?_))) | (refine d_AW (h := ?_) ; first | refine AW.seq (h := ?_) | refine AW.region (h := ?_) | (refine AW.cond (ht := (fun hc => ?_)) (hf := (fun hc => ?_)) <;> (try (with_reducible first | exact absurd hc Bool.false_ne_true | exact absurd hc.symm Bool.false_ne_true)) <;> (try simp only [decide_eq_true_eq, decide_eq_false_iff_not, Int.ofNat_inj, Bool.not_eq_true', Bool.not_eq_false', Int.not_lt, Int.not_le] at hc) <;> (try (exfalso; omega)) <;> (try (exact absurd hc (by decide)))) | refine AW.block (h := ?_) | refine AW.skip (h := ?_)) | (first | refine t_normal ?_))
    refine AW.loopN [0, 1, 4, 5, 6, 7] (fun k2 st => ∃ q : Nat, q + k2 = N2 ∧ st = ⟨33, [(0, .int .i64 (N1 : Int)), (1, .int .i64 (N2 : Int)), (4, .pointer (some ⟨M.length, 0, none⟩)), (5, .pointer (some ⟨M.length + 1, 0, none⟩)), (6, .int .i64 (i : Int)), (7, .int .i64 (q : Int))], M ++ [jnB 0 0 (fun _ => 0), jnB (N1 : Int) (N2 : Int) (evIn N2 i q (evOut N2 i))]⟩) N2 ⟨0, by omega, rfl⟩ ?_
    rintro k2 st ⟨q, hq, rfl⟩
    by_cases hqn : q < N2
    · have hx : 2 + i * 4 + q < 22 := by omega
      repeat' (first | (refine d_AOs (h := ?_) ; first | refine o_move (h := ?_) | refine o_assign (h := ?_) | refine AOs.nil (h := ?_) | (refine d_bin (h := ?_) ; first | refine o_addS (h := ?_) | refine o_lss (h := ?_) | refine o_fdiv (h := ?_)) | refine o_store (hcs := by exact (st_tab1 (by omega)).trans (jn_put (by omega))) (h := ?_) | refine o_at (h := ?_) | refine o_field (h := ?_) | refine o_fofInt (h := ?_)) | (refine d_AW (h := ?_) ; first | refine AW.seq (h := ?_) | refine AW.region (h := ?_) | (refine AW.cond (ht := (fun hc => ?_)) (hf := (fun hc => ?_)) <;> (try (with_reducible first | exact absurd hc Bool.false_ne_true | exact absurd hc.symm Bool.false_ne_true)) <;> (try simp only [decide_eq_true_eq, decide_eq_false_iff_not, Int.ofNat_inj, Bool.not_eq_true', Bool.not_eq_false', Int.not_lt, Int.not_le] at hc) <;> (try (exfalso; omega)) <;> (try (exact absurd hc (by decide)))) | refine AW.block (h := ?_) | refine AW.skip (h := ?_)) | (first | refine t_normal ?_ | refine b_normal ?_))
      all_goals exact ⟨k2 - 1, by omega, q + 1, by omega, rfl⟩
    · obtain rfl : q = N2 := by omega
      have hx : 18 + i < 22 := by omega
      repeat' (first | (refine d_AOs (h := ?_) ; first | refine o_move (h := ?_) | refine o_assign (h := ?_) | refine AOs.nil (h := ?_) | (refine d_bin (h := ?_) ; first | refine o_addS (h := ?_) | refine o_lss (h := ?_)) | refine o_store (hcs := by exact (st_tab1 (by omega)).trans (jn_put (by omega))) (h := ?_) | refine o_at (h := ?_) | refine o_field (h := ?_)) | (refine d_AW (h := ?_) ; first | refine AW.seq (h := ?_) | refine AW.region (h := ?_) | (refine AW.cond (ht := (fun hc => ?_)) (hf := (fun hc => ?_)) <;> (try (with_reducible first | exact absurd hc Bool.false_ne_true | exact absurd hc.symm Bool.false_ne_true)) <;> (try simp only [decide_eq_true_eq, decide_eq_false_iff_not, Int.ofNat_inj, Bool.not_eq_true', Bool.not_eq_false', Int.not_lt, Int.not_le] at hc) <;> (try (exfalso; omega)) <;> (try (exact absurd hc (by decide)))) | refine AW.exit (h := ?_)) | (first | refine t_normal ?_ | refine t_exit ?_ | refine b_normal ?_ | refine b_exit ?_))
      all_goals exact ⟨k - 1, by omega, i + 1, by omega, rfl⟩
  · obtain rfl : i = N1 := by omega
    repeat' (first | (refine d_AOs (h := ?_) ; first | refine o_move (h := ?_) | refine AOs.nil (h := ?_) | (refine d_bin (h := ?_) ; first | refine o_lss (h := ?_)) | refine o_store (hw := by exact whole_tab (fun i => jn_one i)) (hcs := by exact st_all (by rfl)) (h := ?_) | refine o_load (h := ?_)) | (refine d_AW (h := ?_) ; first | refine AW.seq (h := ?_) | refine AW.region (h := ?_) | (refine AW.cond (ht := (fun hc => ?_)) (hf := (fun hc => ?_)) <;> (try (with_reducible first | exact absurd hc Bool.false_ne_true | exact absurd hc.symm Bool.false_ne_true)) <;> (try simp only [decide_eq_true_eq, decide_eq_false_iff_not, Int.ofNat_inj, Bool.not_eq_true', Bool.not_eq_false', Int.not_lt, Int.not_le] at hc) <;> (try (exfalso; omega)) <;> (try (exact absurd hc (by decide)))) | refine AW.ret (h := ?_) | refine AW.exit (h := ?_)) | (first | refine t_normal ?_ | refine t_exit ?_ | refine b_exit ?_) | (refine d_post (h := ?_) ; first | refine p_cell1 rfl (h := ?_)))
    all_goals rfl
/-- How many ways a drawn junction has, and its numbers. -/
def jdA (n : Nat) (cd : Nat → Int) (s : DS) : Nat := (1 + pkV n cd s 4).toNat
def jdB (n : Nat) (cd : Nat → Int) (s : DS) : Nat := (1 + pkV n cd (pkS n cd s 4) 4).toNat
def jdX (n : Nat) (cd : Nat → Int) (s : DS) : DS × (Nat → Nat) := jdOut n cd (jdB n cd s) (jdA n cd s) (pkS n cd (pkS n cd s 4) 4, evOut (jdB n cd s) (jdA n cd s))
set_option maxRecDepth 20000 in
set_option maxHeartbeats 16000000 in
theorem sl03Drawn (hcd : ∀ q, 0 ≤ cd q ∧ cd q ≤ 255) (hn : n ≤ 1048576) (s : DS) (j : Nat) (M : Mem) (hat : s.1 ≤ 900000) (hb : M[j]? = some (srcB a n cp s)) (hS : SlAt M a n (tab n fun q => .int .u8 (cd q))) :
    Mut Tryz.prog 51 [.pointer (some ⟨j, 0, none⟩)] M (jnV (jdA n cd s : Int) (jdB n cd s : Int) (jdX n cd s).2) (M.set j (srcB a n cp (jdX n cd s).1)) := by
  refine mut_of Tryz.func51 Tryz.ntmps51 rfl rfl (by rw [List.length_set]; exact Nat.le_refl _) (flat_agg jn_flat) (src_closed hb) ?_
  have hjl := (List.getElem?_eq_some_iff.1 hb).1
  have q1 := pkS_at n cd s 4
  have q2 := pkS_at n cd (pkS n cd s 4) 4
  have b1 := pkV_bd (n := n) (cd := cd) s (m := 4) (by omega)
  have b2 := pkV_bd (n := n) (cd := cd) (pkS n cd s 4) (m := 4) (by omega)
  have p1 := fun M' h1 h2 => spick a n cp cd hcd hn s 4 (by omega) j M' (by omega) h1 h2
  have p2 := fun M' h1 h2 => spick a n cp cd hcd hn (pkS n cd s 4) 4 (by omega) j M' (by omega) h1 h2
  have hSi : ∀ s' T, SlAt (M.set j (srcB a n cp s') ++ T) a n (tab n fun q => .int .u8 (cd q)) := fun s' T => (src_same hb hS).append
  obtain ⟨N1, hN1⟩ : ∃ N1, N1 = jdA n cd s := ⟨_, rfl⟩
  obtain ⟨N2, hN2⟩ : ∃ N2, N2 = jdB n cd s := ⟨_, rfl⟩
  have v1 : (1 : Int) + pkV n cd s 4 = (N1 : Int) := by rw [hN1]; unfold jdA; omega
  have v2 : (1 : Int) + pkV n cd (pkS n cd s 4) 4 = (N2 : Int) := by rw [hN2]; unfold jdB; omega
  have c1 : 1 ≤ N1 ∧ N1 ≤ 4 := by omega
  have c2 : 1 ≤ N2 ∧ N2 ≤ 4 := by omega
  have hE : ∀ M', Pure Tryz.prog 102 [.int .i64 (1 + pkV n cd s 4), .int .i64 (1 + pkV n cd (pkS n cd s 4) 4)] M' (jnV (N1 : Int) (N2 : Int) (evOut N2 N1)) := fun M' => by
    rw [v1, v2]; exact sl03Even N1 N2 c1.2 c2.2 M'
  have eX : jdX n cd s = jdOut n cd N2 N1 (pkS n cd (pkS n cd s 4) 4, evOut N2 N1) := by rw [hN1, hN2]; rfl
  rw [eX, ← hN1, ← hN2]
  clear eX hN1 hN2
  obtain ⟨s2, hs2⟩ : ∃ s2, s2 = pkS n cd (pkS n cd s 4) 4 := ⟨_, rfl⟩
  have hat2 : s2.1 ≤ 900002 := by rw [hs2]; omega
  rw [← hs2] at p2 ⊢
  clear hs2 q1 q2
  simp only [envOf, Nat.zero_add, Nat.reduceAdd]
  repeat' (first | (refine d_AOs (h := ?_) ; first | refine o_move (h := ?_) | refine o_assign (h := ?_) | refine AOs.nil (h := ?_) | (refine d_bin (h := ?_) ; first | refine o_addS (h := ?_)) | refine o_callM (hc := (p1 _ (mem_head hb) (by first | exact hS | exact hS.append))) (h := ?_) | refine o_callM (hc := (p2 _ (mem_set1 hjl) (hSi _ _))) (h := ?_) | refine o_call (hc := (hE _)) (h := ?_) | refine o_store (hw := by exact whole_tab (fun i => jn_one i)) (hcs := by exact st_all (by rfl)) (h := ?_) | refine o_alloc (h := ?_)) | (refine d_AW (h := ?_) ; first | refine AW.seq (h := ?_) | refine AW.region (h := ?_) | refine AW.block (h := ?_)) | (first | refine t_normal ?_))
  refine AW.loopN [0, 2, 3, 4] (fun k st => ∃ i : Nat, i + k = N1 ∧ st = ⟨57, [(0, .pointer (some ⟨j, 0, none⟩)), (2, .pointer (some ⟨M.length, 0, none⟩)), (3, .pointer (some ⟨M.length + 1, 0, none⟩)), (4, .int .i64 (i : Int))], M.set j (srcB a n cp (jdOut n cd N2 i (s2, evOut N2 N1)).1) ++ [jnB 0 0 (fun _ => 0), jnB (N1 : Int) (N2 : Int) ((jdOut n cd N2 i (s2, evOut N2 N1)).2)]⟩) N1 ⟨0, by omega, rfl⟩ ?_
  clear p1 p2 hE v1 v2
  rintro k st ⟨i, hi, rfl⟩
  have hao := jdOut_at n cd (outs := N2) (x := (s2, evOut N2 N1)) i
  have hao2 : (jdOut n cd N2 i (s2, evOut N2 N1)).1.1 ≤ 900100 := by
    have : i * (N2 + 1) ≤ 4 * 5 := Nat.mul_le_mul (by omega) (by omega)
    have hao' : (jdOut n cd N2 i (s2, evOut N2 N1)).1.1 ≤ s2.1 + i * (N2 + 1) := hao
    omega
  clear hao
  by_cases hin : i < N1
  · have en : jdOut n cd N2 (i + 1) (s2, evOut N2 N1) = (pkS n cd (jdIn n cd N2 i N2 ((jdOut n cd N2 i (s2, evOut N2 N1)).1, 16, (jdOut n cd N2 i (s2, evOut N2 N1)).2)).1 8, fun q => if q = 18 + i then prw (pkV n cd (jdIn n cd N2 i N2 ((jdOut n cd N2 i (s2, evOut N2 N1)).1, 16, (jdOut n cd N2 i (s2, evOut N2 N1)).2)).1 8) else (jdIn n cd N2 i N2 ((jdOut n cd N2 i (s2, evOut N2 N1)).1, 16, (jdOut n cd N2 i (s2, evOut N2 N1)).2)).2.2 q) := rfl
    obtain ⟨y, hy⟩ : ∃ y : DS × Int × (Nat → Nat), y = ((jdOut n cd N2 i (s2, evOut N2 N1)).1, 16, (jdOut n cd N2 i (s2, evOut N2 N1)).2) := ⟨_, rfl⟩
    have hy1 : y.1.1 ≤ 900100 := by rw [hy]; exact hao2
    have hy2 : 0 ≤ y.2.1 ∧ y.2.1 ≤ 16 := by rw [hy]; show (0 : Int) ≤ 16 ∧ (16 : Int) ≤ 16; omega
    have z1 : (jdOut n cd N2 i (s2, evOut N2 N1)).1 = y.1 := by rw [hy]
    have z2 : (jdOut n cd N2 i (s2, evOut N2 N1)).2 = y.2.2 := by rw [hy]
    have z3 : (16 : Int) = y.2.1 := by rw [hy]
    rw [← hy] at en
    rw [z1, z2]
    clear hy z1 z2
    repeat' (first | (refine d_AOs (h := ?_) ; first | refine o_move (h := ?_) | refine o_assign (h := ?_) | refine AOs.nil (h := ?_) | (refine d_bin (h := ?_) ; first | refine o_lss (h := ?_)) | refine o_load (h := ?_) | refine o_field (h := ?_)) | (refine d_AW (h := ?_) ; first | refine AW.seq (h := ?_) | refine AW.region (h := ?_) | (refine AW.cond (ht := (fun hc => ?_)) (hf := (fun hc => ?_)) <;> (try (with_reducible first | exact absurd hc Bool.false_ne_true | exact absurd hc.symm Bool.false_ne_true)) <;> (try simp only [decide_eq_true_eq, decide_eq_false_iff_not, Int.ofNat_inj, Bool.not_eq_true', Bool.not_eq_false', Int.not_lt, Int.not_le] at hc) <;> (try (exfalso; omega)) <;> (try (exact absurd hc (by decide)))) | refine AW.block (h := ?_) | refine AW.skip (h := ?_)) | (first | refine t_normal ?_))
    refine AW.loopN [0, 2, 3, 4, 5, 6] (fun k2 st => ∃ q : Nat, q + k2 = N2 ∧ st = ⟨57, [(0, .pointer (some ⟨j, 0, none⟩)), (2, .pointer (some ⟨M.length, 0, none⟩)), (3, .pointer (some ⟨M.length + 1, 0, none⟩)), (4, .int .i64 (i : Int)), (5, .int .i64 (jdIn n cd N2 i q y).2.1), (6, .int .i64 (q : Int))], M.set j (srcB a n cp (jdIn n cd N2 i q y).1) ++ [jnB 0 0 (fun _ => 0), jnB (N1 : Int) (N2 : Int) ((jdIn n cd N2 i q y).2.2)]⟩) N2 ⟨0, by omega, by show (_ : St) = ⟨57, [(0, .pointer (some ⟨j, 0, none⟩)), (2, .pointer (some ⟨M.length, 0, none⟩)), (3, .pointer (some ⟨M.length + 1, 0, none⟩)), (4, .int .i64 (i : Int)), (5, .int .i64 y.2.1), (6, .int .i64 ((0 : Nat) : Int))], M.set j (srcB a n cp y.1) ++ [jnB 0 0 (fun _ => 0), jnB (N1 : Int) (N2 : Int) (y.2.2)]⟩; rw [← z3]; rfl⟩ ?_
    rintro k2 st ⟨q, hq, rfl⟩
    obtain ⟨hbd, hat3⟩ := jdIn_bd n cd (outs := N2) (i := i) hy2 q
    have en2 : jdIn n cd N2 i (q + 1) y = (pkS n cd (jdIn n cd N2 i q y).1 ((jdIn n cd N2 i q y).2.1 + 1), (jdIn n cd N2 i q y).2.1 - (if q + 1 = N2 then (jdIn n cd N2 i q y).2.1 else pkV n cd (jdIn n cd N2 i q y).1 ((jdIn n cd N2 i q y).2.1 + 1)), fun x => if x = 2 + i * 4 + q then shw (if q + 1 = N2 then (jdIn n cd N2 i q y).2.1 else pkV n cd (jdIn n cd N2 i q y).1 ((jdIn n cd N2 i q y).2.1 + 1)) else (jdIn n cd N2 i q y).2.2 x) := rfl
    by_cases hqn : q < N2
    · generalize jdIn n cd N2 i q y = w at *
      have bw := pkV_bd (n := n) (cd := cd) w.1 (m := w.2.1 + 1) (by omega)
      have p3 := fun M' h1 h2 => spick a n cp cd hcd hn w.1 (w.2.1 + 1) (by omega) j M' (by omega) h1 h2
      generalize pkV n cd w.1 (w.2.1 + 1) = v at *
      have hx : 2 + i * 4 + q < 22 := by omega
      by_cases hl : q + 1 = N2
      · rw [if_pos hl] at en2
        repeat' (first | (refine d_AOs (h := ?_) ; first | refine o_move (h := ?_) | refine o_assign (h := ?_) | refine AOs.nil (h := ?_) | (refine d_bin (h := ?_) ; first | refine o_addS (h := ?_) | refine o_lss (h := ?_) | refine o_eqi (h := ?_) | refine o_subS (h := ?_) | refine o_fdiv (h := ?_)) | refine o_callM (hc := (p3 _ (mem_set1 hjl) (hSi _ _))) (h := ?_) | refine o_store (hcs := by exact (st_tab1 (by omega)).trans (jn_put (by omega))) (h := ?_) | refine o_load (h := ?_) | refine o_at (h := ?_) | refine o_field (h := ?_) | refine o_fofInt (h := ?_)) | (refine d_AW (h := ?_) ; first | refine AW.seq (h := ?_) | refine AW.region (h := ?_) | (refine AW.cond (ht := (fun hc => ?_)) (hf := (fun hc => ?_)) <;> (try (with_reducible first | exact absurd hc Bool.false_ne_true | exact absurd hc.symm Bool.false_ne_true)) <;> (try simp only [decide_eq_true_eq, decide_eq_false_iff_not, Int.ofNat_inj, Bool.not_eq_true', Bool.not_eq_false', Int.not_lt, Int.not_le] at hc) <;> (try (exfalso; omega)) <;> (try (exact absurd hc (by decide)))) | refine AW.block (h := ?_) | refine AW.skip (h := ?_)) | (first | refine t_normal ?_ | refine b_normal ?_))
        all_goals first | (exfalso; omega) | exact ⟨k2 - 1, by omega, q + 1, by omega, by rw [en2]; rfl⟩
      · rw [if_neg hl] at en2
        repeat' (first | (refine d_AOs (h := ?_) ; first | refine o_move (h := ?_) | refine o_assign (h := ?_) | refine AOs.nil (h := ?_) | (refine d_bin (h := ?_) ; first | refine o_addS (h := ?_) | refine o_lss (h := ?_) | refine o_eqi (h := ?_) | refine o_subS (h := ?_) | refine o_fdiv (h := ?_)) | refine o_callM (hc := (p3 _ (mem_set1 hjl) (hSi _ _))) (h := ?_) | refine o_store (hcs := by exact (st_tab1 (by omega)).trans (jn_put (by omega))) (h := ?_) | refine o_load (h := ?_) | refine o_at (h := ?_) | refine o_field (h := ?_) | refine o_fofInt (h := ?_)) | (refine d_AW (h := ?_) ; first | refine AW.seq (h := ?_) | refine AW.region (h := ?_) | (refine AW.cond (ht := (fun hc => ?_)) (hf := (fun hc => ?_)) <;> (try (with_reducible first | exact absurd hc Bool.false_ne_true | exact absurd hc.symm Bool.false_ne_true)) <;> (try simp only [decide_eq_true_eq, decide_eq_false_iff_not, Int.ofNat_inj, Bool.not_eq_true', Bool.not_eq_false', Int.not_lt, Int.not_le] at hc) <;> (try (exfalso; omega)) <;> (try (exact absurd hc (by decide)))) | refine AW.block (h := ?_) | refine AW.skip (h := ?_)) | (first | refine t_normal ?_ | refine b_normal ?_))
        all_goals first | (exfalso; omega) | exact ⟨k2 - 1, by omega, q + 1, by omega, by rw [en2]; rfl⟩
    · obtain rfl : q = N2 := by omega
      clear en2
      generalize jdIn n cd q i q y = w at *
      have bw := pkV_bd (n := n) (cd := cd) w.1 (m := 8) (by omega)
      have p3 := fun M' h1 h2 => spick a n cp cd hcd hn w.1 8 (by omega) j M' (by omega) h1 h2
      generalize pkV n cd w.1 8 = v at *
      have hx : 18 + i < 22 := by omega
      repeat' (first | (refine d_AOs (h := ?_) ; first | refine o_move (h := ?_) | refine o_assign (h := ?_) | refine AOs.nil (h := ?_) | (refine d_bin (h := ?_) ; first | refine o_addS (h := ?_) | refine o_lss (h := ?_) | refine o_fdiv (h := ?_)) | refine o_callM (hc := (p3 _ (mem_set1 hjl) (hSi _ _))) (h := ?_) | refine o_store (hcs := by exact (st_tab1 (by omega)).trans (jn_put (by omega))) (h := ?_) | refine o_load (h := ?_) | refine o_at (h := ?_) | refine o_field (h := ?_) | refine o_fofInt (h := ?_)) | (refine d_AW (h := ?_) ; first | refine AW.seq (h := ?_) | refine AW.region (h := ?_) | (refine AW.cond (ht := (fun hc => ?_)) (hf := (fun hc => ?_)) <;> (try (with_reducible first | exact absurd hc Bool.false_ne_true | exact absurd hc.symm Bool.false_ne_true)) <;> (try simp only [decide_eq_true_eq, decide_eq_false_iff_not, Int.ofNat_inj, Bool.not_eq_true', Bool.not_eq_false', Int.not_lt, Int.not_le] at hc) <;> (try (exfalso; omega)) <;> (try (exact absurd hc (by decide)))) | refine AW.exit (h := ?_)) | (first | refine t_normal ?_ | refine t_exit ?_ | refine b_normal ?_ | refine b_exit ?_))
      all_goals exact ⟨k - 1, by omega, i + 1, by omega, by rw [en]; rfl⟩
  · obtain rfl : i = N1 := by omega
    repeat' (first | (refine d_AOs (h := ?_) ; first | refine o_move (h := ?_) | refine AOs.nil (h := ?_) | (refine d_bin (h := ?_) ; first | refine o_lss (h := ?_)) | refine o_store (hw := by exact whole_tab (fun i => jn_one i)) (hcs := by exact st_all (by rfl)) (h := ?_) | refine o_load (h := ?_) | refine o_field (h := ?_)) | (refine d_AW (h := ?_) ; first | refine AW.seq (h := ?_) | refine AW.region (h := ?_) | (refine AW.cond (ht := (fun hc => ?_)) (hf := (fun hc => ?_)) <;> (try (with_reducible first | exact absurd hc Bool.false_ne_true | exact absurd hc.symm Bool.false_ne_true)) <;> (try simp only [decide_eq_true_eq, decide_eq_false_iff_not, Int.ofNat_inj, Bool.not_eq_true', Bool.not_eq_false', Int.not_lt, Int.not_le] at hc) <;> (try (exfalso; omega)) <;> (try (exact absurd hc (by decide)))) | refine AW.ret (h := ?_) | refine AW.exit (h := ?_)) | (first | refine t_normal ?_ | refine t_exit ?_ | refine b_exit ?_) | (refine d_post (h := ?_) ; first | refine p_cell1 rfl (h := ?_)))
    all_goals rfl
theorem sP6Junction (hcd : ∀ q, 0 ≤ cd q ∧ cd q ≤ 255) (hn : n ≤ 1048576) (M : Mem) (hS : SlAt M a n (tab n fun q => .int .u8 (cd q))) :
    Pure Tryz.prog 6 [.slice a n cp] M (jnV (jdA n cd (0, 0) : Int) (jdB n cd (0, 0) : Int) (jdX n cd (0, 0)).2) := by
  refine pure_of Tryz.func6 Tryz.ntmps6 rfl rfl (flat_agg jn_flat) ?_
  have hp := fun j M' h1 h2 => sl03Drawn a n cp cd hcd hn (0, 0) j M' (by simp) h1 h2
  generalize (jdX n cd (0, 0)).2 = h at *
  generalize jdA n cd (0, 0) = N1 at *
  generalize jdB n cd (0, 0) = N2 at *
  simp only [envOf, Nat.zero_add, Nat.reduceAdd]
  repeat' (first | (refine d_AOs (h := ?_) ; first | refine o_move (h := ?_) | refine AOs.nil (h := ?_) | refine o_callA (hc := (sfrom a n cp _)) (h := ?_) | refine o_callM (hc := (hp _ _ (by first | (simp only [mem_tail, mem_tail0, List.getElem?_cons_zero, List.getElem?_cons_succ]; first | done | rfl) | exact mem_head (by assumption) | assumption | (simp only [mem_tailS, mem_tailS0, List.getElem?_cons_zero, List.getElem?_cons_succ]; first | done | rfl) | exact mem_set1 (by assumption) | exact mem_set0 (by assumption) | exact mem_setN1 (by assumption) (by assumption) | exact mem_setN (by assumption) (by assumption)) (by first | exact hS | exact hS.append))) (h := ?_) | refine o_store (hw := by exact whole_tab (fun i => jn_one i)) (hcs := by exact st_all (by rfl)) (h := ?_) | refine o_alloc (h := ?_)) | (refine d_AW (h := ?_) ; first | refine AW.seq (h := ?_) | refine AW.region (h := ?_) | refine AW.ret (h := ?_)) | (first | refine t_normal ?_) | (refine d_post (h := ?_) ; first | refine p_cell1 rfl (h := ?_)))
  all_goals rfl
end
end Go.Proofs.YtgdpcomemkimhaaGreatDoor
