/- Junctions that are valid. -/
import Derived.Test.YtjghdagcmombnaaSa
import Derived.Test.YtjghdagcmombnaaJn
import Derived.Test.YtjghdagcmombnaaCc

namespace Go.Proofs.Ytjghdagcmombnaa
open Go.RowKit
attribute [local irreducible] AW AOs AO AQ AQW thenA inBlockA postA ACalls Pure
set_option linter.unusedSimpArgs false
set_option linter.unusedVariables false
set_option linter.unusedSectionVars false

/-! ### Plain -/
def jA (h : Nat → Nat) (i k : Nat) : Nat := h (2 + (i * 4 + k))
def jSum (g : Nat → Nat) : Nat → Nat
  | 0 => g 0
  | k + 1 => fadd .f32 (jSum g k) (g (k + 1))
def jS (h : Nat → Nat) (i : Nat) : Nat → Nat
  | 0 => 0
  | k + 1 => jSum (jA h i) k
def jC (ins outs : Int) (h : Nat → Nat) (i k : Nat) : Bool := isSh (jA h i k) && (!(decide (ins ≤ (i : Int)) || decide (outs ≤ (k : Int))) || feq .f32 (jA h i k) 0)
def prB (p : Nat) : Bool := isAm p && (fge .f32 p 1015021568 && fle .f32 p 1115684864)
def noB (p : Nat) : Bool := isAm p && feq .f32 p 0
def jE (ins : Int) (h : Nat → Nat) (i : Nat) : Bool := if (i : Int) < ins then (fge .f32 (jS h i 4) 1065336439 && fle .f32 (jS h i 4) 1065361605) && prB (h (18 + i)) else noB (h (18 + i))
def jnP (ins outs : Int) (h : Nat → Nat) : Prop := (1 ≤ ins ∧ ins ≤ 4) ∧ (1 ≤ outs ∧ outs ≤ 4) ∧ ∀ i : Nat, i < 4 → (∀ k : Nat, k < 4 → jC ins outs h i k = true) ∧ jE ins h i = true
instance (ins outs : Int) (h : Nat → Nat) : Decidable (jnP ins outs h) := inferInstanceAs (Decidable (_ ∧ _ ∧ _))
section
variable {ins outs : Int} {h : Nat → Nat}
theorem jn_get {q : Nat} (h2 : 2 ≤ q) (h22 : q < 22) : ldA .one q (tab 22 (jnJ ins outs h)) = some (.float .f32 (h q)) := ld_tab h22 (by unfold jnJ; rw [if_neg (by omega), if_neg (by omega)])
theorem jn_ld0 : ldA .one 0 (tab 22 (jnJ ins outs h)) = some (.int .i64 ins) := rfl
theorem jn_ld1 : ldA .one 1 (tab 22 (jnJ ins outs h)) = some (.int .i64 outs) := rfl
theorem jn_ldA {i k : Nat} (hi : i < 4) (hk : k < 4) : ldA .one (2 + i * 4 + k) (tab 22 (jnJ ins outs h)) = some (.float .f32 (jA h i k)) := by
  unfold jA
  rw [Nat.add_assoc]
  exact jn_get (by omega) (by omega)
theorem jn_ldP {i : Nat} (hi : i < 4) : ldA .one (18 + i) (tab 22 (jnJ ins outs h)) = some (.float .f32 (h (18 + i))) := jn_get (by omega) (by omega)
theorem jn_ldT : ldA (.agg 16) 2 (tab 22 (jnJ ins outs h)) = some (.agg (tab 16 fun q => .float .f32 (h (2 + q))).toArray) := rfl
theorem jn_ldR {i : Nat} (hi : i < 4) : ldA (.agg 4) (i * 4) (tab 16 fun q => Value.float .f32 (h (2 + q))) = some (.agg (tab 4 fun q => .float .f32 (jA h i q)).toArray) := ld_part (by omega)
end
theorem feq_zero {a : Nat} (h : feq .f32 a 0 = true) : fge .f32 a 0 = true ∧ ffin .f32 a = true ∧ fnan .f32 a = false := by
  have ho : FloatKind.f32.format.order a 0 = some .eq := by
    unfold feq at h; simpa using h
  refine ⟨by unfold fge; rw [ho]; rfl, ?_⟩
  have hz : FloatKind.f32.format.read 0 = .number false 0 FloatKind.f32.format.leastPlace := rfl
  unfold Ieee.Format.order at ho
  rw [hz] at ho
  cases hd : FloatKind.f32.decode a with
  | number s mg e => exact ⟨by unfold ffin; rw [hd]; rfl, by unfold fnan; rw [hd]; rfl⟩
  | infinity s =>
    have h' : FloatKind.f32.format.read a = .infinity s := hd
    rw [h'] at ho
    cases s <;> exact absurd ho (by simp [Ieee.Datum.order])
  | nan s f =>
    have h' : FloatKind.f32.format.read a = .nan s f := hd
    rw [h'] at ho
    exact absurd ho (by simp [Ieee.Datum.order])
/-- A sum of four shares is no NaN. -/
theorem jS_cmp {g : Nat → Nat} (hg : ∀ k, k < 4 → isSh (g k) = true) (hl : ∀ k, k < 4 → g k < 4294967296) : fge .f32 (jSum g 3) 1065336439 = !flt .f32 (jSum g 3) 1065336439 ∧ fle .f32 (jSum g 3) 1065361605 = !fgt .f32 (jSum g 3) 1065361605 := by
  have hU : U = 2 ^ 149 := rfl
  have key : ∀ k : Nat, k < 4 → nn (jSum g k) ∧ fv (jSum g k) ≤ ((k + 1 : Nat) : Int) * 2 ^ 149 := fun k => by
    induction k with
    | zero => exact fun _ => ⟨am_nn (by have := hg 0 (by omega); unfold isSh at this; rw [Bool.and_eq_true] at this; exact this.1) (hl 0 (by omega)), by have := (sh_bd (hg 0 (by omega))).2.2; rw [hU] at this; show fv (g 0) ≤ _; omega⟩
    | succ k ih =>
      intro hk
      obtain ⟨h1, h2⟩ := ih (by omega)
      have h3 : nn (g (k + 1)) := am_nn (by have := hg (k + 1) hk; unfold isSh at this; rw [Bool.and_eq_true] at this; exact this.1) (hl _ hk)
      have h4 := (sh_bd (hg (k + 1) hk)).2.2
      rw [hU] at h4
      obtain ⟨h5, h6⟩ := nn_add h1 h3 (by omega)
      exact ⟨h5, h6.le (z := ((k + 1 + 1 : Nat) : Int)) (e := 149) (by omega) (by omega) (by omega)⟩
  have h1 := (key 3 (by omega)).1
  rw [fge_fv h1.1 (by decide +kernel), flt_fv h1.1 (by decide +kernel), fle_fv h1.1 (by decide +kernel), fgt_fv h1.1 (by decide +kernel)]
  constructor
  · rw [← decide_not]; exact decide_eq_decide.2 (by omega)
  · rw [← decide_not]; exact decide_eq_decide.2 (by omega)

/-! ### The functions -/
theorem iisArms (a : Int) (M : Mem) : Pure Try.prog 53 [.int .i64 a] M (.bool (decide (1 ≤ a ∧ a ≤ 4))) := by
  refine pure_of Try.func53 Try.ntmps53 rfl rfl (by repeat' (first | exact Flat.bool _ | fail)) ?_
  simp only [envOf, Nat.zero_add, Nat.reduceAdd]
  repeat' (first | (refine d_AOs (h := ?_) ; first | refine o_move (h := ?_) | refine o_assign (h := ?_) | refine AOs.nil (h := ?_) | refine o_call (hc := (iinRange _ _ _ _)) (h := ?_)) | (refine d_AW (h := ?_) ; first | refine AW.seq (h := ?_) | refine AW.region (h := ?_) | refine AW.ret (h := ?_)) | (first | refine t_normal ?_) | (refine d_post (h := ?_) ; first | refine p_ret1 rfl (h := ?_)) | fail)
  all_goals rfl
theorem sl03Arms (a : Int) (M : Mem) : Pure Try.prog 48 [.int .i64 a] M (.bool (decide (1 ≤ a ∧ a ≤ 4))) := by
  refine pure_of Try.func48 Try.ntmps48 rfl rfl (by repeat' (first | exact Flat.bool _ | fail)) ?_
  simp only [envOf, Nat.zero_add, Nat.reduceAdd]
  repeat' (first | (refine d_AOs (h := ?_) ; first | refine o_move (h := ?_) | refine o_assign (h := ?_) | refine AOs.nil (h := ?_) | refine o_call (hc := (sl00In _ _ _ _)) (h := ?_)) | (refine d_AW (h := ?_) ; first | refine AW.seq (h := ?_) | refine AW.region (h := ?_) | refine AW.ret (h := ?_)) | (first | refine t_normal ?_) | (refine d_post (h := ?_) ; first | refine p_ret1 rfl (h := ?_)) | fail)
  all_goals rfl
theorem iisPrior (a : Nat) (M : Mem) : Pure Try.prog 55 [.float .f32 a] M (.bool (prB a)) := by
  refine pure_of Try.func55 Try.ntmps55 rfl rfl (by repeat' (first | exact Flat.bool _ | fail)) ?_
  simp only [envOf, Nat.zero_add, Nat.reduceAdd]
  repeat' (first | (refine d_AOs (h := ?_) ; first | refine o_move (h := ?_) | refine o_assign (h := ?_) | refine AOs.nil (h := ?_) | (refine d_bin (h := ?_) ; first | refine o_fle (h := ?_) | refine o_fge (h := ?_)) | (refine d_grd (h := ?_) ; first | refine g_yes (h := ?_) | refine g_no (h := ?_) | (refine g_true (h1 := (fun hg => ?_)) (h0 := (fun hg => ?_)) <;> (try rw [hg]) <;> (try simp only [decide_eq_true_eq, decide_eq_false_iff_not, Int.ofNat_inj, Bool.not_eq_true', Bool.not_eq_false', Int.not_lt, Int.not_le] at hg) <;> (try (exfalso; omega)) <;> (try (exact absurd hg (by decide))))) | refine o_call (hc := (iIsAmount _ _)) (h := ?_) | refine o_pick (h := ?_)) | (refine d_AW (h := ?_) ; first | refine AW.seq (h := ?_) | refine AW.region (h := ?_) | refine AW.ret (h := ?_)) | (first | refine t_normal ?_) | (refine d_post (h := ?_) ; first | refine p_ret1 rfl (h := ?_)) | fail)
  all_goals simp_all [prB]
theorem sl03Prior (a : Nat) (M : Mem) : Pure Try.prog 51 [.float .f32 a] M (.bool (prB a)) := by
  refine pure_of Try.func51 Try.ntmps51 rfl rfl (by repeat' (first | exact Flat.bool _ | fail)) ?_
  simp only [envOf, Nat.zero_add, Nat.reduceAdd]
  repeat' (first | (refine d_AOs (h := ?_) ; first | refine o_move (h := ?_) | refine o_assign (h := ?_) | refine AOs.nil (h := ?_) | (refine d_bin (h := ?_) ; first | refine o_fle (h := ?_) | refine o_fge (h := ?_)) | (refine d_grd (h := ?_) ; first | refine g_yes (h := ?_) | refine g_no (h := ?_) | (refine g_true (h1 := (fun hg => ?_)) (h0 := (fun hg => ?_)) <;> (try rw [hg]) <;> (try simp only [decide_eq_true_eq, decide_eq_false_iff_not, Int.ofNat_inj, Bool.not_eq_true', Bool.not_eq_false', Int.not_lt, Int.not_le] at hg) <;> (try (exfalso; omega)) <;> (try (exact absurd hg (by decide))))) | refine o_call (hc := (sl01Amount _ _)) (h := ?_) | refine o_pick (h := ?_)) | (refine d_AW (h := ?_) ; first | refine AW.seq (h := ?_) | refine AW.region (h := ?_) | refine AW.ret (h := ?_)) | (first | refine t_normal ?_) | (refine d_post (h := ?_) ; first | refine p_ret1 rfl (h := ?_)) | fail)
  all_goals simp_all [prB]
theorem iisNothing (a : Nat) (M : Mem) : Pure Try.prog 56 [.float .f32 a] M (.bool (noB a)) := by
  refine Pure.given 0 rfl fun ha => ?_
  refine pure_of Try.func56 Try.ntmps56 rfl rfl (by repeat' (first | exact Flat.bool _ | fail)) ?_
  cases hz : feq .f32 a 0
  · unfold noB
    rw [hz, Bool.and_false]
    simp only [envOf, Nat.zero_add, Nat.reduceAdd]
    repeat' (first | (refine d_AOs (h := ?_) ; first | refine o_move (h := ?_) | refine o_assign (h := ?_) | refine AOs.nil (h := ?_) | (refine d_bin (h := ?_) ; first | refine o_feq (h := ?_)) | (refine d_grd (h := ?_) ; first | refine g_yes (h := ?_) | refine g_no (h := ?_) | (refine g_true (h1 := (fun hg => ?_)) (h0 := (fun hg => ?_)) <;> (try rw [hg]) <;> (try simp only [decide_eq_true_eq, decide_eq_false_iff_not, Int.ofNat_inj, Bool.not_eq_true', Bool.not_eq_false', Int.not_lt, Int.not_le] at hg) <;> (try (exfalso; omega)) <;> (try (exact absurd hg (by decide))))) | refine o_pick (h := ?_) | refine o_fconv (h := ?_)) | (refine d_AW (h := ?_) ; first | refine AW.seq (h := ?_) | refine AW.region (h := ?_) | refine AW.ret (h := ?_)) | (first | refine t_normal ?_) | (refine d_post (h := ?_) ; first | refine p_ret1 rfl (h := ?_)) | fail)
    all_goals first | rfl | (simp_all; done)
  · obtain ⟨h1, h2, h3⟩ := feq_zero hz
    have hv : noB a = !decide (IntKind.i64.wrap (fconv .f32 .f64 a) < 0) := by
      unfold noB
      rw [hz, ← am_eq ha, h1, h2]; simp
    rw [hv]
    simp only [envOf, Nat.zero_add, Nat.reduceAdd]
    repeat' (first | (refine d_AOs (h := ?_) ; first | refine o_move (h := ?_) | refine o_assign (h := ?_) | refine AOs.nil (h := ?_) | (refine d_bin (h := ?_) ; first | refine o_feq (h := ?_)) | (refine d_grd (h := ?_) ; first | refine g_yes (h := ?_) | refine g_no (h := ?_) | (refine g_true (h1 := (fun hg => ?_)) (h0 := (fun hg => ?_)) <;> (try rw [hg]) <;> (try simp only [decide_eq_true_eq, decide_eq_false_iff_not, Int.ofNat_inj, Bool.not_eq_true', Bool.not_eq_false', Int.not_lt, Int.not_le] at hg) <;> (try (exfalso; omega)) <;> (try (exact absurd hg (by decide))))) | refine o_call (hc := (mSignbit _ (nn_conv h3) _)) (h := ?_) | refine o_pick (h := ?_) | refine o_not (h := ?_) | refine o_fconv (h := ?_)) | (refine d_AW (h := ?_) ; first | refine AW.seq (h := ?_) | refine AW.region (h := ?_) | refine AW.ret (h := ?_)) | (first | refine t_normal ?_) | (refine d_post (h := ?_) ; first | refine p_ret1 rfl (h := ?_)) | fail)
    all_goals first | rfl | (simp_all; done)
set_option maxHeartbeats 4000000 in
theorem isumOf4 (g : Nat → Nat) (j : Nat) (rw' : Bool) (M : Mem) (hb : M[j]? = some ⟨tab 4 fun q => .float .f32 (g q), none, rw'⟩) : Pure Try.prog 27 [.slice (some ⟨j, 0, none⟩) 4 4] M (.float .f32 (jSum g 3)) := by
  refine pure_of Try.func27 Try.ntmps27 rfl rfl (by repeat' (first | exact Flat.float _ _ | fail)) ?_
  simp only [envOf, Nat.zero_add, Nat.reduceAdd]
  repeat' (first | (refine d_AOs (h := ?_) ; first | refine o_move (h := ?_) | refine o_assign (h := ?_) | refine AOs.nil (h := ?_) | refine o_slLo (q := 1) (ln' := 3) (cp' := 3) (h := ?_) | refine o_load (h := ?_) | refine o_len (h := ?_) | refine o_ixS (h := ?_)) | (refine d_AW (h := ?_) ; first | refine AW.seq (h := ?_) | refine AW.region (h := ?_) | refine AW.block (h := ?_)) | (first | refine t_normal ?_) | fail)
  refine AW.loopN [3, 10, 11, 12] (fun k s => ∃ (i : Nat), i + k = 3 ∧ s = ⟨21, [(3, .float .f32 (jSum g i)), (10, .slice (some ⟨j, 1, none⟩) 3 3), (11, .int .i64 3), (12, .int .i64 (i : Int))], M⟩) 3 ⟨0, by omega, rfl⟩ ?_
  rintro k s ⟨i, hi, rfl⟩
  by_cases hin : i < 3
  · have e : fadd .f32 (jSum g i) (g (1 + i)) = jSum g (i + 1) := by rw [Nat.add_comm 1 i]; rfl
    repeat' (first | (refine d_AOs (h := ?_) ; first | refine o_move (h := ?_) | refine o_assign (h := ?_) | refine AOs.nil (h := ?_) | (refine d_bin (h := ?_) ; first | refine o_addS (h := ?_) | refine o_lss (h := ?_) | refine o_fadd (h := ?_)) | refine o_load (h := ?_) | refine o_ixS (h := ?_)) | (refine d_AW (h := ?_) ; first | refine AW.seq (h := ?_) | refine AW.region (h := ?_) | (refine AW.cond (ht := (fun hc => ?_)) (hf := (fun hc => ?_)) <;> (try (with_reducible first | exact absurd hc Bool.false_ne_true | exact absurd hc.symm Bool.false_ne_true)) <;> (try simp only [decide_eq_true_eq, decide_eq_false_iff_not, Int.ofNat_inj, Bool.not_eq_true', Bool.not_eq_false', Int.not_lt, Int.not_le] at hc) <;> (try (exfalso; omega)) <;> (try (exact absurd hc (by decide)))) | refine AW.block (h := ?_) | refine AW.skip (h := ?_)) | (first | refine t_normal ?_ | refine b_normal ?_) | fail)
    exact ⟨k - 1, by omega, i + 1, by omega, by rw [← e]; rfl⟩
  · obtain rfl : i = 3 := by omega
    repeat' (first | (refine d_AOs (h := ?_) ; first | refine o_move (h := ?_) | refine o_assign (h := ?_) | refine AOs.nil (h := ?_) | (refine d_bin (h := ?_) ; first | refine o_lss (h := ?_))) | (refine d_AW (h := ?_) ; first | refine AW.seq (h := ?_) | refine AW.region (h := ?_) | (refine AW.cond (ht := (fun hc => ?_)) (hf := (fun hc => ?_)) <;> (try (with_reducible first | exact absurd hc Bool.false_ne_true | exact absurd hc.symm Bool.false_ne_true)) <;> (try simp only [decide_eq_true_eq, decide_eq_false_iff_not, Int.ofNat_inj, Bool.not_eq_true', Bool.not_eq_false', Int.not_lt, Int.not_le] at hc) <;> (try (exfalso; omega)) <;> (try (exact absurd hc (by decide)))) | refine AW.ret (h := ?_) | refine AW.exit (h := ?_)) | (first | refine t_normal ?_ | refine t_exit ?_ | refine b_exit ?_) | (refine d_post (h := ?_) ; first | refine p_ret1 rfl (h := ?_)) | fail)
    all_goals rfl
section
variable (ins outs : Int) (h : Nat → Nat)
theorem jn_no (hP : ¬ jnP ins outs h) : Value.bool false = .bool (decide (jnP ins outs h)) := by rw [decide_eq_false hP]
set_option maxHeartbeats 16000000 in
theorem sl03Ok (j : Nat) (rw' : Bool) (M : Mem) (hb : M[j]? = some ⟨tab 22 (jnJ ins outs h), none, rw'⟩) : Pure Try.prog 30 [.pointer (some ⟨j, 0, none⟩)] M (.bool (decide (jnP ins outs h))) := by
  refine pure_of Try.func30 Try.ntmps30 rfl rfl (by repeat' (first | exact Flat.bool _ | fail)) ?_
  have hA := fun M' => sl03Arms ins M'
  have hB := fun M' => sl03Arms outs M'
  by_cases hi : 1 ≤ ins ∧ ins ≤ 4
  · rw [decide_eq_true hi] at hA
    by_cases ho : 1 ≤ outs ∧ outs ≤ 4
    · rw [decide_eq_true ho] at hB
      simp only [envOf, Nat.zero_add, Nat.reduceAdd]
      repeat' (first | (refine d_AOs (h := ?_) ; first | refine o_move (h := ?_) | refine o_assign (h := ?_) | refine AOs.nil (h := ?_) | (refine d_grd (h := ?_) ; first | refine g_yes (h := ?_)) | refine o_load (hv := jn_ld0) (h := ?_) | refine o_load (hv := jn_ld1) (h := ?_) | refine o_call (hc := (hA _)) (h := ?_) | refine o_call (hc := (hB _)) (h := ?_) | refine o_field (h := ?_) | refine o_nil (h := ?_) | refine o_pick (h := ?_) | refine o_not (h := ?_)) | (refine d_AW (h := ?_) ; first | refine AW.seq (h := ?_) | refine AW.region (h := ?_) | (refine AW.cond (ht := (fun hc => ?_)) (hf := (fun hc => ?_)) <;> (try (with_reducible first | exact absurd hc Bool.false_ne_true | exact absurd hc.symm Bool.false_ne_true)) <;> (try simp only [decide_eq_true_eq, decide_eq_false_iff_not, Int.ofNat_inj, Bool.not_eq_true', Bool.not_eq_false', Int.not_lt, Int.not_le] at hc) <;> (try (exfalso; omega)) <;> (try (exact absurd hc (by decide)))) | refine AW.block (h := ?_) | refine AW.skip (h := ?_)) | (first | refine t_normal ?_) | fail)
      all_goals try (exfalso; simp at hc; done)
      clear hA hB
      refine AW.loopN [0, 3] (fun k st => ∃ i : Nat, i + k = 4 ∧ (∀ q, q < i → (∀ k : Nat, k < 4 → jC ins outs h q k = true) ∧ jE ins h q = true) ∧ st = ⟨106, [(0, .pointer (some ⟨j, 0, none⟩)), (3, .int .i64 (i : Int))], M⟩) 4 ⟨0, by omega, fun q hq => by omega, rfl⟩ ?_
      rintro k st ⟨i, hik, hR, rfl⟩
      by_cases hin : i < 4
      · repeat' (first | (refine d_AOs (h := ?_) ; first | refine o_move (h := ?_) | refine o_assign (h := ?_) | refine AOs.nil (h := ?_) | (refine d_bin (h := ?_) ; first | refine o_lss (h := ?_))) | (refine d_AW (h := ?_) ; first | refine AW.seq (h := ?_) | refine AW.region (h := ?_) | (refine AW.cond (ht := (fun hc => ?_)) (hf := (fun hc => ?_)) <;> (try (with_reducible first | exact absurd hc Bool.false_ne_true | exact absurd hc.symm Bool.false_ne_true)) <;> (try simp only [decide_eq_true_eq, decide_eq_false_iff_not, Int.ofNat_inj, Bool.not_eq_true', Bool.not_eq_false', Int.not_lt, Int.not_le] at hc) <;> (try (exfalso; omega)) <;> (try (exact absurd hc (by decide)))) | refine AW.block (h := ?_) | refine AW.skip (h := ?_)) | (first | refine t_normal ?_) | fail)
        refine AW.loopN [0, 3, 4, 5] (fun k st => ∃ q : Nat, q + k = 4 ∧ (∀ p, p < q → jC ins outs h i p = true) ∧ st = ⟨106, [(0, .pointer (some ⟨j, 0, none⟩)), (3, .int .i64 (i : Int)), (4, .float .f32 (jS h i q)), (5, .int .i64 (q : Int))], M⟩) 4 ⟨0, by omega, fun q hq => by omega, rfl⟩ ?_
        rintro k2 st ⟨q, hqk, hQ, rfl⟩
        by_cases hqn : q < 4
        · have hS1 := fun M' => sl01Share (jA h i q) M'
          have hld : ldA .one (2 + i * 4 + q) (tab 22 (jnJ ins outs h)) = some (.float .f32 (jA h i q)) := jn_ldA hin hqn
          have hJ0 : q = 0 → jS h i (q + 1) = jA h i q := fun e => by subst e; rfl
          have hJ1 : q ≠ 0 → jS h i (q + 1) = fadd .f32 (jS h i q) (jA h i q) := fun e => by
            obtain ⟨p, rfl⟩ : ∃ p, q = p + 1 := ⟨q - 1, by omega⟩
            rfl
          have hF : jC ins outs h i q = false → ¬ jnP ins outs h := fun e hP => by have := (hP.2.2 i hin).1 q hqn; rw [e] at this; cases this
          have hT : jC ins outs h i q = true → ∀ p, p < q + 1 → jC ins outs h i p = true := fun e p hp => by
            by_cases e2 : p = q
            · subst e2; exact e
            · exact hQ p (by omega)
          unfold jC at hF
          generalize hC : jC ins outs h i q = vc at hT
          unfold jC at hC
          clear hR hQ
          generalize jA h i q = a at *
          subst hC
          generalize hs0 : jS h i q = s0 at *
          cases hs : isSh a
          · rw [hs] at hS1 hF
            have hN := jn_no ins outs h (hF rfl)
            clear hF hT hJ0 hJ1
            rw [← hN]
            clear hN
            repeat' (first | (refine d_AOs (h := ?_) ; first | refine o_move (h := ?_) | refine o_assign (h := ?_) | refine AOs.nil (h := ?_) | (refine d_bin (h := ?_) ; first | refine o_lss (h := ?_)) | (refine d_grd (h := ?_) ; first | refine g_no (h := ?_) | refine g_undef (h := ?_)) | refine o_load (hv := hld) (h := ?_) | refine o_call (hc := (hS1 _)) (h := ?_) | refine o_at (h := ?_) | refine o_field (h := ?_) | refine o_nil (h := ?_) | refine o_pick (h := ?_) | refine o_not (h := ?_)) | (refine d_AW (h := ?_) ; first | refine AW.seq (h := ?_) | refine AW.region (h := ?_) | (refine AW.cond (ht := (fun hc => ?_)) (hf := (fun hc => ?_)) <;> (try (with_reducible first | exact absurd hc Bool.false_ne_true | exact absurd hc.symm Bool.false_ne_true)) <;> (try simp only [decide_eq_true_eq, decide_eq_false_iff_not, Int.ofNat_inj, Bool.not_eq_true', Bool.not_eq_false', Int.not_lt, Int.not_le] at hc) <;> (try (exfalso; omega)) <;> (try (exact absurd hc (by decide)))) | refine AW.block (h := ?_) | refine AW.ret (h := ?_) | refine AW.skip (h := ?_)) | (first | refine t_normal ?_ | refine t_ret ?_ | refine b_ret ?_) | (refine d_post (h := ?_) ; first | refine p_ret1 rfl (h := ?_)) | fail)
            all_goals first | rfl | (exfalso; simp at hc; done)
          · rw [hs] at hS1 hF hT
            cases hz : feq .f32 a 0
            all_goals rw [hz] at hF hT
            all_goals by_cases e1 : ins ≤ (i : Int)
            all_goals by_cases e2 : outs ≤ (q : Int)
            all_goals simp only [e1, e2, decide_true, decide_false, Bool.or_true, Bool.or_false, Bool.true_or, Bool.false_or, Bool.not_true, Bool.not_false, Bool.and_true, Bool.and_false, Bool.true_and, Bool.or_self, forall_const, Bool.true_eq_false, Bool.false_eq_true, false_implies] at hF hT
            all_goals clear hs
            all_goals repeat' (first | (refine d_AOs (h := ?_) ; first | refine o_move (h := ?_) | refine o_assign (h := ?_) | refine AOs.nil (h := ?_) | (refine d_bin (h := ?_) ; first | refine o_fneC (h := ?_) | refine o_addS (h := ?_) | refine o_lss (h := ?_) | refine o_eqi (h := ?_) | refine o_geq (h := ?_) | refine o_fadd (h := ?_)) | (refine d_grd (h := ?_) ; first | refine g_yes (h := ?_) | refine g_no (h := ?_) | (refine g_true (h1 := (fun hg => ?_)) (h0 := (fun hg => ?_)) <;> (try rw [hg]) <;> (try simp only [decide_eq_true_eq, decide_eq_false_iff_not, Int.ofNat_inj, Bool.not_eq_true', Bool.not_eq_false', Int.not_lt, Int.not_le] at hg) <;> (try (exfalso; omega)) <;> (try (exact absurd hg (by decide)))) | (refine g_false (h1 := (fun hg => ?_)) (h0 := (fun hg => ?_)) <;> (try rw [hg]) <;> (try simp only [decide_eq_true_eq, decide_eq_false_iff_not, Int.ofNat_inj, Bool.not_eq_true', Bool.not_eq_false', Int.not_lt, Int.not_le] at hg) <;> (try (exfalso; omega)) <;> (try (exact absurd hg (by decide))))) | refine o_load (hv := jn_ld0) (h := ?_) | refine o_load (hv := jn_ld1) (h := ?_) | refine o_load (hv := hld) (h := ?_) | refine o_call (hc := (hS1 _)) (h := ?_) | refine o_at (h := ?_) | refine o_field (h := ?_) | refine o_nil (h := ?_) | refine o_pick (h := ?_) | refine o_not (h := ?_)) | (refine d_AW (h := ?_) ; first | refine AW.seq (h := ?_) | refine AW.region (h := ?_) | (refine AW.cond (ht := (fun hc => ?_)) (hf := (fun hc => ?_)) <;> (try (with_reducible first | exact absurd hc Bool.false_ne_true | exact absurd hc.symm Bool.false_ne_true)) <;> (try simp only [decide_eq_true_eq, decide_eq_false_iff_not, Int.ofNat_inj, Bool.not_eq_true', Bool.not_eq_false', Int.not_lt, Int.not_le] at hc) <;> (try (exfalso; omega)) <;> (try (exact absurd hc (by decide)))) | refine AW.block (h := ?_) | refine AW.ret (h := ?_) | refine AW.skip (h := ?_)) | (first | refine t_normal ?_ | refine t_ret ?_ | refine b_normal ?_ | refine b_ret ?_) | (refine d_post (h := ?_) ; first | refine p_ret1 rfl (h := ?_)) | fail)
            all_goals first | exact jn_no ins outs h hF | exact ⟨k2 - 1, by omega, q + 1, by omega, hT, by first | (rw [hJ0 (by omega)]; rfl) | (rw [hJ1 (by omega)]; rfl)⟩ | (exfalso; simp at hc; done)
        · obtain rfl : q = 4 := by omega
          have hld : ldA .one (18 + i) (tab 22 (jnJ ins outs h)) = some (.float .f32 (h (18 + i))) := jn_ldP hin
          have hP1 := fun M' => sl03Prior (h (18 + i)) M'
          have hA1 := fun M' => sl01Amount (h (18 + i)) M'
          have hF : jE ins h i = false → ¬ jnP ins outs h := fun e hP => by have := (hP.2.2 i hin).2; rw [e] at this; cases this
          have hT : jE ins h i = true → ∀ q, q < i + 1 → (∀ k : Nat, k < 4 → jC ins outs h q k = true) ∧ jE ins h q = true := fun e p hp => by
            by_cases e2 : p = i
            · subst e2; exact ⟨hQ, e⟩
            · exact hR p (by omega)
          unfold jE at hF
          generalize hE : jE ins h i = ve at hT
          unfold jE at hE
          clear hR hQ
          unfold noB at hF hE
          generalize h (18 + i) = pr at *
          generalize jS h i 4 = s0 at *
          by_cases e1 : (i : Int) < ins
          · rw [if_pos e1] at hF hE
            subst hE
            cases hz1 : fge .f32 s0 1065336439
            · rw [hz1] at hF
              have hN := jn_no ins outs h (hF rfl)
              clear hF hT
              rw [← hN]
              clear hN
              repeat' (first | (refine d_AOs (h := ?_) ; first | refine o_move (h := ?_) | refine o_assign (h := ?_) | refine AOs.nil (h := ?_) | (refine d_bin (h := ?_) ; first | refine o_fgeC (h := ?_) | refine o_lss (h := ?_) | refine o_geq (h := ?_)) | (refine d_grd (h := ?_) ; first | refine g_no (h := ?_)) | refine o_load (hv := jn_ld0) (h := ?_) | refine o_field (h := ?_) | refine o_nil (h := ?_) | refine o_pick (h := ?_) | refine o_not (h := ?_)) | (refine d_AW (h := ?_) ; first | refine AW.seq (h := ?_) | refine AW.region (h := ?_) | (refine AW.cond (ht := (fun hc => ?_)) (hf := (fun hc => ?_)) <;> (try (with_reducible first | exact absurd hc Bool.false_ne_true | exact absurd hc.symm Bool.false_ne_true)) <;> (try simp only [decide_eq_true_eq, decide_eq_false_iff_not, Int.ofNat_inj, Bool.not_eq_true', Bool.not_eq_false', Int.not_lt, Int.not_le] at hc) <;> (try (exfalso; omega)) <;> (try (exact absurd hc (by decide)))) | refine AW.ret (h := ?_) | refine AW.skip (h := ?_) | refine AW.exit (h := ?_)) | (first | refine t_normal ?_ | refine t_ret ?_ | refine t_exit ?_ | refine b_exit ?_ | refine b_ret ?_) | (refine d_post (h := ?_) ; first | refine p_ret1 rfl (h := ?_)) | fail)
              all_goals first | rfl | (exfalso; simp at hc; done)
            · cases hz2 : fle .f32 s0 1065361605
              all_goals cases hz3 : prB pr
              all_goals rw [hz1, hz2, hz3] at hF hT
              all_goals rw [hz3] at hP1
              all_goals simp only [Bool.and_true, Bool.and_false, Bool.true_and, Bool.false_and, Bool.and_self, forall_const, Bool.true_eq_false, Bool.false_eq_true, false_implies] at hF hT
              all_goals clear hz3
              all_goals repeat' (first | (refine d_AOs (h := ?_) ; first | refine o_move (h := ?_) | refine o_assign (h := ?_) | refine AOs.nil (h := ?_) | (refine d_bin (h := ?_) ; first | refine o_fleC (h := ?_) | refine o_fgeC (h := ?_) | refine o_addS (h := ?_) | refine o_lss (h := ?_) | refine o_geq (h := ?_)) | (refine d_grd (h := ?_) ; first | refine g_yes (h := ?_) | refine g_no (h := ?_)) | refine o_load (hv := jn_ld0) (h := ?_) | refine o_load (hv := hld) (h := ?_) | refine o_call (hc := (hP1 _)) (h := ?_) | refine o_at (h := ?_) | refine o_field (h := ?_) | refine o_nil (h := ?_) | refine o_pick (h := ?_) | refine o_not (h := ?_)) | (refine d_AW (h := ?_) ; first | refine AW.seq (h := ?_) | refine AW.region (h := ?_) | (refine AW.cond (ht := (fun hc => ?_)) (hf := (fun hc => ?_)) <;> (try (with_reducible first | exact absurd hc Bool.false_ne_true | exact absurd hc.symm Bool.false_ne_true)) <;> (try simp only [decide_eq_true_eq, decide_eq_false_iff_not, Int.ofNat_inj, Bool.not_eq_true', Bool.not_eq_false', Int.not_lt, Int.not_le] at hc) <;> (try (exfalso; omega)) <;> (try (exact absurd hc (by decide)))) | refine AW.ret (h := ?_) | refine AW.skip (h := ?_) | refine AW.exit (h := ?_)) | (first | refine t_normal ?_ | refine t_ret ?_ | refine t_exit ?_ | refine b_normal ?_ | refine b_exit ?_ | refine b_ret ?_) | (refine d_post (h := ?_) ; first | refine p_ret1 rfl (h := ?_)) | fail)
              all_goals first | exact jn_no ins outs h hF | exact ⟨k - 1, by omega, i + 1, by omega, hT, rfl⟩ | (exfalso; simp at hc; done)
          · rw [if_neg e1] at hF hE
            subst hE
            cases hz1 : isAm pr
            all_goals cases hz2 : feq .f32 pr 0
            all_goals rw [hz1, hz2] at hF hT
            all_goals rw [hz1] at hA1
            all_goals simp only [Bool.and_true, Bool.and_false, Bool.true_and, Bool.false_and, Bool.and_self, forall_const, Bool.true_eq_false, Bool.false_eq_true, false_implies] at hF hT
            all_goals clear hz1
            all_goals repeat' (first | (refine d_AOs (h := ?_) ; first | refine o_move (h := ?_) | refine o_assign (h := ?_) | refine AOs.nil (h := ?_) | (refine d_bin (h := ?_) ; first | refine o_fneC (h := ?_) | refine o_addS (h := ?_) | refine o_lss (h := ?_) | refine o_geq (h := ?_)) | (refine d_grd (h := ?_) ; first | refine g_yes (h := ?_) | refine g_no (h := ?_)) | refine o_load (hv := jn_ld0) (h := ?_) | refine o_load (hv := hld) (h := ?_) | refine o_call (hc := (hA1 _)) (h := ?_) | refine o_at (h := ?_) | refine o_field (h := ?_) | refine o_nil (h := ?_) | refine o_pick (h := ?_) | refine o_not (h := ?_)) | (refine d_AW (h := ?_) ; first | refine AW.seq (h := ?_) | refine AW.region (h := ?_) | (refine AW.cond (ht := (fun hc => ?_)) (hf := (fun hc => ?_)) <;> (try (with_reducible first | exact absurd hc Bool.false_ne_true | exact absurd hc.symm Bool.false_ne_true)) <;> (try simp only [decide_eq_true_eq, decide_eq_false_iff_not, Int.ofNat_inj, Bool.not_eq_true', Bool.not_eq_false', Int.not_lt, Int.not_le] at hc) <;> (try (exfalso; omega)) <;> (try (exact absurd hc (by decide)))) | refine AW.ret (h := ?_) | refine AW.skip (h := ?_) | refine AW.exit (h := ?_)) | (first | refine t_normal ?_ | refine t_ret ?_ | refine t_exit ?_ | refine b_exit ?_ | refine b_ret ?_) | (refine d_post (h := ?_) ; first | refine p_ret1 rfl (h := ?_)) | fail)
            all_goals first | exact jn_no ins outs h hF | exact ⟨k - 1, by omega, i + 1, by omega, hT, rfl⟩ | (exfalso; simp at hc; done)
      · obtain rfl : i = 4 := by omega
        rw [decide_eq_true (show jnP ins outs h from ⟨hi, ho, hR⟩)]
        repeat' (first | (refine d_AOs (h := ?_) ; first | refine o_move (h := ?_) | refine o_assign (h := ?_) | refine AOs.nil (h := ?_) | (refine d_bin (h := ?_) ; first | refine o_lss (h := ?_))) | (refine d_AW (h := ?_) ; first | refine AW.seq (h := ?_) | refine AW.region (h := ?_) | (refine AW.cond (ht := (fun hc => ?_)) (hf := (fun hc => ?_)) <;> (try (with_reducible first | exact absurd hc Bool.false_ne_true | exact absurd hc.symm Bool.false_ne_true)) <;> (try simp only [decide_eq_true_eq, decide_eq_false_iff_not, Int.ofNat_inj, Bool.not_eq_true', Bool.not_eq_false', Int.not_lt, Int.not_le] at hc) <;> (try (exfalso; omega)) <;> (try (exact absurd hc (by decide)))) | refine AW.ret (h := ?_) | refine AW.exit (h := ?_)) | (first | refine t_normal ?_ | refine t_exit ?_ | refine b_exit ?_) | (refine d_post (h := ?_) ; first | refine p_ret1 rfl (h := ?_)) | fail)
        all_goals rfl
    · have hN := jn_no ins outs h fun hP => ho hP.2.1
      rw [decide_eq_false ho] at hB
      rw [← hN]
      simp only [envOf, Nat.zero_add, Nat.reduceAdd]
      repeat' (first | (refine d_AOs (h := ?_) ; first | refine o_move (h := ?_) | refine o_assign (h := ?_) | refine AOs.nil (h := ?_) | (refine d_grd (h := ?_) ; first | refine g_yes (h := ?_)) | refine o_load (hv := jn_ld0) (h := ?_) | refine o_load (hv := jn_ld1) (h := ?_) | refine o_call (hc := (hA _)) (h := ?_) | refine o_call (hc := (hB _)) (h := ?_) | refine o_field (h := ?_) | refine o_nil (h := ?_) | refine o_pick (h := ?_) | refine o_not (h := ?_)) | (refine d_AW (h := ?_) ; first | refine AW.seq (h := ?_) | refine AW.region (h := ?_) | (refine AW.cond (ht := (fun hc => ?_)) (hf := (fun hc => ?_)) <;> (try (with_reducible first | exact absurd hc Bool.false_ne_true | exact absurd hc.symm Bool.false_ne_true)) <;> (try simp only [decide_eq_true_eq, decide_eq_false_iff_not, Int.ofNat_inj, Bool.not_eq_true', Bool.not_eq_false', Int.not_lt, Int.not_le] at hc) <;> (try (exfalso; omega)) <;> (try (exact absurd hc (by decide)))) | refine AW.ret (h := ?_)) | (first | refine t_normal ?_ | refine t_ret ?_) | (refine d_post (h := ?_) ; first | refine p_ret1 rfl (h := ?_)) | fail)
      all_goals first | rfl | (exfalso; simp at hc; done)
  · have hN := jn_no ins outs h fun hP => hi hP.1
    rw [decide_eq_false hi] at hA
    rw [← hN]
    simp only [envOf, Nat.zero_add, Nat.reduceAdd]
    repeat' (first | (refine d_AOs (h := ?_) ; first | refine o_move (h := ?_) | refine o_assign (h := ?_) | refine AOs.nil (h := ?_) | (refine d_grd (h := ?_) ; first | refine g_no (h := ?_)) | refine o_load (hv := jn_ld0) (h := ?_) | refine o_call (hc := (hA _)) (h := ?_) | refine o_field (h := ?_) | refine o_nil (h := ?_) | refine o_pick (h := ?_) | refine o_not (h := ?_)) | (refine d_AW (h := ?_) ; first | refine AW.seq (h := ?_) | refine AW.region (h := ?_) | (refine AW.cond (ht := (fun hc => ?_)) (hf := (fun hc => ?_)) <;> (try (with_reducible first | exact absurd hc Bool.false_ne_true | exact absurd hc.symm Bool.false_ne_true)) <;> (try simp only [decide_eq_true_eq, decide_eq_false_iff_not, Int.ofNat_inj, Bool.not_eq_true', Bool.not_eq_false', Int.not_lt, Int.not_le] at hc) <;> (try (exfalso; omega)) <;> (try (exact absurd hc (by decide)))) | refine AW.ret (h := ?_)) | (first | refine t_normal ?_ | refine t_ret ?_) | (refine d_post (h := ?_) ; first | refine p_ret1 rfl (h := ?_)) | fail)
    all_goals first | rfl | (exfalso; simp at hc; done)
end
end Go.Proofs.Ytjghdagcmombnaa
