/- Junctions: plain facts of what is sent and near. -/
import Derived.Test.YtjghdagcmombnaaGc
import Derived.Test.YtjghdagcmombnaaGe
import Derived.Test.YtjghdagcmombnaaGh
import Derived.Test.YtjghdagcmombnaaHb
import Derived.Test.YtjghdagcmombnaaNl

namespace Go.Proofs.Ytjghdagcmombnaa
open Go.RowKit
attribute [local irreducible] AW AOs AO AQ AQW thenA inBlockA postA ACalls Pure
set_option linter.unusedSimpArgs false
set_option linter.unusedVariables false
set_option linter.unusedSectionVars false

theorem fin_nan {a : Nat} (h : fin32 a = true) : fnan .f32 a = false := by
  unfold fin32 at h
  unfold fnan
  split at h
  · rename_i e; rw [e]; rfl
  · cases h
theorem xor_31 (a : Nat) : (a ^^^ 2147483648) % 2147483648 = a % 2147483648 ∧ (a ^^^ 2147483648) / 2147483648 % 2 = 1 - a / 2147483648 % 2 := by
  have e1 : (2147483648 : Nat) = 2 ^ 31 := by decide
  have h1 := Nat.xor_mod_two_pow (a := a) (b := 2 ^ 31) (n := 31)
  have h2 := Nat.xor_div_two_pow (a := a) (b := 2 ^ 31) (n := 31)
  rw [Nat.mod_self, Nat.xor_zero] at h1
  rw [Nat.div_self (by decide)] at h2
  rw [e1]
  refine ⟨h1, ?_⟩
  rw [h2]
  have h3 := Nat.xor_mod_two_pow (a := a / 2 ^ 31) (b := 1) (n := 1)
  rw [show (2 : Nat) ^ 1 = 2 from rfl] at h3
  rw [h3]
  have h4 : a / 2 ^ 31 % 2 = 0 ∨ a / 2 ^ 31 % 2 = 1 := by omega
  rcases h4 with h | h <;> rw [h] <;> rfl
theorem dec_neg (a : Nat) : FloatKind.f32.decode (a ^^^ 2147483648) = (FloatKind.f32.decode a).opposite := by
  obtain ⟨h1, h2⟩ := xor_31 a
  have hs : FloatKind.f32.format.signWeight = 2147483648 := by decide
  have hb : ((a ^^^ 2147483648) / 2147483648 % 2 == 1) = !(a / 2147483648 % 2 == 1) := by
    rw [h2]
    have h4 : a / 2147483648 % 2 = 0 ∨ a / 2147483648 % 2 = 1 := by omega
    rcases h4 with h | h <;> rw [h] <;> rfl
  show FloatKind.f32.format.read (a ^^^ 2147483648) = (FloatKind.f32.format.read a).opposite
  unfold Ieee.Format.read
  simp only [hs, h1, hb]
  split
  · rfl
  · split
    · rfl
    · split <;> rfl
theorem fneg_fv {a : Nat} (h : fin32 a = true) : fin32 (fneg .f32 a) = true ∧ fv (fneg .f32 a) = -fv a := by
  have hd := dec_neg a
  have hn : fnan .f32 (a ^^^ 2147483648) = false := by
    unfold fnan; rw [hd]
    unfold fin32 at h
    split at h
    · rename_i e; rw [e]; rfl
    · cases h
  have e : fneg .f32 a = a ^^^ 2147483648 := cf_of_not (k := .f32) hn
  rw [e]
  unfold fin32 at h
  unfold fin32 fv
  rw [hd]
  split at h
  · rename_i s m p e
    rw [e]
    refine ⟨rfl, ?_⟩
    simp only [signed_sg, Ieee.Datum.opposite]
    cases s <;> simp [sg]
  · cases h
theorem far_le {d z : Nat} (hd : fin32 d = true) (hz : fin32 z = true) (h1 : fv d ≤ fv z) (h2 : -fv d ≤ fv z) : fle .f32 (farG d) z = true := by
  unfold farG
  obtain ⟨n1, n2⟩ := fneg_fv hd
  split
  · rw [fle_fv n1 hz, n2]; exact decide_eq_true h2
  · rw [fle_fv hd hz]; exact decide_eq_true h1
theorem near_fv {x y z : Nat} (hx : fin32 x = true) (hy : fin32 y = true) (hz : fin32 z = true) (h1 : fv x - fv y ≤ fv z) (h2 : fv y - fv x ≤ fv z) (hb : -(2 ^ 170) ≤ fv x - fv y ∧ fv x - fv y ≤ 2 ^ 170) :
    fnan .f32 (fsub .f32 x y) = false ∧ fle .f32 (farG (fsub .f32 x y)) z = true := by
  have r1 := rnd_sub' hx hy hb.1 hb.2
  obtain ⟨n1, n2⟩ := fneg_fv hz
  refine ⟨fin_nan r1.1, far_le r1.1 hz (r1.le_of hz (by simp; omega)) ?_⟩
  have := r1.ge_of n1 (by rw [n2]; simp; omega)
  rw [n2] at this
  omega
theorem same_near {x z : Nat} (hx : fin32 x = true) (hz : nn z) : fnan .f32 (fsub .f32 x x) = false ∧ fle .f32 (farG (fsub .f32 x x)) z = true := by
  have := nn_bd hz
  exact near_fv hx hx hz.1 (by omega) (by omega) (by omega)

theorem pow290 : (2 : Int) ^ 145 * 2 ^ 145 = 2 ^ 141 * 2 ^ 149 := by decide +kernel
theorem mul_grid16 (a r : Int) : a * 2 ^ 145 * (r * 2 ^ 145) = a * r * 2 ^ 141 * 2 ^ 149 := by
  have h := pow290
  generalize (2 : Int) ^ 145 = P at *
  generalize (2 : Int) ^ 141 = Q at *
  generalize (2 : Int) ^ 149 = R at *
  calc a * P * (r * P) = a * r * (P * P) := by ac_rfl
    _ = a * r * (Q * R) := by rw [h]
    _ = a * r * Q * R := by ac_rfl
theorem prod_bd16 {a r : Int} (ha : 0 ≤ a ∧ a ≤ 32) (hr : 0 ≤ r ∧ r ≤ 16) : 0 ≤ a * r ∧ a * r ≤ 512 := by
  refine ⟨Int.mul_nonneg ha.1 hr.1, ?_⟩
  have h1 : a * r ≤ 32 * r := Int.mul_le_mul_of_nonneg_right ha.2 hr.1
  omega
/-- What is sent one way: exact. -/
theorem mul_g16 {x y : Nat} {a r : Int} (hx : nn x ∧ fv x = a * 2 ^ 145) (hy : nn y ∧ fv y = r * 2 ^ 145) (ha : 0 ≤ a ∧ a ≤ 32) (hr : 0 ≤ r ∧ r ≤ 16) : nn (fmul .f32 x y) ∧ fv (fmul .f32 x y) = a * r * 2 ^ 141 := by
  have hb := prod_bd16 ha hr
  have hm : fv x * fv y ≤ 2 ^ 170 * U := by
    rw [hx.2, hy.2, mul_grid16]
    have h1 : a * r * 2 ^ 141 ≤ 2 ^ 170 := by omega
    have h2 := Int.mul_le_mul_of_nonneg_right h1 (show (0 : Int) ≤ 2 ^ 149 by decide +kernel)
    rw [U_val]; exact h2
  obtain ⟨h1, h2⟩ := nn_mul hx.1 hy.1 hm
  refine ⟨h1, h2.exact (z := a * r) (e := 141) (by omega) (by decide) ?_⟩
  rw [hx.2, hy.2, mul_grid16]; rfl
/-- Numbers in sixteenths, nothing beyond the ways in. -/
structure SnDr (n : Nat) (s : Nat → Nat) (V : Nat → Int) : Prop where
  bd : ∀ q, 0 ≤ V q ∧ V q ≤ 32
  cell : ∀ q, s q = shw (V q)
  zero : ∀ q, n ≤ q → V q = 0
theorem snDr_p6 (n : Nat) (cd : Nat → Int) (m : Nat) : ∃ V, SnDr m (p6F n cd m) V := by
  refine ⟨fun q => if q < m then pkV n cd (plS n cd (0, 0) q) 33 else 0, fun q => ?_, fun q => ?_, fun q hq => if_neg (by omega)⟩
  · have := pkV_bd (n := n) (cd := cd) (plS n cd (0, 0) q) (m := 33) (by omega)
    show 0 ≤ (if q < m then _ else (0 : Int)) ∧ (if q < m then _ else (0 : Int)) ≤ 32
    split <;> omega
  · show (if q < m then _ else 0) = shw (if q < m then _ else (0 : Int))
    split
    · rfl
    · exact shw_0.symm
section
variable {n o : Nat} {h s : Nat → Nat} {W : Nat → Nat → Int} {V : Nat → Int}
theorem sn_fv (hs : SnDr n s V) (q : Nat) : nn (s q) ∧ fv (s q) = V q * 2 ^ 145 := by
  rw [hs.cell q]; exact shg_fv (hs.bd q)
theorem sn_ok (hs : SnDr n s V) : SnOk n s := ⟨fun q _ => nn_am (sn_fv hs q).1, fun q hq _ => by rw [hs.cell q, hs.zero q hq, shw_0]; exact feq_00⟩
theorem wn_fv (hd : JnDr n o h W) (hs : SnDr n s V) {i k : Nat} (hi : i < 4) (hk : k < 4) : nn (wnF s h (i * 4 + k)) ∧ fv (wnF s h (i * 4 + k)) = V i * W i k * 2 ^ 141 := by
  unfold wnF
  rw [wn_div hk, show 2 + (i * 4 + k) = 2 + i * 4 + k by omega, hd.cell i k hi hk]
  exact mul_g16 (sn_fv hs i) (shg_fv (by have := hd.bd i k; omega)) (hs.bd i) (hd.bd i k)
theorem wn_fin (hd : JnDr n o h W) (hs : SnDr n s V) {q : Nat} (hq : q < 16) : fin32 (wnF s h q) = true := by
  have := (wn_fv hd hs (i := q / 4) (k := q % 4) (by omega) (by omega)).1.1
  rwa [show q / 4 * 4 + q % 4 = q by omega] at this
end
end Go.Proofs.Ytjghdagcmombnaa

/- A filling: stop and begin, the program's. -/
namespace Go.Proofs.Ytjghdagcmombnaa
open Go.RowKit
attribute [local irreducible] AW AOs AO AQ AQW thenA inBlockA postA ACalls Pure
set_option linter.unusedSimpArgs false
set_option linter.unusedVariables false
set_option linter.unusedSectionVars false

theorem fp_none {P : Program} {fn : Func} {s : St} {M : Mem} (hr : fn.results = #[]) (hm : ∃ T, s.m = M ++ T) : postA P fn (fun x M' => x = .tuple #[] ∧ ∃ T, M' = M ++ T) .normal s := by
  have h1 : ResA P fn s (.tuple #[]) := resN (xs := []) (vs := []) hr rfl (by simp) (fun i x v h => by simp at h)
  cases s
  unfold postA
  exact ⟨.tuple #[], h1, rfl, hm⟩
section
variable (n o : Int) (h s t : Nat → Nat)
/-- The ways that an out stops. -/
def stpC (S : FSt) (k q : Nat) : Bool := S.g q && fgt .f32 (jA h q k) 0
def stpS (S : FSt) (k i : Nat) : FSt := ⟨S.f, S.c, fun q => if q < i && stpC h S k q then false else S.g q, fun q => if q < i && stpC h S k q then (k : Int) else S.b q⟩
theorem stp_0 (S : FSt) (k : Nat) : feqS (stpS h S k 0) S := fun q _ => ⟨rfl, rfl, by unfold stpS; simp, by unfold stpS; simp⟩
theorem stp_no {S : FSt} {k i : Nat} (hc : stpC h S k i = false) : feqS (stpS h S k i) (stpS h S k (i + 1)) := fun q _ => by
  refine ⟨rfl, rfl, ?_, ?_⟩
  all_goals show (if _ then _ else _) = if _ then _ else _
  all_goals by_cases e : q = i
  all_goals first | (subst e; rw [hc]; simp; done) | (rw [show decide (q < i) = decide (q < i + 1) from decide_eq_decide.2 (by omega)])
theorem stp_yes {S : FSt} {k i : Nat} (hc : stpC h S k i = true) : feqS { stpS h S k i with g := upd (stpS h S k i).g i false, b := upd (stpS h S k i).b i (k : Int) } (stpS h S k (i + 1)) := fun q _ => by
  refine ⟨rfl, rfl, ?_, ?_⟩
  · show upd _ i false q = if _ then _ else _
    by_cases e : q = i
    · subst e; rw [upd_eq, hc]; simp
    · rw [upd_ne e]
      show (if _ then _ else _) = if _ then _ else _
      rw [show decide (q < i) = decide (q < i + 1) from decide_eq_decide.2 (by omega)]
  · show upd _ i (k : Int) q = if _ then _ else _
    by_cases e : q = i
    · subst e; rw [upd_eq, hc]; simp
    · rw [upd_ne e]
      show (if _ then _ else _) = if _ then _ else _
      rw [show decide (q < i) = decide (q < i + 1) from decide_eq_decide.2 (by omega)]
theorem fi_len {S : FSt} : (tab 46 (fiV n o h s t S)).length = 46 := tab_len _ _
variable {n o h s t}
theorem fiB_congr {S S' : FSt} (hS : feqS S S') : fiB n o h s t S = fiB n o h s t S' := by
  unfold fiB fiV
  rw [fg_congr rfl hS]
variable (n o h s t)
set_option maxHeartbeats 4000000 in
theorem istop (S : FSt) (k : Nat) (hk : k < 4) (j : Nat) (M : Mem) (hj : j < M.length) :
    Mut Try.prog 64 [.pointer (some ⟨j, 0, none⟩), .int .i64 (k : Int)] (M.set j (fiB n o h s t S)) (.tuple #[]) (M.set j (fiB n o h s t (stpS h S k 4))) := by
  refine mut_of Try.func64 Try.ntmps64 rfl rfl (by simp) (by repeat' (first | exact flat_nil | refine flat_tuple ?_ | fail)) (fun hM => by have := hM.set (b := j) (B := fiB n o h s t (stpS h S k 4)) fi_flat; rwa [List.set_set] at this) ?_
  have e0 : fiB n o h s t (stpS h S k 0) = fiB n o h s t S := fiB_congr (stp_0 h S k)
  have hG := fld_G (d := 22) (N := 46) (X := jnJ n o h) (s := s) (t := t) (S := S) rfl
  simp only [envOf, Nat.zero_add, Nat.reduceAdd]
  repeat' (first | (refine d_AOs (h := ?_) ; first | refine o_move (h := ?_) | refine AOs.nil (h := ?_) | refine o_load (hv := hG) (h := ?_) | refine o_field (h := ?_) | refine o_nil (h := ?_)) | (refine d_AW (h := ?_) ; first | refine AW.seq (h := ?_) | refine AW.region (h := ?_) | refine AW.block (h := ?_)) | (first | refine t_normal ?_) | fail)
  refine AW.loopN [0, 1, 9, 10] (fun kk st => ∃ i : Nat, i + kk = 4 ∧ st = ⟨39, [(0, .pointer (some ⟨j, 0, none⟩)), (1, .int .i64 (k : Int)), (9, .agg (tab 4 fun q => .bool (S.g q)).toArray), (10, .int .i64 (i : Int))], M.set j (fiB n o h s t (stpS h S k i))⟩) 4 ⟨0, by omega, by rw [e0]; rfl⟩ ?_
  clear e0 hG
  rintro kk st ⟨i, hi, rfl⟩
  by_cases hi4 : i < 4
  · obtain ⟨J, hJ⟩ : ∃ J, J = tab 46 (fiV n o h s t (stpS h S k i)) := ⟨_, rfl⟩
    have eB : fiB n o h s t (stpS h S k i) = ⟨J, none, true⟩ := by rw [hJ]
    have hA : ldA .one (2 + i * 4 + k) J = some (.float .f32 (jA h i k)) := by rw [hJ]; exact fi_jA hi4 hk
    have hL : 46 ≤ J.length := by rw [hJ, fi_len]; exact Nat.le_refl _
    cases hC : stpC h S k i
    · have eN : fiB n o h s t (stpS h S k (i + 1)) = ⟨J, none, true⟩ := by rw [← eB]; exact fiB_congr (fun q hq => by have := stp_no h hC q hq; exact ⟨this.1.symm, this.2.1.symm, this.2.2.1.symm, this.2.2.2.symm⟩)
      rw [eB]
      clear hJ eB
      repeat' (first | (refine d_AOs (h := ?_) ; first | refine o_move (h := ?_) | refine o_assign (h := ?_) | refine AOs.nil (h := ?_) | (refine d_bin (h := ?_) ; first | refine o_addS (h := ?_) | refine o_lss (h := ?_) | refine o_fgt (h := ?_)) | (refine d_grd (h := ?_) ; first | refine g_yes (h := ?_) | refine g_no (h := ?_) | (refine g_true (h1 := (fun hg => ?_)) (h0 := (fun hg => ?_)) <;> (try rw [hg]) <;> (try simp only [decide_eq_true_eq, decide_eq_false_iff_not, Int.ofNat_inj, Bool.not_eq_true', Bool.not_eq_false', Int.not_lt, Int.not_le] at hg) <;> (try (exfalso; omega)) <;> (try (exact absurd hg (by decide))))) | refine o_load (hv := hA) (h := ?_) | refine o_at (h := ?_) | refine o_field (h := ?_) | refine o_nil (h := ?_) | refine o_pick (h := ?_) | refine o_ix (h := ?_)) | (refine d_AW (h := ?_) ; first | refine AW.seq (h := ?_) | refine AW.region (h := ?_) | refine AW.open_ (h := ?_) | (refine AW.cond (ht := (fun hc => ?_)) (hf := (fun hc => ?_)) <;> (try (with_reducible first | exact absurd hc Bool.false_ne_true | exact absurd hc.symm Bool.false_ne_true)) <;> (try simp only [decide_eq_true_eq, decide_eq_false_iff_not, Int.ofNat_inj, Bool.not_eq_true', Bool.not_eq_false', Int.not_lt, Int.not_le] at hc) <;> (try (exfalso; omega)) <;> (try (exact absurd hc (by decide)))) | refine AW.block (h := ?_) | refine AW.skip (h := ?_)) | (first | refine t_normal ?_ | refine b_normal ?_) | (refine d_AQ (h := ?_) ; first | refine q_step (h2 := ?_)) | fail)
      all_goals first | exact ⟨kk - 1, by omega, i + 1, by omega, by rw [eN]; rfl⟩ | (exfalso; unfold stpC at hC; simp_all; done)
    · have hg1 : S.g i = true := by unfold stpC at hC; simp_all
      have hg2 : fgt .f32 (jA h i k) 0 = true := by unfold stpC at hC; simp_all
      have eN : fiB n o h s t (stpS h S k (i + 1)) = ⟨tab 46 (fiV n o h s t { stpS h S k i with g := upd (stpS h S k i).g i false, b := upd (stpS h S k i).b i (k : Int) }), none, true⟩ := by rw [← fiB_congr (stp_yes h hC)]
      have s1 : J.take (38 + i) ++ cellsA (.bool false) ++ J.drop (38 + i + (cellsA (.bool false)).length) = tab 46 (fiV n o h s t { stpS h S k i with g := upd (stpS h S k i).g i false }) := by rw [hJ]; exact fst_g rfl hi4 rfl
      have s2 : J.take (42 + i) ++ cellsA (.int .i64 (k : Int)) ++ J.drop (42 + i + (cellsA (.int .i64 (k : Int))).length) = tab 46 (fiV n o h s t { stpS h S k i with b := upd (stpS h S k i).b i (k : Int) }) := by rw [hJ]; exact fst_b rfl hi4 rfl
      obtain ⟨J1, hJ1⟩ : ∃ J1, J1 = tab 46 (fiV n o h s t { stpS h S k i with g := upd (stpS h S k i).g i false }) := ⟨_, rfl⟩
      obtain ⟨J2, hJ2⟩ : ∃ J2, J2 = tab 46 (fiV n o h s t { stpS h S k i with b := upd (stpS h S k i).b i (k : Int) }) := ⟨_, rfl⟩
      obtain ⟨J3, hJ3⟩ : ∃ J3, J3 = tab 46 (fiV n o h s t { stpS h S k i with g := upd (stpS h S k i).g i false, b := upd (stpS h S k i).b i (k : Int) }) := ⟨_, rfl⟩
      have s3 : J1.take (42 + i) ++ cellsA (.int .i64 (k : Int)) ++ J1.drop (42 + i + (cellsA (.int .i64 (k : Int))).length) = J3 := by rw [hJ1, hJ3]; exact fst_b rfl hi4 rfl
      have s4 : J2.take (38 + i) ++ cellsA (.bool false) ++ J2.drop (38 + i + (cellsA (.bool false)).length) = J3 := by rw [hJ2, hJ3]; exact fst_g rfl hi4 rfl
      have o1 : 38 + i + 1 ≤ J.length := by omega
      have o2 : 42 + i + 1 ≤ J.length := by omega
      have o3 : 42 + i + 1 ≤ J1.length := by rw [hJ1, fi_len]; omega
      have o4 : 38 + i + 1 ≤ J2.length := by rw [hJ2, fi_len]; omega
      rw [← hJ1] at s1
      rw [← hJ2] at s2
      rw [← hJ3] at eN
      rw [eB]
      clear hJ hJ1 hJ2 hJ3 eB hC
      repeat' (first | (refine d_AOs (h := ?_) ; first | refine o_move (h := ?_) | refine o_assign (h := ?_) | refine AOs.nil (h := ?_) | (refine d_bin (h := ?_) ; first | refine o_fgtC (h := ?_) | refine o_addS (h := ?_) | refine o_lss (h := ?_)) | (refine d_grd (h := ?_) ; first | refine g_yes (h := ?_) | refine g_no (h := ?_) | (refine g_true (h1 := (fun hg => ?_)) (h0 := (fun hg => ?_)) <;> (try rw [hg]) <;> (try simp only [decide_eq_true_eq, decide_eq_false_iff_not, Int.ofNat_inj, Bool.not_eq_true', Bool.not_eq_false', Int.not_lt, Int.not_le] at hg) <;> (try (exfalso; omega)) <;> (try (exact absurd hg (by decide))))) | refine o_load (hv := hA) (h := ?_) | refine o_at (h := ?_) | refine o_field (h := ?_) | refine o_nil (h := ?_) | refine o_pick (h := ?_) | refine o_ix (h := ?_)) | (refine d_AW (h := ?_) ; first | refine AW.seq (h := ?_) | refine AW.region (h := ?_) | refine AW.openW2M (M.set j ⟨J, none, true⟩) 8 12 (M.set j ⟨J1, none, true⟩) (M.set j ⟨J2, none, true⟩) (M.set j ⟨J3, none, true⟩) (h := ?_) | (refine AW.cond (ht := (fun hc => ?_)) (hf := (fun hc => ?_)) <;> (try (with_reducible first | exact absurd hc Bool.false_ne_true | exact absurd hc.symm Bool.false_ne_true)) <;> (try simp only [decide_eq_true_eq, decide_eq_false_iff_not, Int.ofNat_inj, Bool.not_eq_true', Bool.not_eq_false', Int.not_lt, Int.not_le] at hc) <;> (try (exfalso; omega)) <;> (try (exact absurd hc (by decide)))) | refine AW.block (h := ?_) | refine AW.skip (h := ?_)) | (first | refine t_normal ?_ | refine b_normal ?_) | (refine d_W (h := ?_) ; first | refine w2_stepN (h1 := by (simp only [ObK, aft, cond_true, cond_false]; repeat' (first | refine And.intro ?_ ?_ | ((refine d_AOs ?_; first | refine o_store (ho := by first | exact o1 | exact o2 | exact o3 | exact o4) (hcs := by first | exact s1 | exact s2 | exact s3 | exact s4) (h := ?_)) <;> exact AOs.nil rfl)))) (h2 := ?_) | refine w2_nil (h := ?_) | refine w2_step (h2 := ?_)) | fail)
      all_goals first | exact ⟨kk - 1, by omega, i + 1, by omega, by rw [eN]; rfl⟩ | (exfalso; simp_all; done)
  · obtain rfl : i = 4 := by omega
    repeat' (first | (refine d_AOs (h := ?_) ; first | refine AOs.nil (h := ?_) | (refine d_bin (h := ?_) ; first | refine o_lss (h := ?_))) | (refine d_AW (h := ?_) ; first | refine AW.seq (h := ?_) | refine AW.region (h := ?_) | (refine AW.cond (ht := (fun hc => ?_)) (hf := (fun hc => ?_)) <;> (try (with_reducible first | exact absurd hc Bool.false_ne_true | exact absurd hc.symm Bool.false_ne_true)) <;> (try simp only [decide_eq_true_eq, decide_eq_false_iff_not, Int.ofNat_inj, Bool.not_eq_true', Bool.not_eq_false', Int.not_lt, Int.not_le] at hc) <;> (try (exfalso; omega)) <;> (try (exact absurd hc (by decide)))) | refine AW.exit (h := ?_)) | (first | refine t_normal ?_ | refine t_exit ?_ | refine b_exit ?_) | fail)
    exact fp_none rfl ⟨[], (List.append_nil _).symm⟩
end
end Go.Proofs.Ytjghdagcmombnaa
