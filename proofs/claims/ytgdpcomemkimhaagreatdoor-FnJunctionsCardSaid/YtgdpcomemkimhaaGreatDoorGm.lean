/- Junctions: plain facts of what is sent, shared and near. -/
import Derived.Test.YtgdpcomemkimhaaGreatDoorGb
import Derived.Test.YtgdpcomemkimhaaGreatDoorGe
import Derived.Test.YtgdpcomemkimhaaGreatDoorGh
import Derived.Test.YtgdpcomemkimhaaGreatDoorGi
import Derived.Test.YtgdpcomemkimhaaGreatDoorOpW
import Derived.DeepKeys

namespace Go.Proofs.YtgdpcomemkimhaaGreatDoor
open Go.RowKit
attribute [local irreducible] AW AOs AO AQ AQW thenA inBlockA postA ACalls Pure
set_option linter.unusedSimpArgs false
set_option linter.unusedVariables false
set_option linter.unusedSectionVars false

theorem fin_nan {a : Nat} (h : fin32 a = true) : fnan .f32 a = false := by
  unfold fin32 at h
  unfold fnan
  split at h
  · rename_i e; rw [e]; rfl
  · cases h
theorem xor_31 (a : Nat) : (a ^^^ 2147483648) % 2147483648 = a % 2147483648 ∧ (a ^^^ 2147483648) / 2147483648 % 2 = 1 - a / 2147483648 % 2 := by
  have e1 : (2147483648 : Nat) = 2 ^ 31 := by decide
  have h1 := Nat.xor_mod_two_pow (a := a) (b := 2 ^ 31) (n := 31)
  have h2 := Nat.xor_div_two_pow (a := a) (b := 2 ^ 31) (n := 31)
  rw [Nat.mod_self, Nat.xor_zero] at h1
  rw [Nat.div_self (by decide)] at h2
  rw [e1]
  refine ⟨h1, ?_⟩
  rw [h2]
  have h3 := Nat.xor_mod_two_pow (a := a / 2 ^ 31) (b := 1) (n := 1)
  rw [show (2 : Nat) ^ 1 = 2 from rfl] at h3
  rw [h3]
  have h4 : a / 2 ^ 31 % 2 = 0 ∨ a / 2 ^ 31 % 2 = 1 := by omega
  rcases h4 with h | h <;> rw [h] <;> rfl
theorem dec_neg (a : Nat) : FloatKind.f32.decode (a ^^^ 2147483648) = (FloatKind.f32.decode a).opposite := by
  obtain ⟨h1, h2⟩ := xor_31 a
  have hs : FloatKind.f32.format.signWeight = 2147483648 := by decide
  have hb : ((a ^^^ 2147483648) / 2147483648 % 2 == 1) = !(a / 2147483648 % 2 == 1) := by
    rw [h2]
    have h4 : a / 2147483648 % 2 = 0 ∨ a / 2147483648 % 2 = 1 := by omega
    rcases h4 with h | h <;> rw [h] <;> rfl
  show FloatKind.f32.format.read (a ^^^ 2147483648) = (FloatKind.f32.format.read a).opposite
  unfold Ieee.Format.read
  simp only [hs, h1, hb]
  split
  · rfl
  · split
    · rfl
    · split <;> rfl
theorem fneg_fv {a : Nat} (h : fin32 a = true) : fin32 (fneg .f32 a) = true ∧ fv (fneg .f32 a) = -fv a := by
  have hd := dec_neg a
  have hn : fnan .f32 (a ^^^ 2147483648) = false := by
    unfold fnan; rw [hd]
    unfold fin32 at h
    split at h
    · rename_i e; rw [e]; rfl
    · cases h
  have e : fneg .f32 a = a ^^^ 2147483648 := cf_of_not (k := .f32) hn
  rw [e]
  unfold fin32 at h
  unfold fin32 fv
  rw [hd]
  split at h
  · rename_i s m p e
    rw [e]
    refine ⟨rfl, ?_⟩
    simp only [signed_sg, Ieee.Datum.opposite]
    cases s <;> simp [sg]
  · cases h
theorem far_le {d z : Nat} (hd : fin32 d = true) (hz : fin32 z = true) (h1 : fv d ≤ fv z) (h2 : -fv d ≤ fv z) : fle .f32 (farG d) z = true := by
  unfold farG
  obtain ⟨n1, n2⟩ := fneg_fv hd
  split
  · rw [fle_fv n1 hz, n2]; exact decide_eq_true h2
  · rw [fle_fv hd hz]; exact decide_eq_true h1
theorem near_fv {x y z : Nat} (hx : fin32 x = true) (hy : fin32 y = true) (hz : fin32 z = true) (h1 : fv x - fv y ≤ fv z) (h2 : fv y - fv x ≤ fv z) (hb : -(2 ^ 170) ≤ fv x - fv y ∧ fv x - fv y ≤ 2 ^ 170) :
    fnan .f32 (fsub .f32 x y) = false ∧ fle .f32 (farG (fsub .f32 x y)) z = true := by
  have r1 := rnd_sub' hx hy hb.1 hb.2
  obtain ⟨n1, n2⟩ := fneg_fv hz
  refine ⟨fin_nan r1.1, far_le r1.1 hz (r1.le_of hz (by simp; omega)) ?_⟩
  have := r1.ge_of n1 (by rw [n2]; simp; omega)
  rw [n2] at this
  omega
theorem same_near {x z : Nat} (hx : fin32 x = true) (hz : nn z) : fnan .f32 (fsub .f32 x x) = false ∧ fle .f32 (farG (fsub .f32 x x)) z = true := by
  have := nn_bd hz
  exact near_fv hx hx hz.1 (by omega) (by omega) (by omega)

theorem pow290 : (2 : Int) ^ 145 * 2 ^ 145 = 2 ^ 141 * 2 ^ 149 := by decide +kernel
theorem mul_grid16 (a r : Int) : a * 2 ^ 145 * (r * 2 ^ 145) = a * r * 2 ^ 141 * 2 ^ 149 := by
  have h := pow290
  generalize (2 : Int) ^ 145 = P at *
  generalize (2 : Int) ^ 141 = Q at *
  generalize (2 : Int) ^ 149 = R at *
  calc a * P * (r * P) = a * r * (P * P) := by ac_rfl
    _ = a * r * (Q * R) := by rw [h]
    _ = a * r * Q * R := by ac_rfl
theorem prod_bd16 {a r : Int} (ha : 0 ≤ a ∧ a ≤ 32) (hr : 0 ≤ r ∧ r ≤ 16) : 0 ≤ a * r ∧ a * r ≤ 512 := by
  refine ⟨Int.mul_nonneg ha.1 hr.1, ?_⟩
  have h1 : a * r ≤ 32 * r := Int.mul_le_mul_of_nonneg_right ha.2 hr.1
  omega
/-- What is sent one way: exact. -/
theorem mul_g16 {x y : Nat} {a r : Int} (hx : nn x ∧ fv x = a * 2 ^ 145) (hy : nn y ∧ fv y = r * 2 ^ 145) (ha : 0 ≤ a ∧ a ≤ 32) (hr : 0 ≤ r ∧ r ≤ 16) : nn (fmul .f32 x y) ∧ fv (fmul .f32 x y) = a * r * 2 ^ 141 := by
  have hb := prod_bd16 ha hr
  have hm : fv x * fv y ≤ 2 ^ 170 * U := by
    rw [hx.2, hy.2, mul_grid16]
    have h1 : a * r * 2 ^ 141 ≤ 2 ^ 170 := by omega
    have h2 := Int.mul_le_mul_of_nonneg_right h1 (show (0 : Int) ≤ 2 ^ 149 by decide +kernel)
    rw [U_val]; exact h2
  obtain ⟨h1, h2⟩ := nn_mul hx.1 hy.1 hm
  refine ⟨h1, h2.exact (z := a * r) (e := 141) (by omega) (by decide) ?_⟩
  rw [hx.2, hy.2, mul_grid16]; rfl
/-- Numbers in sixteenths, nothing beyond the ways in. -/
structure SnDr (n : Nat) (s : Nat → Nat) (V : Nat → Int) : Prop where
  bd : ∀ q, 0 ≤ V q ∧ V q ≤ 32
  cell : ∀ q, s q = shw (V q)
  zero : ∀ q, n ≤ q → V q = 0
theorem snDr_p6 (n : Nat) (cd : Nat → Int) (m : Nat) : ∃ V, SnDr m (p6F n cd m) V := by
  refine ⟨fun q => if q < m then pkV n cd (plS n cd (0, 0) q) 33 else 0, fun q => ?_, fun q => ?_, fun q hq => if_neg (by omega)⟩
  · have := pkV_bd (n := n) (cd := cd) (plS n cd (0, 0) q) (m := 33) (by omega)
    show 0 ≤ (if q < m then _ else (0 : Int)) ∧ (if q < m then _ else (0 : Int)) ≤ 32
    split <;> omega
  · show (if q < m then _ else 0) = shw (if q < m then _ else (0 : Int))
    split
    · rfl
    · exact shw_0.symm
section
variable {n o : Nat} {h s : Nat → Nat} {W : Nat → Nat → Int} {V : Nat → Int}
theorem sn_fv (hs : SnDr n s V) (q : Nat) : nn (s q) ∧ fv (s q) = V q * 2 ^ 145 := by
  rw [hs.cell q]; exact shg_fv (hs.bd q)
theorem sn_ok (hs : SnDr n s V) : SnOk n s := ⟨fun q _ => nn_am (sn_fv hs q).1, fun q hq _ => by rw [hs.cell q, hs.zero q hq, shw_0]; exact feq_00⟩
theorem wn_fv (hd : JnDr n o h W) (hs : SnDr n s V) {i k : Nat} (hi : i < 4) (hk : k < 4) : nn (wnF s h (i * 4 + k)) ∧ fv (wnF s h (i * 4 + k)) = V i * W i k * 2 ^ 141 := by
  unfold wnF
  rw [wn_div hk, show 2 + (i * 4 + k) = 2 + i * 4 + k by omega, hd.cell i k hi hk]
  exact mul_g16 (sn_fv hs i) (shg_fv (by have := hd.bd i k; omega)) (hs.bd i) (hd.bd i k)
theorem wn_fin (hd : JnDr n o h W) (hs : SnDr n s V) {q : Nat} (hq : q < 16) : fin32 (wnF s h q) = true := by
  have := (wn_fv hd hs (i := q / 4) (k := q % 4) (by omega) (by omega)).1.1
  rwa [show q / 4 * 4 + q % 4 = q by omega] at this
theorem vw_bd (hd : JnDr n o h W) (hs : SnDr n s V) (i k : Nat) : 0 ≤ V i * W i k ∧ V i * W i k ≤ 512 := prod_bd16 (hs.bd i) (hd.bd i k)
theorem vw_row (hd : JnDr n o h W) (hs : SnDr n s V) (i : Nat) : V i * W i 0 + V i * W i 1 + V i * W i 2 + V i * W i 3 = V i * 16 := by
  rw [← Int.mul_add, ← Int.mul_add, ← Int.mul_add]
  by_cases hi : i < n
  · rw [hd.sum i hi]
  · rw [hs.zero i (by omega)]; simp
theorem rw_eq (hd : JnDr n o h W) (hs : SnDr n s V) {i : Nat} (hi : i < 4) : rwF (wnF s h) i = s i := by
  have h1 := sum_unit (g := fun k => wnF s h (i * 4 + k)) (a := fun k => V i * W i k) (e := 141) (by decide) (fun k hk => wn_fv hd hs hi hk) (fun k => by have := vw_bd hd hs i k; omega)
  have h2 := sn_fv hs i
  refine nn_eq h1.1 h2.1 ?_
  show fv (jSum (fun k => wnF s h (i * 4 + k)) 3) = _
  rw [h1.2, h2.2, vw_row hd hs i, Int.mul_assoc]; rfl
theorem cl_fv (hd : JnDr n o h W) (hs : SnDr n s V) {k : Nat} (hk : k < 4) : nn (clF (wnF s h) k) ∧ fv (clF (wnF s h) k) = (V 0 * W 0 k + V 1 * W 1 k + V 2 * W 2 k + V 3 * W 3 k) * 2 ^ 141 := by
  have h1 := sum_unit (g := fun i => wnF s h (i * 4 + k)) (a := fun i => V i * W i k) (e := 141) (by decide) (fun i hi => wn_fv hd hs hi hk) (fun i => by have := vw_bd hd hs i k; omega)
  have e : clF (wnF s h) k = jSum (fun i => wnF s h (i * 4 + k)) 3 := by
    show _ = fadd .f32 (fadd .f32 (fadd .f32 (wnF s h (0 * 4 + k)) (wnF s h (1 * 4 + k))) (wnF s h (2 * 4 + k))) (wnF s h (3 * 4 + k))
    rw [Nat.zero_mul, Nat.zero_add]; rfl
  rw [e]; exact h1
theorem tot_eq (hd : JnDr n o h W) (hs : SnDr n s V) : jSum (clF (wnF s h)) 3 = jSum s 3 ∧ nn (jSum s 3) := by
  have r0 := vw_row hd hs 0
  have r1 := vw_row hd hs 1
  have r2 := vw_row hd hs 2
  have r3 := vw_row hd hs 3
  have b := fun i k => vw_bd hd hs i k
  have hb := fun q => hs.bd q
  have s1 := add_unit (e := 141) (cl_fv hd hs (k := 0) (by omega)) (cl_fv hd hs (k := 1) (by omega)) (by decide) (by have := b 0 0; have := b 0 1; have := b 1 0; have := b 1 1; have := b 2 0; have := b 2 1; have := b 3 0; have := b 3 1; omega)
  have c1 := b 0 0; have c2 := b 1 0; have c3 := b 2 0; have c4 := b 3 0
  have c5 := b 0 1; have c6 := b 1 1; have c7 := b 2 1; have c8 := b 3 1
  have c9 := b 0 2; have c10 := b 1 2; have c11 := b 2 2; have c12 := b 3 2
  have c13 := b 0 3; have c14 := b 1 3; have c15 := b 2 3; have c16 := b 3 3
  have v0 := hb 0; have v1 := hb 1; have v2 := hb 2; have v3 := hb 3
  have s2 := add_unit (e := 141) s1 (cl_fv hd hs (k := 2) (by omega)) (by decide) (by omega)
  have s3 := add_unit (e := 141) s2 (cl_fv hd hs (k := 3) (by omega)) (by decide) (by omega)
  have t := sum_unit (g := s) (a := V) (e := 145) (by decide) (fun q _ => sn_fv hs q) (fun q => by have := hb q; omega)
  refine ⟨nn_eq s3.1 t.1 ?_, t.1⟩
  show fv (fadd .f32 (fadd .f32 (fadd .f32 (clF (wnF s h) 0) (clF (wnF s h) 1)) (clF (wnF s h) 2)) (clF (wnF s h) 3)) = _
  rw [s3.2, t.2]
  omega
theorem c2_fv : nn 990057071 ∧ nn 994352038 ∧ 2 ^ 149 * 2 - fv 990057071 ≤ 2 ^ 149 * 2 - (fv 1065361605 - 2 ^ 149) ∧ 2 ^ 149 - fv 990057071 ≤ fv 1065336439 ∧ fv 990057071 ≤ 2 ^ 149 ∧ fv 994352038 ≤ 2 ^ 149 := by
  refine ⟨⟨by decide +kernel, by decide⟩, ⟨by decide +kernel, by decide⟩, ?_⟩
  decide +kernel
theorem mul_c {c x : Nat} (hc : nn c) (hc1 : fv c ≤ 2 ^ 149) (hx : nn x) (hx1 : fv x ≤ 2 ^ 160) : nn (fmul .f32 c x) := by
  have hU := U_val
  refine (nn_mul hc hx ?_).1
  have h1 : fv c * fv x ≤ 2 ^ 149 * fv x := Int.mul_le_mul_of_nonneg_right hc1 (nn_bd hx)
  rw [U_val]
  have h2 : (2 : Int) ^ 149 * fv x ≤ 2 ^ 149 * 2 ^ 160 := Int.mul_le_mul_of_nonneg_left hx1 (by decide +kernel)
  have h3 : (2 : Int) ^ 149 * 2 ^ 160 ≤ 2 ^ 170 * 2 ^ 149 := by decide +kernel
  exact Int.le_trans h1 (Int.le_trans h2 h3)
/-- The sum of the shares of a valid junction's way in. -/
theorem sum_fin {a b : Nat} {x : Int} (ha : fin32 a = true ∧ 0 ≤ fv a ∧ fv a ≤ x * 2 ^ 149) (hb : isSh b = true) (hx : 0 ≤ x ∧ x ≤ 4) : fin32 (fadd .f32 a b) = true ∧ 0 ≤ fv (fadd .f32 a b) ∧ fv (fadd .f32 a b) ≤ (x + 1) * 2 ^ 149 := by
  have hb' := sh_bd hb
  have hU := U_val
  have r := rnd_add' ha.1 hb'.1 (by omega) (by omega)
  exact ⟨r.1, by have := r.ge (z := 0) (e := 149) (by omega) (by decide) (by simp; omega); omega, r.le (z := x + 1) (e := 149) (by omega) (by decide) (by simp; omega)⟩
theorem vrow_near (hP : jnP (n : Int) (o : Int) h) {i : Nat} (hi : i < n) (hn : n ≤ 4) : fnan .f32 (fsub .f32 (jS h i 4) 1065353216) = false ∧ fle .f32 (farG (fsub .f32 (jS h i 4) 1065353216)) 990057071 = true := by
  obtain ⟨_, _, hr⟩ := hP
  obtain ⟨_, he⟩ := hr i (by omega)
  unfold jE at he
  rw [if_pos (by omega)] at he
  simp only [Bool.and_eq_true] at he
  obtain ⟨⟨g1, g2⟩, _⟩ := he
  have hs : ∀ k, k < 4 → isSh (jA h i k) = true := fun k hk => by
    have := (hr i (by omega)).1 k hk
    unfold jC at this
    simp only [Bool.and_eq_true] at this
    exact this.1
  have hU := U_val
  have h0 := sh_bd (hs 0 (by omega))
  have s1 := sum_fin (x := 1) ⟨h0.1, h0.2.1, by omega⟩ (hs 1 (by omega)) (by omega)
  have s2 := sum_fin s1 (hs 2 (by omega)) (by omega)
  have s3 : fin32 (jS h i 4) = true ∧ 0 ≤ fv (jS h i 4) ∧ fv (jS h i 4) ≤ _ := sum_fin s2 (hs 3 (by omega)) (by omega)
  generalize jS h i 4 = S at *
  obtain ⟨l1, l2, _, _⟩ := row_lim
  rw [fge_fv s3.1 l1] at g1
  rw [fle_fv s3.1 l2] at g2
  have k1 := of_decide_eq_true g1
  have k2 := of_decide_eq_true g2
  obtain ⟨c1, _, c2, c3, c4, _⟩ := c2_fv
  have h1 := fv_one
  exact near_fv s3.1 nn_one.1 c1.1 (by omega) (by omega) (by omega)
end
theorem add_0 : ∀ x : Fin 33, fadd .f32 0 (shw x.val) = shw x.val := by decide +kernel
theorem add_sh0 {x : Int} (h : 0 ≤ x ∧ x ≤ 32) : fadd .f32 0 (shw x) = shw x := by
  have h1 := add_0 ⟨x.toNat, by omega⟩
  have e : ((x.toNat : Nat) : Int) = x := Int.toNat_of_nonneg h.1
  simp only [e] at h1
  exact h1
section
variable {n o : Nat} {h : Nat → Nat}
/-- The junction with another priority. -/
def prH (h : Nat → Nat) (i x : Nat) : Nat → Nat := fun q => if q = 18 + i then x else h q
theorem prH_jA {i x i' k : Nat} (hi : i' < 4) (hk : k < 4) : jA (prH h i x) i' k = jA h i' k := by
  unfold jA prH
  rw [if_neg (by omega)]
theorem prH_ok (hP : jnP (n : Int) (o : Int) h) {i x : Nat} (hi : i < n) (hx : prB x = true) : jnP (n : Int) (o : Int) (prH h i x) := by
  obtain ⟨a, b, c⟩ := hP
  refine ⟨a, b, fun i' hi' => ?_⟩
  obtain ⟨c1, c2⟩ := c i' hi'
  refine ⟨fun k hk => ?_, ?_⟩
  · have := c1 k hk
    unfold jC at this ⊢
    rw [prH_jA hi' hk]; exact this
  · unfold jE at c2 ⊢
    have e4 : jS (prH h i x) i' 4 = jS h i' 4 := by
      show fadd .f32 (fadd .f32 (fadd .f32 (jA _ i' 0) (jA _ i' 1)) (jA _ i' 2)) (jA _ i' 3) = fadd .f32 (fadd .f32 (fadd .f32 (jA h i' 0) (jA h i' 1)) (jA h i' 2)) (jA h i' 3)
      rw [prH_jA hi' (by omega), prH_jA hi' (by omega), prH_jA hi' (by omega), prH_jA hi' (by omega)]
    rw [e4]
    by_cases e : i' = i
    · subst e
      have hp : prH h i' x (18 + i') = x := if_pos rfl
      rw [hp, hx]
      rw [if_pos (by omega)] at c2 ⊢
      simp only [Bool.and_eq_true] at c2 ⊢
      exact ⟨c2.1, trivial⟩
    · have hp : prH h i x (18 + i') = h (18 + i') := if_neg (by omega)
      rw [hp]; exact c2
theorem jn_ldTu {a b : Int} : ldA (.agg 16) 2 (tab 22 (jnJ a b h)) = some (.agg (tab 16 fun q => .float .f32 (h (2 + q))).toArray) := by
  rw [ld_part (by omega)]
  rw [tab_congr (n := 16) (f := fun q => jnJ a b h (2 + q)) (g := fun q => .float .f32 (h (2 + q))) fun q _ => by
    unfold jnJ
    rw [if_neg (by omega), if_neg (by omega)]]
theorem prH_ldT {a b : Int} {i x : Nat} : ldA (.agg 16) 2 (tab 22 (jnJ a b (prH h i x))) = some (.agg (tab 16 fun q => .float .f32 (h (2 + q))).toArray) := by
  rw [jn_ldTu]
  rw [tab_congr (n := 16) (f := fun q => Value.float .f32 (prH h i x (2 + q))) (g := fun q => .float .f32 (h (2 + q))) fun q hq => by unfold prH; rw [if_neg (by omega)]]
theorem prH_ldP {a b : Int} {i x : Nat} (hi : i < 4) : ldA .one (18 + i) (tab 22 (jnJ a b (prH h i x))) = some (.float .f32 x) := by
  rw [jn_ldP hi]
  have hp : prH h i x (18 + i) = x := if_pos rfl
  rw [hp]
theorem stH_at {i e x : Nat} (he : e < o) : stH o h i e x o (2 + i * 4 + e) = x := by
  unfold stH
  rw [if_pos (by omega), show 2 + i * 4 + e - (2 + i * 4) = e by omega]
  unfold tvF
  rw [if_pos rfl]
end
end Go.Proofs.YtgdpcomemkimhaaGreatDoor

/- Equality of arrays of floats with themselves, also of arrays of arrays. No program in sight. -/
namespace Go.Proofs.YtgdpcomemkimhaaGreatDoor
open Go.RowKit
attribute [local irreducible] AW AOs AO AQ AQW thenA inBlockA postA ACalls Pure
set_option linter.unusedSimpArgs false
set_option linter.unusedVariables false
set_option linter.unusedSectionVars false

theorem rig_flat {xs : List Value} (h : ∀ c ∈ xs, ∀ r y, VR r c y → y = c) : ∀ r y, VR r (.agg xs.toArray) y → y = .agg xs.toArray := fun r y hv => by
  obtain ⟨ys, rfl, hl, hx⟩ := hv.agg_inv
  have : ys = xs := List.ext_getElem? fun i => by
    simp only at hl hx
    by_cases hi : i < xs.length
    · have h1 : xs[i]? = some xs[i] := List.getElem?_eq_getElem hi
      have h2 : ys[i]? = some (ys[i]'(by omega)) := List.getElem?_eq_getElem _
      rw [h1, h2, h _ (List.getElem_mem hi) r _ (hx i _ _ h1 h2)]
    · rw [List.getElem?_eq_none (by omega), List.getElem?_eq_none (by omega)]
  rw [this]
theorem rig_float {k : FloatKind} {a : Nat} (h : fnan k a = false) : ∀ r y, VR r (.float k a) y → y = .float k a := fun r y hv => by
  obtain ⟨b, rfl, hc, _⟩ := hv.float_inv
  have h2 : fnan k b = false := by rw [← fnan_cf, hc]; exact h
  rw [cf_of_not h2] at hc
  rw [hc]
theorem tab_rigF {n : Nat} {k : FloatKind} {f : Nat → Nat} (hf : ∀ i, i < n → fnan k (f i) = false) : ∀ r y, VR r (.agg (tab n fun i => Value.float k (f i)).toArray) y → y = .agg (tab n fun i => Value.float k (f i)).toArray :=
  rig_flat fun c hc => by
    obtain ⟨i, hi, rfl⟩ := List.mem_map.1 hc
    exact rig_float (hf i (List.mem_range.1 hi))
theorem items_run {P : Program} {d : Nat} {e : TypeId} {fk k : FloatKind} {n : Nat} {f : Nat → Nat} (hu : P.underlying e = some (.float fk)) (hf : ∀ i, i < n → feq k (f i) (f i) = true) (w : World) :
    ∀ is : List Nat, (∀ i ∈ is, i < n) → (Op.eqItems (d + 1) e 1 (tab n fun i => .float k (f i)).toArray (tab n fun i => .float k (f i)).toArray is).run P w = .ok true w
  | [], _ => by simp [Op.eqItems]
  | i :: is, h => by
    have hi := h i (by simp)
    have hp : (part e (tab n fun i => .float k (f i)).toArray (i * 1)).run P w = .ok (.float k (f i)) w := by
      have hg : (tab n fun i => Value.float k (f i))[i]? = some (.float k (f i)) := tab_get hi
      simp [part, isAgg, run_underlying hu, hg]
    have he : (Op.equalIn (d + 1) e (.float k (f i)) (.float k (f i))).run P w = .ok true w := by
      have := hf i hi
      simp only [Op.equalIn, Sem.run_bind, run_underlying hu, Result.andThen_ok]
      rw [if_pos trivial]
      show Result.ok (Op.floatEq k (f i) (f i)) w = _
      rw [show Op.floatEq k (f i) (f i) = feq k (f i) (f i) from rfl, this]
    simp only [Op.eqItems, Sem.run_bind, hp, he, Result.andThen_ok]
    simpa using items_run hu hf w is fun j hj => h j (by simp [hj])
/-- The type is an array of so many floats, of one or of two kinds of places. -/
def arrF (P : Program) (t : TypeId) (k : Nat) : Bool := match P.underlying t with
  | some (.array n e) => decide (n = k) && (match P.underlying e with | some (.float _) => decide (P.cellsOf e = 1) | _ => false)
  | _ => false
def arrFF (P : Program) (t : TypeId) (k m : Nat) : Bool := match P.underlying t with
  | some (.array n e) => decide (n = k) && decide (P.cellsOf e = m) && arrF P e m
  | _ => false
theorem arrF_run {P : Program} {t : TypeId} {n : Nat} {k : FloatKind} {f : Nat → Nat} {d : Nat} (h : arrF P t n = true) (hf : ∀ i, i < n → feq k (f i) (f i) = true) (w : World) :
    (Op.equalIn (d + 2) t (.agg (tab n fun i => .float k (f i)).toArray) (.agg (tab n fun i => .float k (f i)).toArray)).run P w = .ok true w := by
  unfold arrF at h
  split at h
  · rename_i m e hu
    simp only [Bool.and_eq_true, decide_eq_true_eq] at h
    obtain ⟨rfl, h2⟩ := h
    split at h2
    · rename_i fk hue
      rw [decide_eq_true_eq] at h2
      obtain ⟨i, hi⟩ := info_of_underlying hue
      rw [run_equalIn_array w (d + 1) _ _ hu hi, h2]
      exact items_run hue hf w _ fun j hj => List.mem_range.1 hj
    · cases h2
  · cases h
theorem tab_extract {n o k : Nat} {f : Nat → Value} (h : o + k ≤ n) : (tab n f).toArray.extract o (o + k) = (tab k fun i => f (o + i)).toArray := by
  rw [List.extract_toArray, List.extract_eq_take_drop, Nat.add_sub_cancel_left, tab_part h]
theorem rows_run {P : Program} {d : Nat} {e : TypeId} {k : FloatKind} {n m : Nat} {f : Nat → Nat} (ha : arrF P e m = true) (hc : P.cellsOf e = m) (hf : ∀ i, i < n * m → feq k (f i) (f i) = true) (w : World) :
    ∀ is : List Nat, (∀ i ∈ is, i < n) → (Op.eqItems (d + 2) e m (tab (n * m) fun i => .float k (f i)).toArray (tab (n * m) fun i => .float k (f i)).toArray is).run P w = .ok true w
  | [], _ => by simp [Op.eqItems]
  | i :: is, h => by
    have hi := h i (by simp)
    have hb : i * m + m ≤ n * m := by rw [← Nat.succ_mul]; exact Nat.mul_le_mul_right m hi
    have hp : (part e (tab (n * m) fun i => .float k (f i)).toArray (i * m)).run P w = .ok (.agg (tab m fun q => .float k (f (i * m + q))).toArray) w := by
      have ha' := ha
      unfold arrF at ha'
      split at ha'
      · rename_i m' e' hu
        obtain ⟨inf, hinf⟩ := info_of_underlying hu
        have hs := run_sizeOf w hinf
        rw [hc] at hs
        have hx : (isAgg e).run P w = .ok true w := by
          unfold isAgg
          rw [Sem.run_bind, run_underlying hu]
          rfl
        unfold part
        rw [Sem.run_bind, hx]
        simp only [Result.andThen_ok, if_true]
        rw [Sem.run_bind, hs]
        show Result.ok (Value.agg (Array.extract _ (i * m) (i * m + m))) w = _
        rw [tab_extract hb]
      · cases ha'
    have he := arrF_run (d := d) (k := k) (f := fun q => f (i * m + q)) ha (fun q hq => hf _ (by omega)) w
    simp only [Op.eqItems, Sem.run_bind, hp, he, Result.andThen_ok]
    simpa using rows_run ha hc hf w is fun j hj => h j (by simp [hj])
theorem arrFF_run {P : Program} {t : TypeId} {n m : Nat} {k : FloatKind} {f : Nat → Nat} {d : Nat} (h : arrFF P t n m = true) (hf : ∀ i, i < n * m → feq k (f i) (f i) = true) (w : World) :
    (Op.equalIn (d + 3) t (.agg (tab (n * m) fun i => .float k (f i)).toArray) (.agg (tab (n * m) fun i => .float k (f i)).toArray)).run P w = .ok true w := by
  unfold arrFF at h
  split at h
  · rename_i n' e hu
    simp only [Bool.and_eq_true, decide_eq_true_eq] at h
    obtain ⟨⟨rfl, h2⟩, h3⟩ := h
    have h3' := h3
    unfold arrF at h3'
    split at h3'
    · rename_i m' e' hue
      obtain ⟨i, hi⟩ := info_of_underlying hue
      rw [run_equalIn_array w (d + 2) _ _ hu hi, h2]
      exact rows_run h3 h2 hf w _ fun j hj => List.mem_range.1 hj
    · cases h3'
  · cases h
section
variable {P : Program} {ops l : List Oper} {K : St → Prop} {n d : Nat} {t : Env} {m : Mem} {ty : Nat} {pos : String}
theorem o_neArrF {xt yt : TypeId} {x y : Operand} {f : Nat → Nat} {k : Nat} {fk : FloatKind} {af : _} (hf : ∀ i, i < k → fnan fk (f i) = false) (hx : evalA t x = .agg (tab k fun i => .float fk (f i)).toArray := by (conv => (lhs; whnf)); first | done | rfl) (hy : evalA t y = .agg (tab k fun i => .float fk (f i)).toArray := by (conv => (lhs; whnf)); first | done | rfl)
    (ht : arrF P xt k = true := by decide +kernel) (hg : P.eqGuardType P.depth xt = false := by decide +kernel) (hd : Nat.blt d n = true := by rfl) (h : AOs P ops l K ⟨n, (d, .bool false) :: t, m⟩) :
    AOs P ops (⟨some d, .binOp .neq xt x y yt, ty, pos, af, none⟩ :: l) K ⟨n, t, m⟩ :=
  o_bin hx hy (tab_rigF hf) (tab_rigF hf) (fun w => by
    rw [Sem.run_bind, run_eqGuard_agg w .neq xt x y _ _ hg]
    show (binOp .neq xt _ _).run P w = _
    rw [run_neq_struct, show (10000 : Nat) = 9998 + 2 from rfl, arrF_run ht (fun i hi => by rw [feq_self, hf i hi]; rfl) w]
    rfl) (fun r => VR.bool r _) hd h
theorem o_neArrFF {xt yt : TypeId} {x y : Operand} {f : Nat → Nat} {fk : FloatKind} {af : _} (hf : ∀ i, i < 4 * 4 → fnan fk (f i) = false) (hx : evalA t x = .agg (tab 16 fun i => .float fk (f i)).toArray := by (conv => (lhs; whnf)); first | done | rfl) (hy : evalA t y = .agg (tab 16 fun i => .float fk (f i)).toArray := by (conv => (lhs; whnf)); first | done | rfl)
    (ht : arrFF P xt 4 4 = true := by decide +kernel) (hg : P.eqGuardType P.depth xt = false := by decide +kernel) (hd : Nat.blt d n = true := by rfl) (h : AOs P ops l K ⟨n, (d, .bool false) :: t, m⟩) :
    AOs P ops (⟨some d, .binOp .neq xt x y yt, ty, pos, af, none⟩ :: l) K ⟨n, t, m⟩ :=
  o_bin hx hy (tab_rigF (n := 4 * 4) hf) (tab_rigF (n := 4 * 4) hf) (fun w => by
    rw [Sem.run_bind, run_eqGuard_agg w .neq xt x y _ _ hg]
    show (binOp .neq xt _ _).run P w = _
    rw [run_neq_struct, show (10000 : Nat) = 9997 + 3 from rfl]
    have := arrFF_run (d := 9997) ht (f := f) (k := fk) (fun i hi => by rw [feq_self, hf i hi]; rfl) w
    rw [show 4 * 4 = 16 from rfl] at this
    rw [this]
    rfl) (fun r => VR.bool r _) hd h
end
end Go.Proofs.YtgdpcomemkimhaaGreatDoor
