/- Junctions that are drawn: valid. -/
import Derived.Test.YtjghdagcmombnaaGa
import Derived.Test.YtjghdagcmombnaaDr2
import Derived.Test.YtjghdagcmombnaaRr
import Derived.Test.YtjghdagcmombnaaCc
import Derived.Test.YtjghdagcmombnaaJn

namespace Go.Proofs.Ytjghdagcmombnaa
open Go.RowKit
attribute [local irreducible] AW AOs AO AQ AQW thenA inBlockA postA ACalls Pure
set_option linter.unusedSimpArgs false
set_option linter.unusedVariables false
set_option linter.unusedSectionVars false

/-- Sums of numbers of one unit are exact. -/
theorem add_unit {x y : Nat} {a b : Int} {e : Nat} (hx : nn x ∧ fv x = a * 2 ^ e) (hy : nn y ∧ fv y = b * 2 ^ e) (he : e ≤ 145) (hab : 0 ≤ a + b ∧ a + b ≤ 4096) : nn (fadd .f32 x y) ∧ fv (fadd .f32 x y) = (a + b) * 2 ^ e := by
  have hp : (2 : Int) ^ e ≤ 2 ^ 145 := by
    have h := Nat.pow_le_pow_right (show 0 < 2 by decide) he
    have h2 : ((2 ^ e : Nat) : Int) ≤ ((2 ^ 145 : Nat) : Int) := Int.ofNat_le.2 h
    rwa [Int.natCast_pow, Int.natCast_pow] at h2
  have h0 : (0 : Int) < 2 ^ e := Int.pow_pos (by decide)
  have h1 : (a + b) * 2 ^ e ≤ 4096 * 2 ^ e := Int.mul_le_mul_of_nonneg_right hab.2 (by omega)
  have hs : fv x + fv y = (a + b) * 2 ^ e := by rw [hx.2, hy.2, Int.add_mul]
  obtain ⟨h2, h3⟩ := nn_add hx.1 hy.1 (by rw [hs]; omega)
  refine ⟨h2, h3.exact (z := a + b) (e := e) (by omega) (by omega) ?_⟩
  rw [hs]; simp
theorem sum_unit {g : Nat → Nat} {a : Nat → Int} {e : Nat} (he : e ≤ 145) (hg : ∀ k, k < 4 → nn (g k) ∧ fv (g k) = a k * 2 ^ e) (ha : ∀ k, 0 ≤ a k ∧ a k ≤ 1024) : nn (jSum g 3) ∧ fv (jSum g 3) = (a 0 + a 1 + a 2 + a 3) * 2 ^ e := by
  have a0 := ha 0
  have a1 := ha 1
  have a2 := ha 2
  have a3 := ha 3
  have s1 := add_unit (hg 0 (by omega)) (hg 1 (by omega)) he (by omega)
  have s2 := add_unit s1 (hg 2 (by omega)) he (by omega)
  exact add_unit s2 (hg 3 (by omega)) he (by omega)
theorem row_lim : fin32 1065336439 = true ∧ fin32 1065361605 = true ∧ fv 1065336439 ≤ 16 * 2 ^ 145 ∧ 16 * 2 ^ 145 ≤ fv 1065361605 := by decide +kernel
theorem feq_00 : feq .f32 0 0 = true := by decide +kernel
section
variable {n o : Nat} {h : Nat → Nat} {W : Nat → Nat → Int}
theorem dr_jA (hd : JnDr n o h W) {i k : Nat} (hi : i < 4) (hk : k < 4) : jA h i k = shw (W i k) := by
  unfold jA
  rw [← Nat.add_assoc]
  exact hd.cell i k hi hk
theorem dr_row (hd : JnDr n o h W) {i : Nat} (hi : i < 4) : nn (jSum (jA h i) 3) ∧ fv (jSum (jA h i) 3) = (W i 0 + W i 1 + W i 2 + W i 3) * 2 ^ 145 :=
  sum_unit (by decide) (fun k hk => by rw [dr_jA hd hi hk]; exact shg_fv (by have := hd.bd i k; omega)) (fun k => by have := hd.bd i k; omega)
theorem dr_valid (hd : JnDr n o h W) : jnP (n : Int) (o : Int) h := by
  have hn := hd.hn
  have ho := hd.ho
  refine ⟨by omega, by omega, fun i hi => ⟨fun k hk => ?_, ?_⟩⟩
  · unfold jC
    have hb := hd.bd i k
    have hf := shg_fv (x := W i k) (by omega)
    have hU := U_val
    rw [dr_jA hd hi hk, nn_sh hf.1 (by rw [hf.2]; omega), Bool.true_and]
    by_cases hc : n ≤ i ∨ o ≤ k
    · rw [hd.zero i k hc, shw_0, feq_00, Bool.or_true]
    · rw [decide_eq_false (by omega), decide_eq_false (by omega)]; rfl
  · have hp := hd.pri i hi
    unfold jE
    by_cases hin : i < n
    · rw [if_pos (by omega)]
      rw [if_pos hin] at hp
      obtain ⟨v, hv, e⟩ := hp
      obtain ⟨s1, s2⟩ := dr_row hd hi
      rw [hd.sum i hin] at s2
      obtain ⟨l1, l2, l3, l4⟩ := row_lim
      have e4 : jS h i 4 = jSum (jA h i) 3 := rfl
      rw [e, prw_ok hv, e4, fge_fv s1.1 l1, fle_fv s1.1 l2, decide_eq_true (by omega), decide_eq_true (by omega)]; rfl
    · rw [if_neg (by omega)]
      rw [if_neg hin] at hp
      rw [hp]; exact noB_0
theorem prw_8f : ∀ v : Fin 8, fin32 (prw v.val) = true ∧ prw v.val < 2147483648 := by decide +kernel
theorem prw_nn {v : Int} (h : 0 ≤ v ∧ v < 8) : nn (prw v) := by
  have h1 := prw_8f ⟨v.toNat, by omega⟩
  have e : ((v.toNat : Nat) : Int) = v := Int.toNat_of_nonneg h.1
  simp only [e] at h1
  exact h1
end
end Go.Proofs.Ytjghdagcmombnaa

/- copy, max, and slices of one element that can grow. -/
namespace Go.Proofs.Ytjghdagcmombnaa
open Go.RowKit
set_option linter.unusedSimpArgs false
set_option linter.unusedVariables false

section
variable {P : Program} {ops l : List Oper} {K : St → Prop} {n : Nat} {t : Env} {m : Mem} {d ty : Nat} {pos : String} {af : Array Edge}
end
end Go.Proofs.Ytjghdagcmombnaa

/- Roads: steps one after the other. -/
namespace Go.Proofs.Ytjghdagcmombnaa
open Go.RowKit
attribute [local irreducible] AW AOs AO AQ AQW thenA inBlockA postA ACalls Pure
set_option linter.unusedSimpArgs false
set_option linter.unusedVariables false
set_option linter.unusedSectionVars false

section
variable {P : Program} {ops l : List Oper} {K : St → Prop} {n : Nat} {t : Env} {m : Mem} {d ty : Nat} {pos : String} {af : Array Edge} {xt yt : TypeId} {x y : Operand} {k k' : IntKind} {a b c : Int}
end
/-! ### One thing many times -/
section
variable {c : Nat → Nat} {p b l : Nat}
variable (hr : RdOk c p b l)
include hr
end
end Go.Proofs.Ytjghdagcmombnaa

/- Roads: cars on them, full roads, steps until something is so. -/
namespace Go.Proofs.Ytjghdagcmombnaa
open Go.RowKit
attribute [local irreducible] AW AOs AO AQ AQW thenA inBlockA postA ACalls Pure
set_option linter.unusedSimpArgs false
set_option linter.unusedVariables false
set_option linter.unusedSectionVars false

section
variable {c : Nat → Nat} {p b l : Nat}
variable (hr : RdOk c p b l)
include hr
end
end Go.Proofs.Ytjghdagcmombnaa

/- Memory with blocks of plain values. -/
namespace Go.Proofs.Ytjghdagcmombnaa
open Go.RowKit
attribute [local irreducible] AW AOs AO AQ AQW thenA inBlockA postA ACalls Pure
set_option linter.unusedSimpArgs false
set_option linter.unusedVariables false
set_option linter.unusedSectionVars false

theorem next_TT {M T G : Mem} {m : Mem} (h : m = M ++ (T ++ G)) : m = (M ++ T) ++ G := by rw [h, List.append_assoc]
theorem closed1 {M : Mem} (hM : Closed M.length M) {b1 : Blk} (h1 : ∀ x ∈ b1.cells, Flat x) : Closed (M ++ [b1]).length (M ++ [b1]) := by
  refine Closed.append (hM.mono (by simp)) fun x hx y hy => Bel.flat ?_
  simp only [List.mem_cons, List.not_mem_nil, or_false] at hx
  rcases hx with rfl
  exact h1 y hy
theorem closed3 {M : Mem} (hM : Closed M.length M) {b1 b2 b3 : Blk} (h1 : ∀ x ∈ b1.cells, Flat x) (h2 : ∀ x ∈ b2.cells, Flat x) (h3 : ∀ x ∈ b3.cells, Flat x) : Closed (M ++ [b1, b2, b3]).length (M ++ [b1, b2, b3]) := by
  refine Closed.append (hM.mono (by simp)) fun x hx y hy => Bel.flat ?_
  simp only [List.mem_cons, List.not_mem_nil, or_false] at hx
  rcases hx with rfl | rfl | rfl
  all_goals first | exact h1 y hy | exact h2 y hy | exact h3 y hy
end Go.Proofs.Ytjghdagcmombnaa

/- Roads: filled ones, delays. -/
namespace Go.Proofs.Ytjghdagcmombnaa
open Go.RowKit
attribute [local irreducible] AW AOs AO AQ AQW thenA inBlockA postA ACalls Pure
set_option linter.unusedSimpArgs false
set_option linter.unusedVariables false
set_option linter.unusedSectionVars false

section
variable {c : Nat → Nat} {p b l : Nat}
variable (hr : RdOk c p b l)
include hr
end
end Go.Proofs.Ytjghdagcmombnaa

/- What a junction's ways want: the program's. -/
namespace Go.Proofs.Ytjghdagcmombnaa
open Go.RowKit
attribute [local irreducible] AW AOs AO AQ AQW thenA inBlockA postA ACalls Pure
set_option linter.unusedSimpArgs false
set_option linter.unusedVariables false
set_option linter.unusedSectionVars false

section
variable (fid : FuncId) [FnT Try.prog fid] (Pd : Nat → Bool) (hF : ∀ x M', Pure Try.prog fid [.float .f32 x] M' (.bool (Pd x)))
include hF
set_option maxHeartbeats 4000000 in
theorem jIndexNo (a : Option Addr) (n cp : Nat) (d : Nat → Nat) (M : Mem) (hn : n ≤ 1048576) (hS : SlAt M a n (tab n fun q => .float .f32 (d q))) (hno : ∀ q, q < n → Pd (d q) = false) : Pure Try.prog 65 [.slice a n cp, .func (.func fid) #[] #[]] M (.int .i64 (-1)) := by
  refine pure_of Try.func65 Try.ntmps65 rfl rfl (by repeat' (first | exact Flat.int _ _ | fail)) ?_
  simp only [envOf, Nat.zero_add, Nat.reduceAdd]
  repeat' (first | (refine d_AOs (h := ?_) ; first | refine o_move (h := ?_) | refine o_assign (h := ?_) | refine AOs.nil (h := ?_) | refine o_len (h := ?_)) | (refine d_AW (h := ?_) ; first | refine AW.seq (h := ?_) | refine AW.region (h := ?_) | refine AW.block (h := ?_)) | (first | refine t_normal ?_) | fail)
  refine AW.loopN [0, 1, 7, 8] (fun k s => ∃ (i : Nat), i + k = n ∧ s = ⟨19, [(0, .slice a n cp), (1, .func (.func fid) #[] #[]), (7, .int .i64 n), (8, .int .i64 (i : Int))], M⟩) n ⟨0, by omega, rfl⟩ ?_
  rintro k s ⟨i, hi, rfl⟩
  by_cases hin : i < n
  · obtain ⟨b1, tg, rw1, rfl, hb1⟩ := hS (by omega)
    have hF1 := fun M' => hF (d i) M'
    rw [hno i hin] at hF1
    repeat' (first | (refine d_AOs (h := ?_) ; first | refine o_move (h := ?_) | refine o_assign (h := ?_) | refine AOs.nil (h := ?_) | (refine d_bin (h := ?_) ; first | refine o_addS (h := ?_) | refine o_lss (h := ?_)) | refine o_callVP (hc := (hF1 _)) (h := ?_) | refine o_load (h := ?_) | refine o_ixS (h := ?_)) | (refine d_AW (h := ?_) ; first | refine AW.seq (h := ?_) | refine AW.region (h := ?_) | (refine AW.cond (ht := (fun hc => ?_)) (hf := (fun hc => ?_)) <;> (try (with_reducible first | exact absurd hc Bool.false_ne_true | exact absurd hc.symm Bool.false_ne_true)) <;> (try simp only [decide_eq_true_eq, decide_eq_false_iff_not, Int.ofNat_inj, Bool.not_eq_true', Bool.not_eq_false', Int.not_lt, Int.not_le] at hc) <;> (try (exfalso; omega)) <;> (try (exact absurd hc (by decide)))) | refine AW.block (h := ?_) | refine AW.skip (h := ?_)) | (first | refine t_normal ?_ | refine b_normal ?_) | fail)
    all_goals first | exact ⟨k - 1, by omega, i + 1, by omega, rfl⟩ | (exfalso; simp at hc; done)
  · repeat' (first | (refine d_AOs (h := ?_) ; first | refine o_assign (h := ?_) | refine AOs.nil (h := ?_) | (refine d_bin (h := ?_) ; first | refine o_lss (h := ?_))) | (refine d_AW (h := ?_) ; first | refine AW.seq (h := ?_) | refine AW.region (h := ?_) | (refine AW.cond (ht := (fun hc => ?_)) (hf := (fun hc => ?_)) <;> (try (with_reducible first | exact absurd hc Bool.false_ne_true | exact absurd hc.symm Bool.false_ne_true)) <;> (try simp only [decide_eq_true_eq, decide_eq_false_iff_not, Int.ofNat_inj, Bool.not_eq_true', Bool.not_eq_false', Int.not_lt, Int.not_le] at hc) <;> (try (exfalso; omega)) <;> (try (exact absurd hc (by decide)))) | refine AW.ret (h := ?_) | refine AW.exit (h := ?_)) | (first | refine t_normal ?_ | refine t_exit ?_ | refine b_exit ?_) | (refine d_post (h := ?_) ; first | refine p_ret1 rfl (h := ?_)) | fail)
    all_goals rfl
set_option maxHeartbeats 4000000 in
theorem jContainsNo (a : Option Addr) (n cp : Nat) (d : Nat → Nat) (M : Mem) (hn : n ≤ 1048576) (hS : SlAt M a n (tab n fun q => .float .f32 (d q))) (hno : ∀ q, q < n → Pd (d q) = false) : Pure Try.prog 45 [.slice a n cp, .func (.func fid) #[] #[]] M (.bool false) := by
  refine pure_of Try.func45 Try.ntmps45 rfl rfl (by repeat' (first | exact Flat.bool _ | fail)) ?_
  have hI := fun M' h => jIndexNo fid Pd hF a n cp d M' hn h hno
  simp only [envOf, Nat.zero_add, Nat.reduceAdd]
  repeat' (first | (refine d_AOs (h := ?_) ; first | refine o_move (h := ?_) | refine o_assign (h := ?_) | refine AOs.nil (h := ?_) | (refine d_bin (h := ?_) ; first | refine o_geq (h := ?_)) | refine o_call (hc := (hI _ hS)) (h := ?_)) | (refine d_AW (h := ?_) ; first | refine AW.seq (h := ?_) | refine AW.region (h := ?_) | refine AW.ret (h := ?_)) | (first | refine t_normal ?_) | (refine d_post (h := ?_) ; first | refine p_ret1 rfl (h := ?_)) | fail)
  all_goals rfl
end
section
variable (fid : FuncId) [FnT Try.prog fid] (Pd : Nat → Bool) (hF : ∀ x M', Pure Try.prog fid [.float .f32 x] M' (.bool (Pd x)))
include hF
/-- The same of a part of an array. -/
theorem jIndexNoP (j o m : Nat) (d : Nat → Nat) (M : Mem) (rw' : Bool) (hm : o + m = 4) (hb : M[j]? = some ⟨tab 4 fun q => .float .f32 (d q), none, rw'⟩) (hno : ∀ q, o ≤ q → q < 4 → Pd (d q) = false) : Pure Try.prog 65 [.slice (some ⟨j, o, none⟩) m m, .func (.func fid) #[] #[]] M (.int .i64 (-1)) := by
  refine pure_of Try.func65 Try.ntmps65 rfl rfl (by repeat' (first | exact Flat.int _ _ | fail)) ?_
  simp only [envOf, Nat.zero_add, Nat.reduceAdd]
  repeat' (first | (refine d_AOs (h := ?_) ; first | refine o_move (h := ?_) | refine o_assign (h := ?_) | refine AOs.nil (h := ?_) | refine o_len (h := ?_)) | (refine d_AW (h := ?_) ; first | refine AW.seq (h := ?_) | refine AW.region (h := ?_) | refine AW.block (h := ?_)) | (first | refine t_normal ?_) | fail)
  refine AW.loopN [0, 1, 7, 8] (fun k s => ∃ (i : Nat), i + k = m ∧ s = ⟨19, [(0, .slice (some ⟨j, o, none⟩) m m), (1, .func (.func fid) #[] #[]), (7, .int .i64 m), (8, .int .i64 (i : Int))], M⟩) m ⟨0, by omega, rfl⟩ ?_
  rintro k s ⟨i, hi, rfl⟩
  by_cases hin : i < m
  · have hF1 := fun M' => hF (d (o + i)) M'
    rw [hno (o + i) (by omega) (by omega)] at hF1
    have hld : ldA .one (o + i) (tab 4 fun q => Value.float .f32 (d q)) = some (.float .f32 (d (o + i))) := ld_tab (by omega) rfl
    repeat' (first | (refine d_AOs (h := ?_) ; first | refine o_move (h := ?_) | refine o_assign (h := ?_) | refine AOs.nil (h := ?_) | (refine d_bin (h := ?_) ; first | refine o_addS (h := ?_) | refine o_lss (h := ?_)) | refine o_callVP (hc := (hF1 _)) (h := ?_) | refine o_load (hv := hld) (h := ?_) | refine o_ixS (h := ?_)) | (refine d_AW (h := ?_) ; first | refine AW.seq (h := ?_) | refine AW.region (h := ?_) | (refine AW.cond (ht := (fun hc => ?_)) (hf := (fun hc => ?_)) <;> (try (with_reducible first | exact absurd hc Bool.false_ne_true | exact absurd hc.symm Bool.false_ne_true)) <;> (try simp only [decide_eq_true_eq, decide_eq_false_iff_not, Int.ofNat_inj, Bool.not_eq_true', Bool.not_eq_false', Int.not_lt, Int.not_le] at hc) <;> (try (exfalso; omega)) <;> (try (exact absurd hc (by decide)))) | refine AW.block (h := ?_) | refine AW.skip (h := ?_)) | (first | refine t_normal ?_ | refine b_normal ?_) | fail)
    all_goals first | exact ⟨k - 1, by omega, i + 1, by omega, rfl⟩ | (exfalso; simp at hc; done)
  · repeat' (first | (refine d_AOs (h := ?_) ; first | refine o_assign (h := ?_) | refine AOs.nil (h := ?_) | (refine d_bin (h := ?_) ; first | refine o_lss (h := ?_))) | (refine d_AW (h := ?_) ; first | refine AW.seq (h := ?_) | refine AW.region (h := ?_) | (refine AW.cond (ht := (fun hc => ?_)) (hf := (fun hc => ?_)) <;> (try (with_reducible first | exact absurd hc Bool.false_ne_true | exact absurd hc.symm Bool.false_ne_true)) <;> (try simp only [decide_eq_true_eq, decide_eq_false_iff_not, Int.ofNat_inj, Bool.not_eq_true', Bool.not_eq_false', Int.not_lt, Int.not_le] at hc) <;> (try (exfalso; omega)) <;> (try (exact absurd hc (by decide)))) | refine AW.ret (h := ?_) | refine AW.exit (h := ?_)) | (first | refine t_normal ?_ | refine t_exit ?_ | refine b_exit ?_) | (refine d_post (h := ?_) ; first | refine p_ret1 rfl (h := ?_)) | fail)
    all_goals rfl
theorem jContainsNoP (j o m : Nat) (d : Nat → Nat) (M : Mem) (rw' : Bool) (hm : o + m = 4) (hb : M[j]? = some ⟨tab 4 fun q => .float .f32 (d q), none, rw'⟩) (hno : ∀ q, o ≤ q → q < 4 → Pd (d q) = false) : Pure Try.prog 45 [.slice (some ⟨j, o, none⟩) m m, .func (.func fid) #[] #[]] M (.bool false) := by
  refine pure_of Try.func45 Try.ntmps45 rfl rfl (by repeat' (first | exact Flat.bool _ | fail)) ?_
  have hI := fun M' h => jIndexNoP fid Pd hF j o m d M' rw' hm h hno
  simp only [envOf, Nat.zero_add, Nat.reduceAdd]
  repeat' (first | (refine d_AOs (h := ?_) ; first | refine o_move (h := ?_) | refine o_assign (h := ?_) | refine AOs.nil (h := ?_) | (refine d_bin (h := ?_) ; first | refine o_geq (h := ?_)) | refine o_call (hc := (hI _ hb)) (h := ?_)) | (refine d_AW (h := ?_) ; first | refine AW.seq (h := ?_) | refine AW.region (h := ?_) | refine AW.ret (h := ?_)) | (first | refine t_normal ?_) | (refine d_post (h := ?_) ; first | refine p_ret1 rfl (h := ?_)) | fail)
  all_goals rfl
end
theorem jfin1 (x : Nat) (M : Mem) : Pure Try.prog 46 [.float .f32 x] M (.bool (!ffin .f32 x)) := by
  refine pure_of Try.func46 Try.ntmps46 rfl rfl (by repeat' (first | exact Flat.bool _ | fail)) ?_
  simp only [envOf, Nat.zero_add, Nat.reduceAdd]
  repeat' (first | (refine d_AOs (h := ?_) ; first | refine o_move (h := ?_) | refine o_assign (h := ?_) | refine AOs.nil (h := ?_) | refine o_call (hc := (iisFinite _ _)) (h := ?_) | refine o_not (h := ?_)) | (refine d_AW (h := ?_) ; first | refine AW.seq (h := ?_) | refine AW.region (h := ?_) | refine AW.ret (h := ?_)) | (first | refine t_normal ?_) | (refine d_post (h := ?_) ; first | refine p_ret1 rfl (h := ?_)) | fail)
  all_goals rfl
theorem jareFinite (d : Nat → Nat) (j : Nat) (rw' : Bool) (M : Mem) (hd : ∀ q, q < 4 → fin32 (d q) = true) (hb : M[j]? = some ⟨tab 4 fun q => .float .f32 (d q), none, rw'⟩) : Pure Try.prog 26 [.slice (some ⟨j, 0, none⟩) 4 4] M (.bool true) := by
  refine pure_of Try.func26 Try.ntmps26 rfl rfl (by repeat' (first | exact Flat.bool _ | fail)) ?_
  have hC := fun M' h => jContainsNo 46 (fun x => !ffin .f32 x) jfin1 (some ⟨j, 0, none⟩) 4 4 d M' (by omega) h (fun q hq => by
    rw [fin_ffin]
    show (!fin32 (d q)) = false
    rw [hd q hq]; rfl)
  simp only [envOf, Nat.zero_add, Nat.reduceAdd]
  repeat' (first | (refine d_AOs (h := ?_) ; first | refine o_move (h := ?_) | refine o_assign (h := ?_) | refine AOs.nil (h := ?_) | refine o_call (hc := (hC _ (SlAt.of hb))) (h := ?_) | refine o_not (h := ?_)) | (refine d_AW (h := ?_) ; first | refine AW.seq (h := ?_) | refine AW.region (h := ?_) | refine AW.ret (h := ?_)) | (first | refine t_normal ?_) | (refine d_post (h := ?_) ; first | refine p_ret1 rfl (h := ?_)) | fail)
  all_goals rfl
theorem jzero1 (x : Nat) (M : Mem) : Pure Try.prog 58 [.float .f32 x] M (.bool (!feq .f32 x 0)) := by
  refine pure_of Try.func58 Try.ntmps58 rfl rfl (by repeat' (first | exact Flat.bool _ | fail)) ?_
  simp only [envOf, Nat.zero_add, Nat.reduceAdd]
  repeat' (first | (refine d_AOs (h := ?_) ; first | refine o_move (h := ?_) | refine o_assign (h := ?_) | refine AOs.nil (h := ?_) | (refine d_bin (h := ?_) ; first | refine o_fne (h := ?_))) | (refine d_AW (h := ?_) ; first | refine AW.seq (h := ?_) | refine AW.region (h := ?_) | refine AW.ret (h := ?_)) | (first | refine t_normal ?_) | (refine d_post (h := ?_) ; first | refine p_ret1 rfl (h := ?_)) | fail)
  all_goals rfl
section
variable {P : Program} {ops l : List Oper} {K : St → Prop} {n : Nat} {t : Env} {m : Mem} {d ty : Nat} {pos : String} {af : Array Edge}
/-- x[len:] of an array: an empty slice. -/
theorem o_slArrLoG {at_ len k e : Nat} [ha : ArrT P at_ len k e] {x lo : Operand} {j o o' q ln' : Nat} {ik : IntKind} (hx : evalA t x = .pointer (some ⟨j, o, none⟩) := by (conv => (lhs; whnf)); first | done | rfl) (hh : evalA t lo = .int ik (q : Int) := by (conv => (lhs; whnf)); first | done | rfl)
    (hle : q < len := by omega) (ho : o + q * k = o' := by first | (simp only [Int.toNat_natCast, Nat.zero_add, Nat.mul_one, Nat.reduceMul, Nat.reduceAdd, Int.reduceToNat]; rfl) | rfl) (hln : len - q = ln' := by rfl) (hd : Nat.blt d n = true := by rfl)
    (h : AOs P ops l K ⟨n, (d, .slice (some ⟨j, o', none⟩) ln' ln') :: t, m⟩) : AOs P ops (⟨some d, .slice at_ x (some lo) none none, ty, pos, af, none⟩ :: l) K ⟨n, t, m⟩ :=
  AOs.val (v := .slice (some ⟨j, o', none⟩) ln' ln') rfl hd (fun B0 w0 r a w hs => by
    subst hln
    have hx1 := hs.eval x
    have hh1 := hs.eval lo
    rw [hx] at hx1
    rw [hh] at hh1
    obtain ⟨c, z, he, hr⟩ := hx1.ptr_inv
    have hh2 := hh1.int_inv
    obtain ⟨hu, hsz⟩ := arr_facts (P := P) (at_ := at_)
    refine ⟨.slice (some ⟨c, zo none z + o', none⟩) (len - q) (len - q), ?_, .base ⟨c, z, len - q, rfl, hr, .inl ⟨rfl, rfl⟩⟩⟩
    have h1 : q ≤ len := by omega
    have h2 : len ≠ q := by omega
    have h3 : zo none z + o' = zo none z + o + q * k := by omega
    simp [execOp, he, hh2, Instr.sliceAt, Instr.sureAddr, Instr.sliceBounds, Instr.sliceBound, asIntOf, run_underlying hu, hsz, addr_add, h1, h2, h3]) h
theorem o_slArrEnd {at_ len k e : Nat} [ha : ArrT P at_ len k e] {x lo : Operand} {j o : Nat} {ik : IntKind} (hx : evalA t x = .pointer (some ⟨j, o, none⟩) := by (conv => (lhs; whnf)); first | done | rfl) (hh : evalA t lo = .int ik (len : Int) := by (conv => (lhs; whnf)); first | done | rfl) (hd : Nat.blt d n = true := by rfl)
    (h : AOs P ops l K ⟨n, (d, .slice none 0 2) :: t, m⟩) : AOs P ops (⟨some d, .slice at_ x (some lo) none none, ty, pos, af, none⟩ :: l) K ⟨n, t, m⟩ :=
  AOs.val (v := .slice none 0 2) rfl hd (fun B0 w0 r a w hs => by
    have hx1 := hs.eval x
    have hh1 := hs.eval lo
    rw [hx] at hx1
    rw [hh] at hh1
    obtain ⟨c, z, he, hr⟩ := hx1.ptr_inv
    have hh2 := hh1.int_inv
    obtain ⟨hu, hsz⟩ := arr_facts (P := P) (at_ := at_)
    refine ⟨.slice (some ⟨c, zo none z + o, none⟩) 0 0, ?_, .base ⟨rfl, .inr (.inr ⟨rfl, _, _, rfl⟩)⟩⟩
    simp [execOp, he, hh2, Instr.sliceAt, Instr.sureAddr, Instr.sliceBounds, Instr.sliceBound, asIntOf, run_underlying hu, hsz, addr_add]) h
end
theorem jareAm (d : Nat → Nat) (j : Nat) (rw' : Bool) (M : Mem) (hd : ∀ q, q < 4 → isAm (d q) = true) (hb : M[j]? = some ⟨tab 4 fun q => .float .f32 (d q), none, rw'⟩) : Pure Try.prog 57 [.slice (some ⟨j, 0, none⟩) 4 4] M (.bool true) := by
  have h1 := iareAmounts (some ⟨j, 0, none⟩) 4 4 d M (by omega) (SlAt.of hb)
  have h2 : amsK d 4 = true := ams_all.2 hd
  rwa [h2] at h1
set_option maxHeartbeats 4000000 in
theorem jareOf (d : Nat → Nat) (n : Nat) (hn : 1 ≤ n ∧ n ≤ 4) (M : Mem) (hd : ∀ q, q < 4 → isAm (d q) = true) (hz : ∀ q, n ≤ q → q < 4 → feq .f32 (d q) 0 = true) : Pure Try.prog 37 [.agg (tab 4 fun q => .float .f32 (d q)).toArray, .int .i64 (n : Int)] M (.bool true) := by
  refine pure_of Try.func37 Try.ntmps37 rfl rfl (by repeat' (first | exact Flat.bool _ | fail)) ?_
  have hA := fun M' j h => jareAm d j true M' hd h
  by_cases h4 : n = 4
  · subst h4
    have hC := fun M' => jContainsNo 58 (fun x => !feq .f32 x 0) jzero1 none 0 2 d M' (by omega) (fun h => absurd h (Nat.lt_irrefl 0)) (fun q hq => by omega)
    simp only [envOf, Nat.zero_add, Nat.reduceAdd]
    repeat' (first | (refine d_AOs (h := ?_) ; first | refine o_move (h := ?_) | refine o_assign (h := ?_) | refine AOs.nil (h := ?_) | (refine d_grd (h := ?_) ; first | refine g_yes (h := ?_)) | refine o_slArr (h := ?_) | refine o_slArrEnd (h := ?_) | refine o_call (hc := (hA _ _ (by first | (simp only [mem_tail, mem_tail0, List.getElem?_cons_zero, List.getElem?_cons_succ]; first | done | rfl) | exact mem_head (by assumption) | assumption | (simp only [mem_tailS, mem_tailS0, List.getElem?_cons_zero, List.getElem?_cons_succ]; first | done | rfl) | exact mem_set1 (by assumption) | exact mem_set0 (by assumption) | exact mem_setN1 (by assumption) (by assumption) | exact mem_setN (by assumption) (by assumption)))) (h := ?_) | refine o_call (hc := (hC _)) (h := ?_) | refine o_pick (h := ?_) | refine o_not (h := ?_) | refine o_box (h := ?_)) | (refine d_AW (h := ?_) ; first | refine AW.seq (h := ?_) | refine AW.region (h := ?_) | refine AW.ret (h := ?_)) | (first | refine t_normal ?_) | (refine d_post (h := ?_) ; first | refine p_ret1 rfl (h := ?_)) | fail)
    all_goals first | rfl | (exfalso; simp at hc; done)
  · have hC := fun M' j h => jContainsNoP 58 (fun x => !feq .f32 x 0) jzero1 j n (4 - n) d M' true (by omega) h (fun q h1 h2 => by rw [hz q h1 h2]; rfl)
    simp only [envOf, Nat.zero_add, Nat.reduceAdd]
    repeat' (first | (refine d_AOs (h := ?_) ; first | refine o_move (h := ?_) | refine o_assign (h := ?_) | refine AOs.nil (h := ?_) | (refine d_grd (h := ?_) ; first | refine g_yes (h := ?_)) | refine o_slArr (h := ?_) | refine o_slArrLoG (q := n) (h := ?_) | refine o_call (hc := (hA _ _ (by first | (simp only [mem_tail, mem_tail0, List.getElem?_cons_zero, List.getElem?_cons_succ]; first | done | rfl) | exact mem_head (by assumption) | assumption | (simp only [mem_tailS, mem_tailS0, List.getElem?_cons_zero, List.getElem?_cons_succ]; first | done | rfl) | exact mem_set1 (by assumption) | exact mem_set0 (by assumption) | exact mem_setN1 (by assumption) (by assumption) | exact mem_setN (by assumption) (by assumption)))) (h := ?_) | refine o_call (hc := (hC _ _ (by first | (simp only [mem_tail, mem_tail0, List.getElem?_cons_zero, List.getElem?_cons_succ]; first | done | rfl) | exact mem_head (by assumption) | assumption | (simp only [mem_tailS, mem_tailS0, List.getElem?_cons_zero, List.getElem?_cons_succ]; first | done | rfl) | exact mem_set1 (by assumption) | exact mem_set0 (by assumption) | exact mem_setN1 (by assumption) (by assumption) | exact mem_setN (by assumption) (by assumption)))) (h := ?_) | refine o_pick (h := ?_) | refine o_not (h := ?_) | refine o_box (h := ?_)) | (refine d_AW (h := ?_) ; first | refine AW.seq (h := ?_) | refine AW.region (h := ?_) | refine AW.ret (h := ?_)) | (first | refine t_normal ?_) | (refine d_post (h := ?_) ; first | refine p_ret1 rfl (h := ?_)) | fail)

    all_goals first | rfl | (exfalso; simp at hc; done)
end Go.Proofs.Ytjghdagcmombnaa
