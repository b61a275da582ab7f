/- Codes: of a condition, and the first one of some. -/
import Derived.Test.YtjghdagcmombnaaDr2
import Derived.Test.YtjghdagcmombnaaSa
import Derived.Test.YtjghdagcmombnaaJn
import Derived.Test.YtjghdagcmombnaaOpW
import Derived.Test.YtjghdagcmombnaaCc

namespace Go.Proofs.Ytjghdagcmombnaa
open Go.RowKit
attribute [local irreducible] AW AOs AO AQ AQW thenA inBlockA postA ACalls Pure
set_option linter.unusedSimpArgs false
set_option linter.unusedVariables false
set_option linter.unusedSectionVars false

/-! ### Codes -/
theorem icodeIf (b : Bool) (c : Int) (M : Mem) : Pure Try.prog 36 [.bool b, .int .i64 c] M (.int .i64 (if b then c else 0)) := by
  refine pure_of Try.func36 Try.ntmps36 rfl rfl (by repeat' (first | exact Flat.bool _ | exact Flat.int _ _ | exact Flat.float _ _ | exact Flat.string _ | exact flat_nil | exact flat_tabL (fun _ => Flat.bool _) | exact flat_tabL (fun _ => Flat.int _ _) | exact flat_tabL (fun _ => Flat.float _ _) | refine flat_tuple ?_ | refine flat_agg ?_ | refine flat_cons ?_ ?_ | refine flat_append ?_ ?_)) ?_
  simp only [envOf, Nat.zero_add, Nat.reduceAdd]
  repeat' (first | (refine d_AOs (h := ?_) ; first | refine o_move (h := ?_) | refine o_assign (h := ?_) | refine AOs.nil (h := ?_)  | refine o_at (h := ?_) ) | (refine d_AW (h := ?_) ; first | refine AW.seq (h := ?_) | refine AW.region (h := ?_) | (refine AW.cond (ht := (fun hc => ?_)) (hf := (fun hc => ?_)) <;> (try (with_reducible first | exact absurd hc Bool.false_ne_true | exact absurd hc.symm Bool.false_ne_true)) <;> (try simp only [decide_eq_true_eq, decide_eq_false_iff_not, Int.ofNat_inj, Bool.not_eq_true', Bool.not_eq_false', Int.not_lt, Int.not_le] at hc) <;> (try (exfalso; omega)) <;> (try (exact absurd hc (by decide)))) | refine AW.block (h := ?_) | refine AW.ret (h := ?_) | refine AW.skip (h := ?_) | refine AW.exit (h := ?_) ) | (first | refine t_normal ?_ | refine t_ret ?_ | refine t_exit ?_ | refine b_normal ?_ | refine b_exit ?_ | refine b_exit' (by decide) ?_ | refine b_ret ?_) | (refine d_post (h := ?_) ; first | refine p_ret1 rfl (h := ?_) | refine p_end1 rfl (h := ?_) | refine p_cell1 rfl (h := ?_) ))
  all_goals (simp_all; try rfl)
theorem icodeIfF (c : Int) (M : Mem) : Pure Try.prog 36 [.bool false, .int .i64 c] M (.int .i64 0) := icodeIf false c M
end Go.Proofs.Ytjghdagcmombnaa

/- Roads: what their functions give, of a road that is valid. -/
namespace Go.Proofs.Ytjghdagcmombnaa
open Go.RowKit
attribute [local irreducible] AW AOs AO AQ AQW thenA inBlockA postA ACalls Pure
set_option linter.unusedSimpArgs false
set_option linter.unusedVariables false
set_option linter.unusedSectionVars false

set_option maxHeartbeats 1000000 in
theorem ilesser (a b : Nat) (M : Mem) : Pure Try.prog 63 [.float .f32 a, .float .f32 b] M (.float .f32 (less a b)) := by
  refine pure_of Try.func63 Try.ntmps63 rfl rfl (by repeat' (first | exact Flat.bool _ | exact Flat.int _ _ | exact Flat.float _ _ | exact Flat.string _ | exact flat_nil | exact flat_tabL (fun _ => Flat.bool _) | exact flat_tabL (fun _ => Flat.int _ _) | exact flat_tabL (fun _ => Flat.float _ _) | refine flat_tuple ?_ | refine flat_agg ?_ | refine flat_cons ?_ ?_ | refine flat_append ?_ ?_)) ?_
  unfold less
  simp only [envOf, Nat.zero_add, Nat.reduceAdd]
  cases hc0 : flt .f32 b a
  all_goals repeat' (first | (refine d_AOs (h := ?_) ; first | refine o_move (h := ?_) | refine o_assign (h := ?_) | refine AOs.nil (h := ?_) | (refine d_bin (h := ?_) ; first | refine o_lss (h := ?_) | refine o_flt (h := ?_) )  | refine o_at (h := ?_) ) | (refine d_AW (h := ?_) ; first | refine AW.seq (h := ?_) | refine AW.region (h := ?_) | (refine AW.cond (ht := (fun hc => ?_)) (hf := (fun hc => ?_)) <;> (try (with_reducible first | exact absurd hc Bool.false_ne_true | exact absurd hc.symm Bool.false_ne_true)) <;> (try simp only [decide_eq_true_eq, decide_eq_false_iff_not, Int.ofNat_inj, Bool.not_eq_true', Bool.not_eq_false', Int.not_lt, Int.not_le] at hc) <;> (try (exfalso; omega)) <;> (try (exact absurd hc (by decide)))) | refine AW.block (h := ?_) | refine AW.ret (h := ?_) | refine AW.skip (h := ?_) | refine AW.exit (h := ?_) ) | (first | refine t_normal ?_ | refine t_ret ?_ | refine t_exit ?_ | refine b_normal ?_ | refine b_exit ?_ | refine b_exit' (by decide) ?_ | refine b_ret ?_) | (refine d_post (h := ?_) ; first | refine p_ret1 rfl (h := ?_) | refine p_end1 rfl (h := ?_) | refine p_cell1 rfl (h := ?_) ))
  all_goals first | rfl | (exfalso; simp_all; done)
section
variable {c : Nat → Nat} {p b l : Nat}
variable (hr : RdOk c p b l)
include hr
end
end Go.Proofs.Ytjghdagcmombnaa

/- Quotients of amounts lie above minus one. No program in sight. -/
namespace Go.Proofs.Ytjghdagcmombnaa
open Go.RowKit Ieee

end Go.Proofs.Ytjghdagcmombnaa

/- What the functions on plans give. -/
namespace Go.Proofs.Ytjghdagcmombnaa
open Go.RowKit
attribute [local irreducible] AW AOs AO AQ AQW thenA inBlockA postA ACalls Pure
set_option linter.unusedSimpArgs false
set_option linter.unusedVariables false
set_option linter.unusedSectionVars false

/-! ### Copies, sizes, comparison -/
/-! ### The cycle -/
def cycR (T : Nat → Int) (b : Int) : Nat → Nat → Int → Int
  | 0, _, s => s
  | k + 1, i, s => if (1 ≤ T i ∧ T i ≤ 240) ∧ 0 ≤ b ∧ b ≤ 240 then (if 240 < s + (T i + b) then s + (T i + b) else cycR T b k (i + 1) (s + (T i + b))) else 241
def cyc (n : Nat) (T : Nat → Int) (b : Int) : Int := cycR T b n 0 0
/-- A plan is valid. -/
def planP (n : Nat) (T : Nat → Int) (b o : Int) : Prop := (1 ≤ n ∧ n ≤ 8) ∧ cyc n T b ≤ 240 ∧ 0 ≤ o ∧ o ≤ cyc n T b - 1
instance (n : Nat) (T : Nat → Int) (b o : Int) : Decidable (planP n T b o) := by unfold planP; infer_instance
end Go.Proofs.Ytjghdagcmombnaa

/- Valid plans, their cycles, lights. -/
namespace Go.Proofs.Ytjghdagcmombnaa
open Go.RowKit
attribute [local irreducible] AW AOs AO AQ AQW thenA inBlockA postA ACalls Pure
set_option linter.unusedSimpArgs false
set_option linter.unusedVariables false
set_option linter.unusedSectionVars false

/-! ### The program's way -/
def idxK (p : Nat → Bool) : Nat → Nat → Int
  | 0, _ => -1
  | k + 1, i => if p i then (i : Int) else idxK p k (i + 1)
theorem idxK_pos {p : Nat → Bool} : ∀ (k i : Nat), (0 ≤ idxK p k i ↔ ∃ q, i ≤ q ∧ q < i + k ∧ p q = true)
  | 0, i => by simp [idxK]; intro q _ _; omega
  | k + 1, i => by
    simp only [idxK]
    by_cases h : p i = true
    · rw [if_pos h]; exact ⟨fun _ => ⟨i, by omega, by omega, h⟩, fun _ => by omega⟩
    · rw [if_neg h, idxK_pos k (i + 1)]
      constructor
      · rintro ⟨q, h1, h2, h3⟩; exact ⟨q, by omega, by omega, h3⟩
      · rintro ⟨q, h1, h2, h3⟩
        have : q ≠ i := fun e => h (by rw [← e]; exact h3)
        exact ⟨q, by omega, by omega, h3⟩
/-! ### The laws of valid plans and of their cycles -/
end Go.Proofs.Ytjghdagcmombnaa

/- Shared green: weights and amounts. -/
namespace Go.Proofs.Ytjghdagcmombnaa
open Go.RowKit
attribute [local irreducible] AW AOs AO AQ AQW thenA inBlockA postA ACalls Pure
set_option linter.unusedSimpArgs false
set_option linter.unusedVariables false
set_option linter.unusedSectionVars false

theorem igreater (a b : Nat) (M : Mem) : Pure Try.prog 25 [.float .f32 a, .float .f32 b] M (.float .f32 (if fgt .f32 b a = true then b else a)) := by
  refine pure_of Try.func25 Try.ntmps25 rfl rfl (by split <;> exact Flat.float _ _) ?_
  simp only [envOf, Nat.zero_add, Nat.reduceAdd]
  cases hc0 : fgt .f32 b a
  all_goals repeat' (first | (refine d_AOs (h := ?_) ; first | refine o_move (h := ?_) | refine o_assign (h := ?_) | refine AOs.nil (h := ?_) | (refine d_bin (h := ?_) ; first | refine o_fgt (h := ?_))) | (refine d_AW (h := ?_) ; first | refine AW.seq (h := ?_) | refine AW.region (h := ?_) | (refine AW.cond (ht := (fun hc => ?_)) (hf := (fun hc => ?_)) <;> (try (with_reducible first | exact absurd hc Bool.false_ne_true | exact absurd hc.symm Bool.false_ne_true)) <;> (try simp only [decide_eq_true_eq, decide_eq_false_iff_not, Int.ofNat_inj, Bool.not_eq_true', Bool.not_eq_false', Int.not_lt, Int.not_le] at hc) <;> (try (exfalso; omega)) <;> (try (exact absurd hc (by decide)))) | refine AW.ret (h := ?_) | refine AW.skip (h := ?_)) | (first | refine t_normal ?_ | refine t_ret ?_) | (refine d_post (h := ?_) ; first | refine p_ret1 rfl (h := ?_)) | fail)
  all_goals first | rfl | (exfalso; simp_all; done)
/-! ### Amounts -/
theorem iareAm1 (a : Nat) (M : Mem) : Pure Try.prog 71 [.float .f32 a] M (.bool (!isAm a)) := by
  refine pure_of Try.func71 Try.ntmps71 rfl rfl (by repeat' (first | exact Flat.bool _ | fail)) ?_
  simp only [envOf, Nat.zero_add, Nat.reduceAdd]
  repeat' (first | (refine d_AOs (h := ?_) ; first | refine o_move (h := ?_) | refine o_assign (h := ?_) | refine AOs.nil (h := ?_) | refine o_call (hc := (iIsAmount _ _)) (h := ?_) | refine o_not (h := ?_)) | (refine d_AW (h := ?_) ; first | refine AW.seq (h := ?_) | refine AW.region (h := ?_) | refine AW.ret (h := ?_)) | (first | refine t_normal ?_) | (refine d_post (h := ?_) ; first | refine p_ret1 rfl (h := ?_)) | fail)
  all_goals rfl
section
variable (a : Option Addr) (n cp : Nat) (d : Nat → Nat) (M : Mem) (hn : n ≤ 1048576) (hS : SlAt M a n (tab n fun q => .float .f32 (d q)))
include hn hS
theorem iIndexAm : Pure Try.prog 65 [.slice a n cp, .func (.func 71) #[] #[]] M (.int .i64 (idxK (fun q => !isAm (d q)) n 0)) := by
  refine pure_of Try.func65 Try.ntmps65 rfl rfl (by repeat' (first | exact Flat.int _ _ | fail)) ?_
  simp only [envOf, Nat.zero_add, Nat.reduceAdd]
  repeat' (first | (refine d_AOs (h := ?_) ; first | refine o_move (h := ?_) | refine o_assign (h := ?_) | refine AOs.nil (h := ?_) | refine o_len (h := ?_)) | (refine d_AW (h := ?_) ; first | refine AW.seq (h := ?_) | refine AW.region (h := ?_) | refine AW.block (h := ?_)) | (first | refine t_normal ?_) | fail)
  refine AW.loopN [0, 1, 7, 8] (fun k s => ∃ (i : Nat), i + k = n ∧ idxK (fun q => !isAm (d q)) k i = idxK (fun q => !isAm (d q)) n 0 ∧ s = ⟨19, [(0, .slice a n cp), (1, .func (.func 71) #[] #[]), (7, .int .i64 n), (8, .int .i64 i)], M⟩) n ⟨0, by omega, rfl, rfl⟩ ?_
  rintro k s ⟨i, hi, hR, rfl⟩
  by_cases hin : i < n
  · obtain ⟨b1, tg, rw1, rfl, hb⟩ := hS (by omega)
    obtain ⟨k', rfl⟩ : ∃ k', k = k' + 1 := ⟨k - 1, by omega⟩
    simp only [idxK] at hR
    have hF := fun M' => iareAm1 (d i) M'
    cases h1 : isAm (d i)
    · rw [h1] at hF
      simp only [h1, Bool.not_false, if_true] at hR
      repeat' (first | (refine d_AOs (h := ?_) ; first | refine o_move (h := ?_) | refine o_assign (h := ?_) | refine AOs.nil (h := ?_) | (refine d_bin (h := ?_) ; first | refine o_lss (h := ?_)) | refine o_callVP (hc := (hF _)) (h := ?_) | refine o_load (h := ?_) | refine o_ixS (h := ?_)) | (refine d_AW (h := ?_) ; first | refine AW.seq (h := ?_) | refine AW.region (h := ?_) | (refine AW.cond (ht := (fun hc => ?_)) (hf := (fun hc => ?_)) <;> (try (with_reducible first | exact absurd hc Bool.false_ne_true | exact absurd hc.symm Bool.false_ne_true)) <;> (try simp only [decide_eq_true_eq, decide_eq_false_iff_not, Int.ofNat_inj, Bool.not_eq_true', Bool.not_eq_false', Int.not_lt, Int.not_le] at hc) <;> (try (exfalso; omega)) <;> (try (exact absurd hc (by decide)))) | refine AW.block (h := ?_) | refine AW.ret (h := ?_) | refine AW.skip (h := ?_)) | (first | refine t_normal ?_ | refine t_ret ?_ | refine b_ret ?_) | (refine d_post (h := ?_) ; first | refine p_ret1 rfl (h := ?_)) | fail)
      all_goals first | (rw [← hR]; done) | (rw [← hR]; rfl) | (exfalso; simp at hc; done)
    · rw [h1] at hF
      simp only [h1, Bool.not_true, Bool.false_eq_true, if_false] at hR
      repeat' (first | (refine d_AOs (h := ?_) ; first | refine o_move (h := ?_) | refine o_assign (h := ?_) | refine AOs.nil (h := ?_) | (refine d_bin (h := ?_) ; first | refine o_addS (h := ?_) | refine o_lss (h := ?_)) | refine o_callVP (hc := (hF _)) (h := ?_) | refine o_load (h := ?_) | refine o_ixS (h := ?_)) | (refine d_AW (h := ?_) ; first | refine AW.seq (h := ?_) | refine AW.region (h := ?_) | (refine AW.cond (ht := (fun hc => ?_)) (hf := (fun hc => ?_)) <;> (try (with_reducible first | exact absurd hc Bool.false_ne_true | exact absurd hc.symm Bool.false_ne_true)) <;> (try simp only [decide_eq_true_eq, decide_eq_false_iff_not, Int.ofNat_inj, Bool.not_eq_true', Bool.not_eq_false', Int.not_lt, Int.not_le] at hc) <;> (try (exfalso; omega)) <;> (try (exact absurd hc (by decide)))) | refine AW.block (h := ?_) | refine AW.skip (h := ?_)) | (first | refine t_normal ?_ | refine b_normal ?_) | fail)
      all_goals first | exact ⟨k', by omega, i + 1, by omega, hR, rfl⟩ | (exfalso; simp at hc; done)
  · repeat' (first | (refine d_AOs (h := ?_) ; first | refine o_assign (h := ?_) | refine AOs.nil (h := ?_) | (refine d_bin (h := ?_) ; first | refine o_lss (h := ?_))) | (refine d_AW (h := ?_) ; first | refine AW.seq (h := ?_) | refine AW.region (h := ?_) | (refine AW.cond (ht := (fun hc => ?_)) (hf := (fun hc => ?_)) <;> (try (with_reducible first | exact absurd hc Bool.false_ne_true | exact absurd hc.symm Bool.false_ne_true)) <;> (try simp only [decide_eq_true_eq, decide_eq_false_iff_not, Int.ofNat_inj, Bool.not_eq_true', Bool.not_eq_false', Int.not_lt, Int.not_le] at hc) <;> (try (exfalso; omega)) <;> (try (exact absurd hc (by decide)))) | refine AW.ret (h := ?_) | refine AW.exit (h := ?_)) | (first | refine t_normal ?_ | refine t_exit ?_ | refine b_exit ?_) | (refine d_post (h := ?_) ; first | refine p_ret1 rfl (h := ?_)) | fail)
    obtain rfl : k = 0 := by omega
    rw [← hR]; rfl
theorem iContainsAm : Pure Try.prog 45 [.slice a n cp, .func (.func 71) #[] #[]] M (.bool (decide (0 ≤ idxK (fun q => !isAm (d q)) n 0))) := by
  refine pure_of Try.func45 Try.ntmps45 rfl rfl (by repeat' (first | exact Flat.bool _ | fail)) ?_
  simp only [envOf, Nat.zero_add, Nat.reduceAdd]
  repeat' (first | (refine d_AOs (h := ?_) ; first | refine o_move (h := ?_) | refine o_assign (h := ?_) | refine AOs.nil (h := ?_) | (refine d_bin (h := ?_) ; first | refine o_geq (h := ?_)) | refine o_call (hc := (iIndexAm a n cp d _ hn hS)) (h := ?_)) | (refine d_AW (h := ?_) ; first | refine AW.seq (h := ?_) | refine AW.region (h := ?_) | refine AW.ret (h := ?_)) | (first | refine t_normal ?_) | (refine d_post (h := ?_) ; first | refine p_ret1 rfl (h := ?_)) | fail)
  all_goals rfl
def amsK (d : Nat → Nat) (n : Nat) : Bool := okK (fun i => isAm (d i)) n 0
omit hn hS in
theorem ams_all {d : Nat → Nat} {n : Nat} : amsK d n = true ↔ ∀ q, q < n → isAm (d q) = true := by
  unfold amsK
  rw [okK_all]
  exact ⟨fun h q hq => h q (by omega) (by omega), fun h q _ hq => h q (by omega)⟩
omit hn hS in
theorem ams_idx {d : Nat → Nat} {n : Nat} : (!decide (0 ≤ idxK (fun q => !isAm (d q)) n 0)) = amsK d n := by
  cases h : amsK d n
  · have : 0 ≤ idxK (fun q => !isAm (d q)) n 0 := by
      rw [idxK_pos]
      refine Classical.byContradiction fun hn => ?_
      have := (ams_all (d := d) (n := n)).2 fun q hq => by
        cases h2 : isAm (d q)
        · exact (hn ⟨q, by omega, by omega, by rw [h2]; rfl⟩).elim
        · rfl
      rw [this] at h; cases h
    rw [decide_eq_true this]; rfl
  · have : ¬ 0 ≤ idxK (fun q => !isAm (d q)) n 0 := fun h0 => by
      obtain ⟨q, _, h2, h3⟩ := (idxK_pos _ _).1 h0
      rw [ams_all.1 h q (by omega)] at h3; cases h3
    rw [decide_eq_false this]; rfl
theorem iareAmounts : Pure Try.prog 57 [.slice a n cp] M (.bool (amsK d n)) := by
  refine pure_of Try.func57 Try.ntmps57 rfl rfl (by repeat' (first | exact Flat.bool _ | fail)) ?_
  rw [← ams_idx]
  simp only [envOf, Nat.zero_add, Nat.reduceAdd]
  repeat' (first | (refine d_AOs (h := ?_) ; first | refine o_move (h := ?_) | refine o_assign (h := ?_) | refine AOs.nil (h := ?_) | refine o_call (hc := (iContainsAm a n cp d _ hn hS)) (h := ?_) | refine o_not (h := ?_)) | (refine d_AW (h := ?_) ; first | refine AW.seq (h := ?_) | refine AW.region (h := ?_) | refine AW.ret (h := ?_)) | (first | refine t_normal ?_) | (refine d_post (h := ?_) ; first | refine p_ret1 rfl (h := ?_)) | fail)
  all_goals rfl
end
end Go.Proofs.Ytjghdagcmombnaa

/- Roads: flows, steps. -/
namespace Go.Proofs.Ytjghdagcmombnaa
open Go.RowKit
attribute [local irreducible] AW AOs AO AQ AQW thenA inBlockA postA ACalls Pure
set_option linter.unusedSimpArgs false
set_option linter.unusedVariables false
set_option linter.unusedSectionVars false

section
variable {c : Nat → Nat} {p b l : Nat}
variable (hr : RdOk c p b l)
include hr
end
end Go.Proofs.Ytjghdagcmombnaa

/- Roads: ramps, smoothing, equality. -/
namespace Go.Proofs.Ytjghdagcmombnaa
open Go.RowKit
attribute [local irreducible] AW AOs AO AQ AQW thenA inBlockA postA ACalls Pure
set_option linter.unusedSimpArgs false
set_option linter.unusedVariables false
set_option linter.unusedSectionVars false

section
variable {c : Nat → Nat} {p b l : Nat}
/-! ### Smoothing -/
variable (hr : RdOk c p b l)
include hr
end
end Go.Proofs.Ytjghdagcmombnaa
