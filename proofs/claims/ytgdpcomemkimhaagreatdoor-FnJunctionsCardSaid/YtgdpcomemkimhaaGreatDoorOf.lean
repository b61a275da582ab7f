/- Codes: of a condition, and the first one of some. -/
import Derived.Test.YtgdpcomemkimhaaGreatDoorDr2
import Derived.Test.YtgdpcomemkimhaaGreatDoorCc
import Derived.Test.YtgdpcomemkimhaaGreatDoorFr
import Derived.Test.YtgdpcomemkimhaaGreatDoorOpW

namespace Go.Proofs.YtgdpcomemkimhaaGreatDoor
open Go.RowKit
attribute [local irreducible] AW AOs AO AQ AQW thenA inBlockA postA ACalls Pure
set_option linter.unusedSimpArgs false
set_option linter.unusedVariables false
set_option linter.unusedSectionVars false

/-! ### Codes -/
theorem icodeIf (b : Bool) (c : Int) (M : Mem) : Pure Tryz.prog 67 [.bool b, .int .i64 c] M (.int .i64 (if b then c else 0)) := by
  refine pure_of Tryz.func67 Tryz.ntmps67 rfl rfl (by repeat' (first | exact Flat.int _ _)) ?_
  simp only [envOf, Nat.zero_add, Nat.reduceAdd]
  repeat' (first | (refine d_AOs (h := ?_) ; first | refine o_move (h := ?_) | refine o_assign (h := ?_) | refine AOs.nil (h := ?_)) | (refine d_AW (h := ?_) ; first | refine AW.seq (h := ?_) | refine AW.region (h := ?_) | (refine AW.cond (ht := (fun hc => ?_)) (hf := (fun hc => ?_)) <;> (try (with_reducible first | exact absurd hc Bool.false_ne_true | exact absurd hc.symm Bool.false_ne_true)) <;> (try simp only [decide_eq_true_eq, decide_eq_false_iff_not, Int.ofNat_inj, Bool.not_eq_true', Bool.not_eq_false', Int.not_lt, Int.not_le] at hc) <;> (try (exfalso; omega)) <;> (try (exact absurd hc (by decide)))) | refine AW.ret (h := ?_) | refine AW.skip (h := ?_)) | (first | refine t_normal ?_ | refine t_ret ?_) | (refine d_post (h := ?_) ; first | refine p_ret1 rfl (h := ?_)))
  all_goals (simp_all; try rfl)
def fcode : List Int → Int
  | [] => 0
  | c :: cs => if c = 0 then fcode cs else c
theorem drop_next {α : Type} {l : List α} {i : Nat} (h : i < l.length) : l.drop i = l[i] :: l.drop (i + 1) := List.drop_eq_getElem_cons h
theorem ifirstCode (cs : List Int) (j cp : Nat) (tg : Option Nat) (rw' : Bool) (M : Mem) (hn : cs.length ≤ 1000) (hb : M[j]? = some ⟨cs.map (Value.int .i64), tg, rw'⟩) : Pure Tryz.prog 66 [.slice (some ⟨j, 0, tg⟩) cs.length cp] M (.int .i64 (fcode cs)) := by
  refine pure_of Tryz.func66 Tryz.ntmps66 rfl rfl (by repeat' (first | exact Flat.int _ _)) ?_
  simp only [envOf, Nat.zero_add, Nat.reduceAdd]
  repeat' (first | (refine d_AOs (h := ?_) ; first | refine o_move (h := ?_) | refine o_assign (h := ?_) | refine AOs.nil (h := ?_) | refine o_len (h := ?_)) | (refine d_AW (h := ?_) ; first | refine AW.seq (h := ?_) | refine AW.region (h := ?_) | refine AW.block (h := ?_)) | (first | refine t_normal ?_))
  refine AW.loopN [5, 6, 7] (fun k s => ∃ (i : Nat), i + k = cs.length ∧ fcode (cs.drop i) = fcode cs ∧ s = ⟨15, [(5, .slice (some ⟨j, 0, tg⟩) cs.length cp), (6, .int .i64 cs.length), (7, .int .i64 i)], M⟩) cs.length ⟨0, by omega, rfl, rfl⟩ ?_
  rintro k s ⟨i, hi, hT, rfl⟩
  by_cases hin : i < cs.length
  · have hld : ldA .one i (cs.map (Value.int .i64)) = some (.int .i64 cs[i]) := by show (cs.map (Value.int .i64))[i]? = _; simp [hin]
    rw [drop_next hin, fcode] at hT
    repeat' (first | (refine d_AOs (h := ?_) ; first | refine o_move (h := ?_) | refine o_assign (h := ?_) | refine AOs.nil (h := ?_) | (refine d_bin (h := ?_) ; first | refine o_addS (h := ?_) | refine o_lss (h := ?_) | refine o_nei (h := ?_)) | refine o_load (hv := by simpa using hld) (h := ?_) | refine o_ixS (h := ?_)) | (refine d_AW (h := ?_) ; first | refine AW.seq (h := ?_) | refine AW.region (h := ?_) | (refine AW.cond (ht := (fun hc => ?_)) (hf := (fun hc => ?_)) <;> (try (with_reducible first | exact absurd hc Bool.false_ne_true | exact absurd hc.symm Bool.false_ne_true)) <;> (try simp only [decide_eq_true_eq, decide_eq_false_iff_not, Int.ofNat_inj, Bool.not_eq_true', Bool.not_eq_false', Int.not_lt, Int.not_le] at hc) <;> (try (exfalso; omega)) <;> (try (exact absurd hc (by decide)))) | refine AW.block (h := ?_) | refine AW.ret (h := ?_) | refine AW.skip (h := ?_)) | (first | refine t_normal ?_ | refine t_ret ?_ | refine b_normal ?_ | refine b_ret ?_) | (refine d_post (h := ?_) ; first | refine p_ret1 rfl (h := ?_)))
    · rw [← hT, if_neg (by simpa using hc)]
    · refine ⟨k - 1, by omega, i + 1, by omega, ?_, rfl⟩
      rw [← hT, if_pos (by simpa using hc)]
  · repeat' (first | (refine d_AOs (h := ?_) ; first | refine o_assign (h := ?_) | refine AOs.nil (h := ?_) | (refine d_bin (h := ?_) ; first | refine o_lss (h := ?_))) | (refine d_AW (h := ?_) ; first | refine AW.seq (h := ?_) | refine AW.region (h := ?_) | (refine AW.cond (ht := (fun hc => ?_)) (hf := (fun hc => ?_)) <;> (try (with_reducible first | exact absurd hc Bool.false_ne_true | exact absurd hc.symm Bool.false_ne_true)) <;> (try simp only [decide_eq_true_eq, decide_eq_false_iff_not, Int.ofNat_inj, Bool.not_eq_true', Bool.not_eq_false', Int.not_lt, Int.not_le] at hc) <;> (try (exfalso; omega)) <;> (try (exact absurd hc (by decide)))) | refine AW.ret (h := ?_) | refine AW.exit (h := ?_)) | (first | refine t_normal ?_ | refine t_exit ?_ | refine b_exit ?_) | (refine d_post (h := ?_) ; first | refine p_ret1 rfl (h := ?_)))
    rw [← hT, List.drop_eq_nil_of_le (by omega)]; rfl
theorem ifirstCode2 (a b : Int) (j cp : Nat) (tg : Option Nat) (rw' : Bool) (M : Mem) (hb : M[j]? = some ⟨[.int .i64 a, .int .i64 b], tg, rw'⟩) : Pure Tryz.prog 66 [.slice (some ⟨j, 0, tg⟩) 2 cp] M (.int .i64 (if a = 0 then b else a)) := by
  have h := ifirstCode [a, b] j cp tg rw' M (by simp) hb
  have e : fcode [a, b] = if a = 0 then b else a := by simp only [fcode]; by_cases h1 : a = 0 <;> by_cases h2 : b = 0 <;> simp [h1, h2]
  rw [e] at h
  exact h

theorem icodeIfT (c : Int) (M : Mem) : Pure Tryz.prog 67 [.bool true, .int .i64 c] M (.int .i64 c) := icodeIf true c M
theorem icodeIfF (c : Int) (M : Mem) : Pure Tryz.prog 67 [.bool false, .int .i64 c] M (.int .i64 0) := icodeIf false c M
theorem icodeIfTd {p : Prop} [Decidable p] (hp : p) (c : Int) (M : Mem) : Pure Tryz.prog 67 [.bool (decide p), .int .i64 c] M (.int .i64 c) := by rw [decide_eq_true hp]; exact icodeIfT c M
theorem icodeIfFd {p : Prop} [Decidable p] (hp : ¬ p) (c : Int) (M : Mem) : Pure Tryz.prog 67 [.bool (decide p), .int .i64 c] M (.int .i64 0) := by rw [decide_eq_false hp]; exact icodeIfF c M
theorem ifirstCode2L (a b : Int) (j cp : Nat) (tg : Option Nat) (rw' : Bool) (M : Mem) (ha : a ≠ 0) (hb : M[j]? = some ⟨[.int .i64 a, .int .i64 b], tg, rw'⟩) : Pure Tryz.prog 66 [.slice (some ⟨j, 0, tg⟩) 2 cp] M (.int .i64 a) := by
  have h := ifirstCode2 a b j cp tg rw' M hb
  rwa [if_neg ha] at h
theorem ifirstCode2R (b : Int) (j cp : Nat) (tg : Option Nat) (rw' : Bool) (M : Mem) (hb : M[j]? = some ⟨[.int .i64 0, .int .i64 b], tg, rw'⟩) : Pure Tryz.prog 66 [.slice (some ⟨j, 0, tg⟩) 2 cp] M (.int .i64 b) := by
  have h := ifirstCode2 0 b j cp tg rw' M hb
  rwa [if_pos rfl] at h

end Go.Proofs.YtgdpcomemkimhaaGreatDoor

/- Roads: what their functions give, of a road that is valid. -/
namespace Go.Proofs.YtgdpcomemkimhaaGreatDoor
open Go.RowKit
attribute [local irreducible] AW AOs AO AQ AQW thenA inBlockA postA ACalls Pure
set_option linter.unusedSimpArgs false
set_option linter.unusedVariables false
set_option linter.unusedSectionVars false

section
variable {c : Nat → Nat} {p b l : Nat}
variable (hr : RdOk c p b l)
include hr
end
end Go.Proofs.YtgdpcomemkimhaaGreatDoor

/- Quotients of amounts lie above minus one. No program in sight. -/
namespace Go.Proofs.YtgdpcomemkimhaaGreatDoor
open Go.RowKit Ieee

end Go.Proofs.YtgdpcomemkimhaaGreatDoor

/- What the functions on plans give. -/
namespace Go.Proofs.YtgdpcomemkimhaaGreatDoor
open Go.RowKit
attribute [local irreducible] AW AOs AO AQ AQW thenA inBlockA postA ACalls Pure
set_option linter.unusedSimpArgs false
set_option linter.unusedVariables false
set_option linter.unusedSectionVars false

/-! ### Copies, sizes, comparison -/
/-! ### The cycle -/
def cycR (T : Nat → Int) (b : Int) : Nat → Nat → Int → Int
  | 0, _, s => s
  | k + 1, i, s => if (1 ≤ T i ∧ T i ≤ 240) ∧ 0 ≤ b ∧ b ≤ 240 then (if 240 < s + (T i + b) then s + (T i + b) else cycR T b k (i + 1) (s + (T i + b))) else 241
def cyc (n : Nat) (T : Nat → Int) (b : Int) : Int := cycR T b n 0 0
/-- A plan is valid. -/
def planP (n : Nat) (T : Nat → Int) (b o : Int) : Prop := (1 ≤ n ∧ n ≤ 8) ∧ cyc n T b ≤ 240 ∧ 0 ≤ o ∧ o ≤ cyc n T b - 1
instance (n : Nat) (T : Nat → Int) (b o : Int) : Decidable (planP n T b o) := by unfold planP; infer_instance
end Go.Proofs.YtgdpcomemkimhaaGreatDoor

/- Valid plans, their cycles, lights. -/
namespace Go.Proofs.YtgdpcomemkimhaaGreatDoor
open Go.RowKit
attribute [local irreducible] AW AOs AO AQ AQW thenA inBlockA postA ACalls Pure
set_option linter.unusedSimpArgs false
set_option linter.unusedVariables false
set_option linter.unusedSectionVars false

/-! ### The program's way -/
def idxK (p : Nat → Bool) : Nat → Nat → Int
  | 0, _ => -1
  | k + 1, i => if p i then (i : Int) else idxK p k (i + 1)
theorem idxK_pos {p : Nat → Bool} : ∀ (k i : Nat), (0 ≤ idxK p k i ↔ ∃ q, i ≤ q ∧ q < i + k ∧ p q = true)
  | 0, i => by simp [idxK]; intro q _ _; omega
  | k + 1, i => by
    simp only [idxK]
    by_cases h : p i = true
    · rw [if_pos h]; exact ⟨fun _ => ⟨i, by omega, by omega, h⟩, fun _ => by omega⟩
    · rw [if_neg h, idxK_pos k (i + 1)]
      constructor
      · rintro ⟨q, h1, h2, h3⟩; exact ⟨q, by omega, by omega, h3⟩
      · rintro ⟨q, h1, h2, h3⟩
        have : q ≠ i := fun e => h (by rw [← e]; exact h3)
        exact ⟨q, by omega, by omega, h3⟩
/-! ### The laws of valid plans and of their cycles -/
end Go.Proofs.YtgdpcomemkimhaaGreatDoor

/- Shared green: weights and amounts. -/
namespace Go.Proofs.YtgdpcomemkimhaaGreatDoor
open Go.RowKit
attribute [local irreducible] AW AOs AO AQ AQW thenA inBlockA postA ACalls Pure
set_option linter.unusedSimpArgs false
set_option linter.unusedVariables false
set_option linter.unusedSectionVars false

/-! ### Amounts -/
theorem iareAm1 (a : Nat) (M : Mem) : Pure Tryz.prog 163 [.float .f32 a] M (.bool (!isAm a)) := by
  refine pure_of Tryz.func163 Tryz.ntmps163 rfl rfl (by repeat' (first | exact Flat.bool _)) ?_
  simp only [envOf, Nat.zero_add, Nat.reduceAdd]
  repeat' (first | (refine d_AOs (h := ?_) ; first | refine o_move (h := ?_) | refine o_assign (h := ?_) | refine AOs.nil (h := ?_) | refine o_call (hc := (iIsAmount _ _)) (h := ?_) | refine o_not (h := ?_)) | (refine d_AW (h := ?_) ; first | refine AW.seq (h := ?_) | refine AW.region (h := ?_) | refine AW.ret (h := ?_)) | (first | refine t_normal ?_) | (refine d_post (h := ?_) ; first | refine p_ret1 rfl (h := ?_)))
  all_goals rfl
section
variable (a : Option Addr) (n cp : Nat) (d : Nat → Nat) (M : Mem) (hn : n ≤ 1048576) (hS : SlAt M a n (tab n fun q => .float .f32 (d q)))
include hn hS
theorem iIndexAm : Pure Tryz.prog 142 [.slice a n cp, .func (.func 163) #[] #[]] M (.int .i64 (idxK (fun q => !isAm (d q)) n 0)) := by
  refine pure_of Tryz.func142 Tryz.ntmps142 rfl rfl (by repeat' (first | exact Flat.int _ _)) ?_
  simp only [envOf, Nat.zero_add, Nat.reduceAdd]
  repeat' (first | (refine d_AOs (h := ?_) ; first | refine o_move (h := ?_) | refine o_assign (h := ?_) | refine AOs.nil (h := ?_) | refine o_len (h := ?_)) | (refine d_AW (h := ?_) ; first | refine AW.seq (h := ?_) | refine AW.region (h := ?_) | refine AW.block (h := ?_)) | (first | refine t_normal ?_))
  refine AW.loopN [0, 1, 7, 8] (fun k s => ∃ (i : Nat), i + k = n ∧ idxK (fun q => !isAm (d q)) k i = idxK (fun q => !isAm (d q)) n 0 ∧ s = ⟨19, [(0, .slice a n cp), (1, .func (.func 163) #[] #[]), (7, .int .i64 n), (8, .int .i64 i)], M⟩) n ⟨0, by omega, rfl, rfl⟩ ?_
  rintro k s ⟨i, hi, hR, rfl⟩
  by_cases hin : i < n
  · obtain ⟨b1, tg, rw1, rfl, hb⟩ := hS (by omega)
    obtain ⟨k', rfl⟩ : ∃ k', k = k' + 1 := ⟨k - 1, by omega⟩
    simp only [idxK] at hR
    have hF := fun M' => iareAm1 (d i) M'
    cases h1 : isAm (d i)
    · rw [h1] at hF
      simp only [h1, Bool.not_false, if_true] at hR
      repeat' (first | (refine d_AOs (h := ?_) ; first | refine o_move (h := ?_) | refine o_assign (h := ?_) | refine AOs.nil (h := ?_) | (refine d_bin (h := ?_) ; first | refine o_lss (h := ?_)) | refine o_callVP (hc := (hF _)) (h := ?_) | refine o_load (h := ?_) | refine o_ixS (h := ?_)) | (refine d_AW (h := ?_) ; first | refine AW.seq (h := ?_) | refine AW.region (h := ?_) | (refine AW.cond (ht := (fun hc => ?_)) (hf := (fun hc => ?_)) <;> (try (with_reducible first | exact absurd hc Bool.false_ne_true | exact absurd hc.symm Bool.false_ne_true)) <;> (try simp only [decide_eq_true_eq, decide_eq_false_iff_not, Int.ofNat_inj, Bool.not_eq_true', Bool.not_eq_false', Int.not_lt, Int.not_le] at hc) <;> (try (exfalso; omega)) <;> (try (exact absurd hc (by decide)))) | refine AW.block (h := ?_) | refine AW.ret (h := ?_) | refine AW.skip (h := ?_)) | (first | refine t_normal ?_ | refine t_ret ?_ | refine b_ret ?_) | (refine d_post (h := ?_) ; first | refine p_ret1 rfl (h := ?_)))
      all_goals first | (rw [← hR]; done) | (rw [← hR]; rfl) | (exfalso; simp at hc; done)
    · rw [h1] at hF
      simp only [h1, Bool.not_true, Bool.false_eq_true, if_false] at hR
      repeat' (first | (refine d_AOs (h := ?_) ; first | refine o_move (h := ?_) | refine o_assign (h := ?_) | refine AOs.nil (h := ?_) | (refine d_bin (h := ?_) ; first | refine o_addS (h := ?_) | refine o_lss (h := ?_)) | refine o_callVP (hc := (hF _)) (h := ?_) | refine o_load (h := ?_) | refine o_ixS (h := ?_)) | (refine d_AW (h := ?_) ; first | refine AW.seq (h := ?_) | refine AW.region (h := ?_) | (refine AW.cond (ht := (fun hc => ?_)) (hf := (fun hc => ?_)) <;> (try (with_reducible first | exact absurd hc Bool.false_ne_true | exact absurd hc.symm Bool.false_ne_true)) <;> (try simp only [decide_eq_true_eq, decide_eq_false_iff_not, Int.ofNat_inj, Bool.not_eq_true', Bool.not_eq_false', Int.not_lt, Int.not_le] at hc) <;> (try (exfalso; omega)) <;> (try (exact absurd hc (by decide)))) | refine AW.block (h := ?_) | refine AW.skip (h := ?_)) | (first | refine t_normal ?_ | refine b_normal ?_))
      all_goals first | exact ⟨k', by omega, i + 1, by omega, hR, rfl⟩ | (exfalso; simp at hc; done)
  · repeat' (first | (refine d_AOs (h := ?_) ; first | refine o_assign (h := ?_) | refine AOs.nil (h := ?_) | (refine d_bin (h := ?_) ; first | refine o_lss (h := ?_))) | (refine d_AW (h := ?_) ; first | refine AW.seq (h := ?_) | refine AW.region (h := ?_) | (refine AW.cond (ht := (fun hc => ?_)) (hf := (fun hc => ?_)) <;> (try (with_reducible first | exact absurd hc Bool.false_ne_true | exact absurd hc.symm Bool.false_ne_true)) <;> (try simp only [decide_eq_true_eq, decide_eq_false_iff_not, Int.ofNat_inj, Bool.not_eq_true', Bool.not_eq_false', Int.not_lt, Int.not_le] at hc) <;> (try (exfalso; omega)) <;> (try (exact absurd hc (by decide)))) | refine AW.ret (h := ?_) | refine AW.exit (h := ?_)) | (first | refine t_normal ?_ | refine t_exit ?_ | refine b_exit ?_) | (refine d_post (h := ?_) ; first | refine p_ret1 rfl (h := ?_)))
    obtain rfl : k = 0 := by omega
    rw [← hR]; rfl
theorem iContainsAm : Pure Tryz.prog 115 [.slice a n cp, .func (.func 163) #[] #[]] M (.bool (decide (0 ≤ idxK (fun q => !isAm (d q)) n 0))) := by
  refine pure_of Tryz.func115 Tryz.ntmps115 rfl rfl (by repeat' (first | exact Flat.bool _)) ?_
  simp only [envOf, Nat.zero_add, Nat.reduceAdd]
  repeat' (first | (refine d_AOs (h := ?_) ; first | refine o_move (h := ?_) | refine o_assign (h := ?_) | refine AOs.nil (h := ?_) | (refine d_bin (h := ?_) ; first | refine o_geq (h := ?_)) | refine o_call (hc := (iIndexAm a n cp d _ hn hS)) (h := ?_)) | (refine d_AW (h := ?_) ; first | refine AW.seq (h := ?_) | refine AW.region (h := ?_) | refine AW.ret (h := ?_)) | (first | refine t_normal ?_) | (refine d_post (h := ?_) ; first | refine p_ret1 rfl (h := ?_)))
  all_goals rfl
def amsK (d : Nat → Nat) (n : Nat) : Bool := okK (fun i => isAm (d i)) n 0
omit hn hS in
theorem ams_all {d : Nat → Nat} {n : Nat} : amsK d n = true ↔ ∀ q, q < n → isAm (d q) = true := by
  unfold amsK
  rw [okK_all]
  exact ⟨fun h q hq => h q (by omega) (by omega), fun h q _ hq => h q (by omega)⟩
omit hn hS in
theorem ams_idx {d : Nat → Nat} {n : Nat} : (!decide (0 ≤ idxK (fun q => !isAm (d q)) n 0)) = amsK d n := by
  cases h : amsK d n
  · have : 0 ≤ idxK (fun q => !isAm (d q)) n 0 := by
      rw [idxK_pos]
      refine Classical.byContradiction fun hn => ?_
      have := (ams_all (d := d) (n := n)).2 fun q hq => by
        cases h2 : isAm (d q)
        · exact (hn ⟨q, by omega, by omega, by rw [h2]; rfl⟩).elim
        · rfl
      rw [this] at h; cases h
    rw [decide_eq_true this]; rfl
  · have : ¬ 0 ≤ idxK (fun q => !isAm (d q)) n 0 := fun h0 => by
      obtain ⟨q, _, h2, h3⟩ := (idxK_pos _ _).1 h0
      rw [ams_all.1 h q (by omega)] at h3; cases h3
    rw [decide_eq_false this]; rfl
theorem iareAmounts : Pure Tryz.prog 139 [.slice a n cp] M (.bool (amsK d n)) := by
  refine pure_of Tryz.func139 Tryz.ntmps139 rfl rfl (by repeat' (first | exact Flat.bool _)) ?_
  rw [← ams_idx]
  simp only [envOf, Nat.zero_add, Nat.reduceAdd]
  repeat' (first | (refine d_AOs (h := ?_) ; first | refine o_move (h := ?_) | refine o_assign (h := ?_) | refine AOs.nil (h := ?_) | refine o_call (hc := (iContainsAm a n cp d _ hn hS)) (h := ?_) | refine o_not (h := ?_)) | (refine d_AW (h := ?_) ; first | refine AW.seq (h := ?_) | refine AW.region (h := ?_) | refine AW.ret (h := ?_)) | (first | refine t_normal ?_) | (refine d_post (h := ?_) ; first | refine p_ret1 rfl (h := ?_)))
  all_goals rfl
end
end Go.Proofs.YtgdpcomemkimhaaGreatDoor

/- Roads: flows, steps. -/
namespace Go.Proofs.YtgdpcomemkimhaaGreatDoor
open Go.RowKit
attribute [local irreducible] AW AOs AO AQ AQW thenA inBlockA postA ACalls Pure
set_option linter.unusedSimpArgs false
set_option linter.unusedVariables false
set_option linter.unusedSectionVars false

section
variable {c : Nat → Nat} {p b l : Nat}
variable (hr : RdOk c p b l)
include hr
end
end Go.Proofs.YtgdpcomemkimhaaGreatDoor

/- Roads: ramps, smoothing, equality. -/
namespace Go.Proofs.YtgdpcomemkimhaaGreatDoor
open Go.RowKit
attribute [local irreducible] AW AOs AO AQ AQW thenA inBlockA postA ACalls Pure
set_option linter.unusedSimpArgs false
set_option linter.unusedVariables false
set_option linter.unusedSectionVars false

section
variable {c : Nat → Nat} {p b l : Nat}
/-! ### Smoothing -/
variable (hr : RdOk c p b l)
include hr
end
end Go.Proofs.YtgdpcomemkimhaaGreatDoor

/- Open regions: each block has a course of its own; places are kept for blocks to come. No program in sight. -/
namespace Go.Proofs.YtgdpcomemkimhaaGreatDoor
open Go.RowKit
set_option linter.unusedSimpArgs false
set_option linter.unusedVariables false

/-- What a course has come to where the operations S have come. -/
def crs {α : Type} : List (Nat × α) → α → (Nat → Bool) → α
  | [], b, _ => b
  | (p, m) :: ps, b, S => bif S p then crs ps m S else b
def noFirst : List Kn → Prop
  | [] => True
  | k :: _ => k = .no
def obC {α : Type} : List Kn → List (Nat × α) → α → (α → α → Prop) → Prop
  | k :: ks, (_, m) :: ps, m0, f => match k with
    | .yes => obC ks ps m f
    | .no => f m0 m0
    | .free => f m0 m0 ∧ obC ks ps m f
    | .self => noFirst ks ∧ f m0 m
  | [], [], m0, f => f m0 m0
  | _, _, _, _ => False
theorem obC.at {α : Type} {ops : List Oper} {i : Nat} {S : Nat → Bool} (h1 : ∀ q, q ∈ (pres ops).getD i [] → S q = true) (h2 : ∀ q, i ∈ (pres ops).getD q [] → S q = false) (h3 : S i = false) :
    ∀ {ps : List (Nat × α)} {ks : List Kn} {m0 : α} {f : α → α → Prop}, ps.map (fun x => knW ops x.1 i) = ks → obC ks ps m0 f → f (crs ps m0 S) (crs ps m0 (withI S i))
  | [], ks, m0, f, hk, h => by
    subst hk; exact h
  | (p, m) :: ps, ks, m0, f, hk, h => by
    subst hk
    simp only [List.map_cons, obC] at h
    simp only [crs]
    cases hkn : knW ops p i with
    | yes =>
      rw [hkn] at h
      obtain ⟨ha, hb⟩ := ObK.at (ops := ops) (p := p) (i := i) (S := S) (f := fun b => b = true) (by rw [hkn]; exact rfl) h1 h2 h3
      rw [hkn] at hb
      rw [hb, ha]
      exact obC.at h1 h2 h3 rfl h
    | no =>
      rw [hkn] at h
      obtain ⟨ha, hb⟩ := ObK.at (ops := ops) (p := p) (i := i) (S := S) (f := fun b => b = false) (by rw [hkn]; exact rfl) h1 h2 h3
      rw [hkn] at hb
      rw [hb, ha]
      exact h
    | free =>
      rw [hkn] at h
      obtain ⟨ha, hb⟩ := ObK.at (ops := ops) (p := p) (i := i) (S := S) (f := fun _ => True) (by rw [hkn]; exact ⟨trivial, trivial⟩) h1 h2 h3
      rw [hkn] at hb
      rw [hb]
      show f (bif S p then _ else _) (bif S p then _ else _)
      cases S p
      · exact h.1
      · exact obC.at h1 h2 h3 rfl h.2
    | self =>
      rw [hkn] at h
      obtain ⟨ha, hb⟩ := ObK.at (ops := ops) (p := p) (i := i) (S := S) (f := fun b => b = false) (by rw [hkn]; exact rfl) h1 h2 h3
      rw [hkn] at hb
      rw [hb, ha]
      have hm : crs ps m (withI S i) = m := by
        cases ps with
        | nil => rfl
        | cons x ps =>
          have hno : knW ops x.1 i = .no := h.1
          obtain ⟨hc, hd⟩ := ObK.at (ops := ops) (p := x.1) (i := i) (S := S) (f := fun b => b = false) (by rw [hno]; exact rfl) h1 h2 h3
          rw [hno] at hd
          show (bif withI S i x.1 then _ else m) = m
          rw [hd]
          show (bif S x.1 then _ else m) = m
          rw [hc]; rfl
      show f m0 (crs ps m (withI S i))
      rw [hm]
      exact h.2
/-- Several courses side by side. -/
def obT : List (List Kn) → List (Blk × List (Nat × Blk)) → (List Blk → List Blk → Prop) → Prop
  | ks :: kss, tl :: tls, f => obC ks tl.2 tl.1 fun x y => obT kss tls fun xs ys => f (x :: xs) (y :: ys)
  | [], [], f => f [] []
  | _, _, _ => False
theorem obT.at {ops : List Oper} {i : Nat} {S : Nat → Bool} (h1 : ∀ q, q ∈ (pres ops).getD i [] → S q = true) (h2 : ∀ q, i ∈ (pres ops).getD q [] → S q = false) (h3 : S i = false) :
    ∀ {tls : List (Blk × List (Nat × Blk))} {kss : List (List Kn)} {f : List Blk → List Blk → Prop}, tls.map (fun tl => tl.2.map fun x => knW ops x.1 i) = kss → obT kss tls f →
      f (tls.map fun tl => crs tl.2 tl.1 S) (tls.map fun tl => crs tl.2 tl.1 (withI S i))
  | [], kss, f, hk, h => by subst hk; exact h
  | tl :: tls, kss, f, hk, h => by
    subst hk
    have h0 : obC (tl.2.map fun x => knW ops x.1 i) tl.2 tl.1 fun x y => obT (tls.map fun tl => tl.2.map fun x => knW ops x.1 i) tls fun xs ys => f (x :: xs) (y :: ys) := h
    have h' := obC.at (f := fun x y => obT (tls.map fun tl => tl.2.map fun x => knW ops x.1 i) tls fun xs ys => f (x :: xs) (y :: ys)) h1 h2 h3 rfl h0
    exact obT.at (f := fun xs ys => f (crs tl.2 tl.1 S :: xs) (crs tl.2 tl.1 (withI S i) :: ys)) h1 h2 h3 rfl h'
/-! ### Places kept for blocks to come -/
def gones (k : Nat) : Mem := List.replicate k gone
theorem Sim.more {B0 : Nat} {w0 : World} {r : Ren} {M : Mem} {w : World} (h : Sim B0 w0 r M w) (k : Nat) : Sim B0 w0 r (M ++ gones k) w := by
  have hg : ∀ {j b}, M.length ≤ j → (M ++ gones k)[j]? = some b → b = gone := fun {j b} hj hb => by
    rw [List.getElem?_append_right hj] at hb
    exact List.eq_of_mem_replicate (List.mem_of_getElem? hb)
  have hl : ∀ {j b}, j < M.length → (M ++ gones k)[j]? = some b → M[j]? = some b := fun {j b} hj hb => by rwa [List.getElem?_append_left hj] at hb
  refine ⟨h.below, h.base, fun j t c hr => ?_, h.lt, fun j b hb => ?_, fun i j b b' c z z' hb hb' hw hc hc' => ?_⟩
  · obtain ⟨b, hb, ht⟩ := h.dom j t c hr
    exact ⟨b, by rw [List.getElem?_append_left (List.getElem?_eq_some_iff.1 hb).1]; exact hb, ht⟩
  · by_cases hj : j < M.length
    · exact h.blk j b (hl hj hb)
    · obtain rfl := hg (by omega) hb
      refine .inl ⟨⟨rfl, rfl⟩, fun t => ?_⟩
      cases hr : r j t with
      | none => rfl
      | some c =>
        obtain ⟨b, hb, _⟩ := h.dom j t c hr
        exact absurd (List.getElem?_eq_some_iff.1 hb).1 hj
  · have h1 : i < M.length := by
      obtain ⟨b, hb, _⟩ := h.dom i _ _ hc
      exact (List.getElem?_eq_some_iff.1 hb).1
    have h2 : j < M.length := by
      obtain ⟨b, hb, _⟩ := h.dom j _ _ hc'
      exact (List.getElem?_eq_some_iff.1 hb).1
    exact h.inj i j b b' c z z' (hl h1 hb) (hl h2 hb') hw hc hc'
theorem AW.more {P : Program} {c : Code} {Q : Exit → St → Prop} {n : Nat} {t : Env} {m : Mem} (k : Nat) (h : AW P c Q ⟨n, t, m ++ gones k⟩) : AW P c Q ⟨n, t, m⟩ :=
  fun B0 w0 r a w hs => h B0 w0 r a w ⟨hs.defers, hs.size, hs.vals, hs.sim.more k⟩
section
variable {P : Program} {ops l : List Oper} {K : St → Prop} {n : Nat} {t : Env} {m0 M : Mem} {tls : List (Blk × List (Nat × Blk))} {d ty : Nat} {pos : String} {af : Array Edge} {op : Op}
end
section
variable {P : Program} {ops : List Oper} {n : Nat} {t : Env} {M m N : Mem} {d ty : Nat} {pos : String} {af : Array Edge} {op : Op} {B : Blk}
end
end Go.Proofs.YtgdpcomemkimhaaGreatDoor
