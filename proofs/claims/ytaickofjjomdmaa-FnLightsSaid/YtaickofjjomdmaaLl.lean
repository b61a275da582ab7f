/- A plan that is drawn, and the light's way: plain facts. -/
import Derived.Test.YtaickofjjomdmaaLd2
import Derived.Test.YtaickofjjomdmaaSl
namespace Go.Proofs.Ytaickofjjomdmaa
open Go.RowKit
attribute [local irreducible] AW AOs AO AQ AQW thenA inBlockA postA ACalls Pure
set_option linter.unusedSimpArgs false

section
variable (a : Option Addr) (n cp : Nat) (cd : Nat → Int)
theorem sP6Plan (hcd : ∀ q, 0 ≤ cd q ∧ cd q ≤ 255) (hn : n ≤ 1048576) (M : Mem) (hS : SlAt M a n (tab n fun q => .int .u8 (cd q))) :
    Alloc Try.prog 14 [.slice a n cp] M (.agg (.slice (some ⟨M.length, 0, some (dN n cd (0, 0))⟩) (dN n cd (0, 0)) (dN n cd (0, 0)) :: [.int .i64 (dB n cd (0, 0)), .int .i64 (dO n cd (0, 0))]).toArray)
      [⟨rows (dN n cd (0, 0)) (dRow n cd (dE n cd (0, 0))), some (dN n cd (0, 0)), true⟩] := by
  refine alloc_of [2] Try.func14 Try.ntmps14 rfl rfl rfl (by decide) ?_
  have hd := sdrawn a n cp cd hcd hn (0, 0) (M.length + 1) (M ++ [dA0, srcB a n cp (0, 0)]) (by simp) (by first | (simp only [mem_tail, mem_tail0, List.getElem?_cons_zero, List.getElem?_cons_succ]; first | done | rfl) | exact mem_head (by assumption) | assumption | (simp only [mem_tailS, mem_tailS0, List.getElem?_cons_zero, List.getElem?_cons_succ]; first | done | rfl) | exact mem_set1 (by assumption) | exact mem_set0 (by assumption) | exact mem_setN1 (by assumption) (by assumption) | exact mem_setN (by assumption) (by assumption)) hS.append
  have hl : (M ++ [dA0, srcB a n cp (0, 0)]).length = M.length + 2 := by simp
  rw [hl] at hd
  have hmm : ∀ X R : Blk, (M ++ [dA0, srcB a n cp (0, 0)]).set (M.length + 1) X ++ [R] = M ++ [dA0, X, R] := fun X R => by
    rw [set_tail]; simp
  generalize dN n cd (0, 0) = N at *
  generalize dB n cd (0, 0) = b at *
  generalize dC n cd (0, 0) = C at *
  generalize dO n cd (0, 0) = O at *
  generalize dE n cd (0, 0) = e at *
  simp only [envOf, Nat.zero_add, Nat.reduceAdd]
  repeat' (first | (refine d_AOs (h := ?_) ; first | refine o_move (h := ?_) | refine o_assign (h := ?_) | refine AOs.nil (h := ?_)  | refine o_callA (hc := (sfrom a n cp _)) (h := ?_) | refine o_callMV (hc := hd) (hv := rfl) (hm := hmm _ _) (h := ?_) | refine o_at (h := ?_) | refine o_store (h := ?_) | refine o_alloc (h := ?_) ) | (refine d_AW (h := ?_) ; first | refine AW.seq (h := ?_) | refine AW.region (h := ?_) | (refine AW.cond (ht := (fun hc => ?_)) (hf := (fun hc => ?_)) <;> (try (with_reducible first | exact absurd hc Bool.false_ne_true | exact absurd hc.symm Bool.false_ne_true)) <;> (try simp only [decide_eq_true_eq, decide_eq_false_iff_not, Int.ofNat_inj, Bool.not_eq_true', Bool.not_eq_false', Int.not_lt, Int.not_le] at hc) <;> (try (exfalso; omega)) <;> (try (exact absurd hc (by decide)))) | refine AW.block (h := ?_) | refine AW.ret (h := ?_) | refine AW.skip (h := ?_) | refine AW.exit (h := ?_) ) | (first | refine t_normal ?_ | refine t_ret ?_ | refine t_exit ?_ | refine b_normal ?_ | refine b_exit ?_ | refine b_exit' (by decide) ?_ | refine b_ret ?_) | (refine d_post (h := ?_) ; first | refine p_ret1 rfl (h := ?_) | refine p_end1 rfl (h := ?_) | refine p_cell1 rfl (h := ?_) ))
  refine p_allocC rfl (by rfl) (by first | (simp only [mem_tail, mem_tail0, List.getElem?_cons_zero, List.getElem?_cons_succ]; first | done | rfl) | exact mem_head (by assumption) | assumption | (simp only [mem_tailS, mem_tailS0, List.getElem?_cons_zero, List.getElem?_cons_succ]; first | done | rfl) | exact mem_set1 (by assumption) | exact mem_set0 (by assumption) | exact mem_setN1 (by assumption) (by assumption) | exact mem_setN (by assumption) (by assumption)) rfl (by rfl) (by rfl) rfl (by rfl) (fun c hc => flat_rows (fun q => flat_dRow n cd e q) c hc) (by repeat' (first | exact Flat.bool _ | exact Flat.int _ _ | exact Flat.float _ _ | exact Flat.string _ | exact flat_nil | exact flat_tabL (fun _ => Flat.bool _) | exact flat_tabL (fun _ => Flat.int _ _) | exact flat_tabL (fun _ => Flat.float _ _) | refine flat_tuple ?_ | refine flat_agg ?_ | refine flat_cons ?_ ?_ | refine flat_append ?_ ?_))
end

/-! ### The light's way -/
def stopV (mt : Bool) (mn mx : Int) : Int := if mt = true then mx else mn
theorem stop_bd {mt : Bool} {mn mx : Int} (h : timesSP mn mx) : 1 ≤ stopV mt mn mx ∧ stopV mt mn mx ≤ mx ∧ mn ≤ stopV mt mn mx := by
  unfold timesSP at h
  unfold stopV; split <;> omega
theorem stop_iff {mt : Bool} {mn mx si : Int} (h : timesSP mn mx) : ((mn ≤ si + 1 ∧ mt = false) ∨ mx ≤ si + 1) ↔ stopV mt mn mx ≤ si + 1 := by
  unfold timesSP at h
  unfold stopV
  cases mt
  · simp; omega
  · simp
section
variable {n : Nat} {b o : Int} {G : Nat → Nat → Bool} {T : Nat → Int} {p : Nat → Bool} {sl si : Nat} {mn mx : Int} (hp : planP n T b o) (ht : timesSP mn mx)
include hp ht
theorem step_A (hl : sl < n) (hs : (si : Int) ≤ 1000) (h : (si : Int) + 1 < stopV (anyM p (G sl) 8 0) mn mx) : stepV n b o G T p sl si false mn mx = lightT sl ((si + 1 : Nat) : Int) false 0 := by
  unfold stepV
  rw [if_pos ⟨hp, by unfold lightP; simp; omega⟩, if_pos ht]
  unfold stepF
  simp only [Int.toNat_natCast]
  rw [if_neg (by decide), if_neg (fun h' => by have := (stop_iff ht).1 h'; omega), if_neg (by omega)]
  rfl
theorem step_B (hl : sl < n) (hs : (si : Int) ≤ 1000) (h : (si : Int) + 1 = stopV (anyM p (G sl) 8 0) mn mx) (hb : b = 0) : stepV n b o G T p sl si false mn mx = lightT (((sl : Int) + 1).tmod n) 0 false 0 := by
  unfold stepV
  rw [if_pos ⟨hp, by unfold lightP; simp; omega⟩, if_pos ht]
  unfold stepF
  simp only [Int.toNat_natCast]
  rw [if_neg (by decide), if_pos ((stop_iff ht).2 (by omega)), if_pos hb]
theorem step_C (hl : sl < n) (hs : (si : Int) ≤ 1000) (h : (si : Int) + 1 = stopV (anyM p (G sl) 8 0) mn mx) (hb : b ≠ 0) : stepV n b o G T p sl si false mn mx = lightT sl 0 true 0 := by
  unfold stepV
  rw [if_pos ⟨hp, by unfold lightP; simp; omega⟩, if_pos ht]
  unfold stepF
  simp only [Int.toNat_natCast]
  rw [if_neg (by decide), if_pos ((stop_iff ht).2 (by omega)), if_neg hb]
theorem step_D (hl : sl < n) (hs : (si : Int) ≤ 1000) (h : (si : Int) + 1 < b) : stepV n b o G T p sl si true mn mx = lightT sl ((si + 1 : Nat) : Int) true 0 := by
  unfold stepV
  rw [if_pos ⟨hp, by unfold lightP; simp; omega⟩, if_pos ht]
  unfold stepF
  simp only [Int.toNat_natCast]
  rw [if_pos trivial, if_neg (by omega), if_neg (by omega)]
  rfl
theorem step_E (hl : sl < n) (hs : (si : Int) ≤ 1000) (h : (si : Int) + 1 = b) : stepV n b o G T p sl si true mn mx = lightT (((sl : Int) + 1).tmod n) 0 false 0 := by
  unfold stepV
  rw [if_pos ⟨hp, by unfold lightP; simp; omega⟩, if_pos ht]
  unfold stepF
  simp only [Int.toNat_natCast]
  rw [if_pos trivial, if_pos h]
end
section
variable {n : Nat} {b o : Int} {G : Nat → Nat → Bool} {T : Nat → Int} {sl si : Nat}
theorem lph_G (hp : planP n T b o) (hl : sl < n) (hs : (si : Int) ≤ 1000) : lphV n b o G T sl si false = .tuple [.agg (tab 8 fun i => .bool (G sl i)).toArray, .int .i64 0].toArray := by
  unfold lphV
  rw [if_pos ⟨hp, by unfold lightP; simp; omega⟩]
  simp only [Int.toNat_natCast]; rfl
theorem lph_R (hp : planP n T b o) (hl : sl < n) (hs : (si : Int) ≤ 1000) (hb : b ≠ 0) : lphV n b o G T sl si true = .tuple [.agg (tab 8 fun _ => .bool false).toArray, .int .i64 0].toArray := by
  unfold lphV
  rw [if_pos ⟨hp, by unfold lightP; simp; omega⟩]
  simp only; rfl
end
theorem next_mod {sl n : Nat} (h : sl < n) : ∃ s' : Nat, ((sl : Int) + 1).tmod n = (s' : Int) ∧ s' < n ∧ ((s' : Int) = sl → n = 1) := by
  rw [Int.tmod_eq_emod_of_nonneg (by omega)]
  by_cases e : sl + 1 = n
  · refine ⟨0, ?_, by omega, by omega⟩
    rw [show ((sl : Int) + 1) = (n : Int) by omega, Int.emod_self]; rfl
  · refine ⟨sl + 1, ?_, by omega, by omega⟩
    rw [Int.emod_eq_of_lt (by omega) (by omega)]; rfl
theorem wf_small {x : Int} (h : -1000000 ≤ x ∧ x ≤ 1000000) : (Lit.int .i64 x).wf = true := by
  show (decide (IntKind.i64.min ≤ x) && decide (x ≤ IntKind.i64.max)) = true
  have e1 : IntKind.i64.min = -9223372036854775808 := by decide
  have e2 : IntKind.i64.max = 9223372036854775807 := by decide
  rw [e1, e2]; simp; omega
end Go.Proofs.Ytaickofjjomdmaa
