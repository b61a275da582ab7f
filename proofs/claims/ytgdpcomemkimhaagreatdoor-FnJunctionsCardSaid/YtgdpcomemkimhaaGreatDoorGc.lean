/- Roads: steps one after the other. -/
import Derived.Test.YtgdpcomemkimhaaGreatDoorOf
import Derived.Test.YtgdpcomemkimhaaGreatDoorGa
import Derived.Test.YtgdpcomemkimhaaGreatDoorCp
import Derived.Test.YtgdpcomemkimhaaGreatDoorCc
import Derived.Test.YtgdpcomemkimhaaGreatDoorFr
import Derived.Test.YtgdpcomemkimhaaGreatDoorHl
import Derived.Test.YtgdpcomemkimhaaGreatDoorGb

namespace Go.Proofs.YtgdpcomemkimhaaGreatDoor
open Go.RowKit
attribute [local irreducible] AW AOs AO AQ AQW thenA inBlockA postA ACalls Pure
set_option linter.unusedSimpArgs false
set_option linter.unusedVariables false
set_option linter.unusedSectionVars false

section
variable {P : Program} {ops l : List Oper} {K : St → Prop} {n : Nat} {t : Env} {m : Mem} {d ty : Nat} {pos : String} {af : Array Edge} {xt yt : TypeId} {x y : Operand} {k k' : IntKind} {a b c : Int}
end
/-! ### One thing many times -/
section
variable {c : Nat → Nat} {p b l : Nat}
variable (hr : RdOk c p b l)
include hr
end
end Go.Proofs.YtgdpcomemkimhaaGreatDoor

/- Roads: cars on them, full roads, steps until something is so. -/
namespace Go.Proofs.YtgdpcomemkimhaaGreatDoor
open Go.RowKit
attribute [local irreducible] AW AOs AO AQ AQW thenA inBlockA postA ACalls Pure
set_option linter.unusedSimpArgs false
set_option linter.unusedVariables false
set_option linter.unusedSectionVars false

section
variable {c : Nat → Nat} {p b l : Nat}
variable (hr : RdOk c p b l)
include hr
end
end Go.Proofs.YtgdpcomemkimhaaGreatDoor

/- Roads: filled ones, delays. -/
namespace Go.Proofs.YtgdpcomemkimhaaGreatDoor
open Go.RowKit
attribute [local irreducible] AW AOs AO AQ AQW thenA inBlockA postA ACalls Pure
set_option linter.unusedSimpArgs false
set_option linter.unusedVariables false
set_option linter.unusedSectionVars false

section
variable {c : Nat → Nat} {p b l : Nat}
variable (hr : RdOk c p b l)
include hr
end
end Go.Proofs.YtgdpcomemkimhaaGreatDoor

/- What a junction's ways want: the program's. -/
namespace Go.Proofs.YtgdpcomemkimhaaGreatDoor
open Go.RowKit
attribute [local irreducible] AW AOs AO AQ AQW thenA inBlockA postA ACalls Pure
set_option linter.unusedSimpArgs false
set_option linter.unusedVariables false
set_option linter.unusedSectionVars false

section
variable (fid : FuncId) [FnT Tryz.prog fid] (Pd : Nat → Bool) (hF : ∀ x M', Pure Tryz.prog fid [.float .f32 x] M' (.bool (Pd x)))
include hF
set_option maxHeartbeats 4000000 in
theorem jIndexNo (a : Option Addr) (n cp : Nat) (d : Nat → Nat) (M : Mem) (hn : n ≤ 1048576) (hS : SlAt M a n (tab n fun q => .float .f32 (d q))) (hno : ∀ q, q < n → Pd (d q) = false) : Pure Tryz.prog 142 [.slice a n cp, .func (.func fid) #[] #[]] M (.int .i64 (-1)) := by
  refine pure_of Tryz.func142 Tryz.ntmps142 rfl rfl (by repeat' (first | exact Flat.int _ _)) ?_
  simp only [envOf, Nat.zero_add, Nat.reduceAdd]
  repeat' (first | (refine d_AOs (h := ?_) ; first | refine o_move (h := ?_) | refine o_assign (h := ?_) | refine AOs.nil (h := ?_) | refine o_len (h := ?_)) | (refine d_AW (h := ?_) ; first | refine AW.seq (h := ?_) | refine AW.region (h := ?_) | refine AW.block (h := ?_)) | (first | refine t_normal ?_))
  refine AW.loopN [0, 1, 7, 8] (fun k s => ∃ (i : Nat), i + k = n ∧ s = ⟨19, [(0, .slice a n cp), (1, .func (.func fid) #[] #[]), (7, .int .i64 n), (8, .int .i64 (i : Int))], M⟩) n ⟨0, by omega, rfl⟩ ?_
  rintro k s ⟨i, hi, rfl⟩
  by_cases hin : i < n
  · obtain ⟨b1, tg, rw1, rfl, hb1⟩ := hS (by omega)
    have hF1 := fun M' => hF (d i) M'
    rw [hno i hin] at hF1
    repeat' (first | (refine d_AOs (h := ?_) ; first | refine o_move (h := ?_) | refine o_assign (h := ?_) | refine AOs.nil (h := ?_) | (refine d_bin (h := ?_) ; first | refine o_addS (h := ?_) | refine o_lss (h := ?_)) | refine o_callVP (hc := (hF1 _)) (h := ?_) | refine o_load (h := ?_) | refine o_ixS (h := ?_)) | (refine d_AW (h := ?_) ; first | refine AW.seq (h := ?_) | refine AW.region (h := ?_) | (refine AW.cond (ht := (fun hc => ?_)) (hf := (fun hc => ?_)) <;> (try (with_reducible first | exact absurd hc Bool.false_ne_true | exact absurd hc.symm Bool.false_ne_true)) <;> (try simp only [decide_eq_true_eq, decide_eq_false_iff_not, Int.ofNat_inj, Bool.not_eq_true', Bool.not_eq_false', Int.not_lt, Int.not_le] at hc) <;> (try (exfalso; omega)) <;> (try (exact absurd hc (by decide)))) | refine AW.block (h := ?_) | refine AW.skip (h := ?_)) | (first | refine t_normal ?_ | refine b_normal ?_))
    all_goals first | exact ⟨k - 1, by omega, i + 1, by omega, rfl⟩ | (exfalso; simp at hc; done)
  · repeat' (first | (refine d_AOs (h := ?_) ; first | refine o_assign (h := ?_) | refine AOs.nil (h := ?_) | (refine d_bin (h := ?_) ; first | refine o_lss (h := ?_))) | (refine d_AW (h := ?_) ; first | refine AW.seq (h := ?_) | refine AW.region (h := ?_) | (refine AW.cond (ht := (fun hc => ?_)) (hf := (fun hc => ?_)) <;> (try (with_reducible first | exact absurd hc Bool.false_ne_true | exact absurd hc.symm Bool.false_ne_true)) <;> (try simp only [decide_eq_true_eq, decide_eq_false_iff_not, Int.ofNat_inj, Bool.not_eq_true', Bool.not_eq_false', Int.not_lt, Int.not_le] at hc) <;> (try (exfalso; omega)) <;> (try (exact absurd hc (by decide)))) | refine AW.ret (h := ?_) | refine AW.exit (h := ?_)) | (first | refine t_normal ?_ | refine t_exit ?_ | refine b_exit ?_) | (refine d_post (h := ?_) ; first | refine p_ret1 rfl (h := ?_)))
    all_goals rfl
set_option maxHeartbeats 4000000 in
theorem jContainsNo (a : Option Addr) (n cp : Nat) (d : Nat → Nat) (M : Mem) (hn : n ≤ 1048576) (hS : SlAt M a n (tab n fun q => .float .f32 (d q))) (hno : ∀ q, q < n → Pd (d q) = false) : Pure Tryz.prog 115 [.slice a n cp, .func (.func fid) #[] #[]] M (.bool false) := by
  refine pure_of Tryz.func115 Tryz.ntmps115 rfl rfl (by repeat' (first | exact Flat.bool _)) ?_
  have hI := fun M' h => jIndexNo fid Pd hF a n cp d M' hn h hno
  simp only [envOf, Nat.zero_add, Nat.reduceAdd]
  repeat' (first | (refine d_AOs (h := ?_) ; first | refine o_move (h := ?_) | refine o_assign (h := ?_) | refine AOs.nil (h := ?_) | (refine d_bin (h := ?_) ; first | refine o_geq (h := ?_)) | refine o_call (hc := (hI _ hS)) (h := ?_)) | (refine d_AW (h := ?_) ; first | refine AW.seq (h := ?_) | refine AW.region (h := ?_) | refine AW.ret (h := ?_)) | (first | refine t_normal ?_) | (refine d_post (h := ?_) ; first | refine p_ret1 rfl (h := ?_)))
  all_goals rfl
end
section
variable (fid : FuncId) [FnT Tryz.prog fid] (Pd : Nat → Bool) (hF : ∀ x M', Pure Tryz.prog fid [.float .f32 x] M' (.bool (Pd x)))
include hF
/-- The same of a part of an array. -/
theorem jIndexNoP (j o m : Nat) (d : Nat → Nat) (M : Mem) (rw' : Bool) (hm : o + m = 4) (hb : M[j]? = some ⟨tab 4 fun q => .float .f32 (d q), none, rw'⟩) (hno : ∀ q, o ≤ q → q < 4 → Pd (d q) = false) : Pure Tryz.prog 142 [.slice (some ⟨j, o, none⟩) m m, .func (.func fid) #[] #[]] M (.int .i64 (-1)) := by
  refine pure_of Tryz.func142 Tryz.ntmps142 rfl rfl (by repeat' (first | exact Flat.int _ _)) ?_
  simp only [envOf, Nat.zero_add, Nat.reduceAdd]
  repeat' (first | (refine d_AOs (h := ?_) ; first | refine o_move (h := ?_) | refine o_assign (h := ?_) | refine AOs.nil (h := ?_) | refine o_len (h := ?_)) | (refine d_AW (h := ?_) ; first | refine AW.seq (h := ?_) | refine AW.region (h := ?_) | refine AW.block (h := ?_)) | (first | refine t_normal ?_))
  refine AW.loopN [0, 1, 7, 8] (fun k s => ∃ (i : Nat), i + k = m ∧ s = ⟨19, [(0, .slice (some ⟨j, o, none⟩) m m), (1, .func (.func fid) #[] #[]), (7, .int .i64 m), (8, .int .i64 (i : Int))], M⟩) m ⟨0, by omega, rfl⟩ ?_
  rintro k s ⟨i, hi, rfl⟩
  by_cases hin : i < m
  · have hF1 := fun M' => hF (d (o + i)) M'
    rw [hno (o + i) (by omega) (by omega)] at hF1
    have hld : ldA .one (o + i) (tab 4 fun q => Value.float .f32 (d q)) = some (.float .f32 (d (o + i))) := ld_tab (by omega) rfl
    repeat' (first | (refine d_AOs (h := ?_) ; first | refine o_move (h := ?_) | refine o_assign (h := ?_) | refine AOs.nil (h := ?_) | (refine d_bin (h := ?_) ; first | refine o_addS (h := ?_) | refine o_lss (h := ?_)) | refine o_callVP (hc := (hF1 _)) (h := ?_) | refine o_load (hv := hld) (h := ?_) | refine o_ixS (h := ?_)) | (refine d_AW (h := ?_) ; first | refine AW.seq (h := ?_) | refine AW.region (h := ?_) | (refine AW.cond (ht := (fun hc => ?_)) (hf := (fun hc => ?_)) <;> (try (with_reducible first | exact absurd hc Bool.false_ne_true | exact absurd hc.symm Bool.false_ne_true)) <;> (try simp only [decide_eq_true_eq, decide_eq_false_iff_not, Int.ofNat_inj, Bool.not_eq_true', Bool.not_eq_false', Int.not_lt, Int.not_le] at hc) <;> (try (exfalso; omega)) <;> (try (exact absurd hc (by decide)))) | refine AW.block (h := ?_) | refine AW.skip (h := ?_)) | (first | refine t_normal ?_ | refine b_normal ?_))
    all_goals first | exact ⟨k - 1, by omega, i + 1, by omega, rfl⟩ | (exfalso; simp at hc; done)
  · repeat' (first | (refine d_AOs (h := ?_) ; first | refine o_assign (h := ?_) | refine AOs.nil (h := ?_) | (refine d_bin (h := ?_) ; first | refine o_lss (h := ?_))) | (refine d_AW (h := ?_) ; first | refine AW.seq (h := ?_) | refine AW.region (h := ?_) | (refine AW.cond (ht := (fun hc => ?_)) (hf := (fun hc => ?_)) <;> (try (with_reducible first | exact absurd hc Bool.false_ne_true | exact absurd hc.symm Bool.false_ne_true)) <;> (try simp only [decide_eq_true_eq, decide_eq_false_iff_not, Int.ofNat_inj, Bool.not_eq_true', Bool.not_eq_false', Int.not_lt, Int.not_le] at hc) <;> (try (exfalso; omega)) <;> (try (exact absurd hc (by decide)))) | refine AW.ret (h := ?_) | refine AW.exit (h := ?_)) | (first | refine t_normal ?_ | refine t_exit ?_ | refine b_exit ?_) | (refine d_post (h := ?_) ; first | refine p_ret1 rfl (h := ?_)))
    all_goals rfl
theorem jContainsNoP (j o m : Nat) (d : Nat → Nat) (M : Mem) (rw' : Bool) (hm : o + m = 4) (hb : M[j]? = some ⟨tab 4 fun q => .float .f32 (d q), none, rw'⟩) (hno : ∀ q, o ≤ q → q < 4 → Pd (d q) = false) : Pure Tryz.prog 115 [.slice (some ⟨j, o, none⟩) m m, .func (.func fid) #[] #[]] M (.bool false) := by
  refine pure_of Tryz.func115 Tryz.ntmps115 rfl rfl (by repeat' (first | exact Flat.bool _)) ?_
  have hI := fun M' h => jIndexNoP fid Pd hF j o m d M' rw' hm h hno
  simp only [envOf, Nat.zero_add, Nat.reduceAdd]
  repeat' (first | (refine d_AOs (h := ?_) ; first | refine o_move (h := ?_) | refine o_assign (h := ?_) | refine AOs.nil (h := ?_) | (refine d_bin (h := ?_) ; first | refine o_geq (h := ?_)) | refine o_call (hc := (hI _ hb)) (h := ?_)) | (refine d_AW (h := ?_) ; first | refine AW.seq (h := ?_) | refine AW.region (h := ?_) | refine AW.ret (h := ?_)) | (first | refine t_normal ?_) | (refine d_post (h := ?_) ; first | refine p_ret1 rfl (h := ?_)))
  all_goals rfl
end
theorem jfin1 (x : Nat) (M : Mem) : Pure Tryz.prog 116 [.float .f32 x] M (.bool (!ffin .f32 x)) := by
  refine pure_of Tryz.func116 Tryz.ntmps116 rfl rfl (by repeat' (first | exact Flat.bool _)) ?_
  simp only [envOf, Nat.zero_add, Nat.reduceAdd]
  repeat' (first | (refine d_AOs (h := ?_) ; first | refine o_move (h := ?_) | refine o_assign (h := ?_) | refine AOs.nil (h := ?_) | refine o_call (hc := (iisFinite _ _)) (h := ?_) | refine o_not (h := ?_)) | (refine d_AW (h := ?_) ; first | refine AW.seq (h := ?_) | refine AW.region (h := ?_) | refine AW.ret (h := ?_)) | (first | refine t_normal ?_) | (refine d_post (h := ?_) ; first | refine p_ret1 rfl (h := ?_)))
  all_goals rfl
theorem jareFinite (d : Nat → Nat) (j : Nat) (rw' : Bool) (M : Mem) (hd : ∀ q, q < 4 → fin32 (d q) = true) (hb : M[j]? = some ⟨tab 4 fun q => .float .f32 (d q), none, rw'⟩) : Pure Tryz.prog 78 [.slice (some ⟨j, 0, none⟩) 4 4] M (.bool true) := by
  refine pure_of Tryz.func78 Tryz.ntmps78 rfl rfl (by repeat' (first | exact Flat.bool _)) ?_
  have hC := fun M' h => jContainsNo 116 (fun x => !ffin .f32 x) jfin1 (some ⟨j, 0, none⟩) 4 4 d M' (by omega) h (fun q hq => by
    rw [fin_ffin]
    show (!fin32 (d q)) = false
    rw [hd q hq]; rfl)
  simp only [envOf, Nat.zero_add, Nat.reduceAdd]
  repeat' (first | (refine d_AOs (h := ?_) ; first | refine o_move (h := ?_) | refine o_assign (h := ?_) | refine AOs.nil (h := ?_) | refine o_call (hc := (hC _ (SlAt.of hb))) (h := ?_) | refine o_not (h := ?_)) | (refine d_AW (h := ?_) ; first | refine AW.seq (h := ?_) | refine AW.region (h := ?_) | refine AW.ret (h := ?_)) | (first | refine t_normal ?_) | (refine d_post (h := ?_) ; first | refine p_ret1 rfl (h := ?_)))
  all_goals rfl
theorem jzero1 (x : Nat) (M : Mem) : Pure Tryz.prog 140 [.float .f32 x] M (.bool (!feq .f32 x 0)) := by
  refine pure_of Tryz.func140 Tryz.ntmps140 rfl rfl (by repeat' (first | exact Flat.bool _)) ?_
  simp only [envOf, Nat.zero_add, Nat.reduceAdd]
  repeat' (first | (refine d_AOs (h := ?_) ; first | refine o_move (h := ?_) | refine o_assign (h := ?_) | refine AOs.nil (h := ?_) | (refine d_bin (h := ?_) ; first | refine o_fne (h := ?_))) | (refine d_AW (h := ?_) ; first | refine AW.seq (h := ?_) | refine AW.region (h := ?_) | refine AW.ret (h := ?_)) | (first | refine t_normal ?_) | (refine d_post (h := ?_) ; first | refine p_ret1 rfl (h := ?_)))
  all_goals rfl
section
variable {P : Program} {ops l : List Oper} {K : St → Prop} {n : Nat} {t : Env} {m : Mem} {d ty : Nat} {pos : String} {af : Array Edge}
/-- x[len:] of an array: an empty slice. -/
theorem o_slArrEnd {at_ len k e : Nat} [ha : ArrT P at_ len k e] {x lo : Operand} {j o : Nat} {ik : IntKind} (hx : evalA t x = .pointer (some ⟨j, o, none⟩) := by (conv => (lhs; whnf)); first | done | rfl) (hh : evalA t lo = .int ik (len : Int) := by (conv => (lhs; whnf)); first | done | rfl) (hd : Nat.blt d n = true := by rfl)
    (h : AOs P ops l K ⟨n, (d, .slice none 0 2) :: t, m⟩) : AOs P ops (⟨some d, .slice at_ x (some lo) none none, ty, pos, af, none⟩ :: l) K ⟨n, t, m⟩ :=
  AOs.val (v := .slice none 0 2) rfl hd (fun B0 w0 r a w hs => by
    have hx1 := hs.eval x
    have hh1 := hs.eval lo
    rw [hx] at hx1
    rw [hh] at hh1
    obtain ⟨c, z, he, hr⟩ := hx1.ptr_inv
    have hh2 := hh1.int_inv
    obtain ⟨hu, hsz⟩ := arr_facts (P := P) (at_ := at_)
    refine ⟨.slice (some ⟨c, zo none z + o, none⟩) 0 0, ?_, .base ⟨rfl, .inr (.inr ⟨rfl, _, _, rfl⟩)⟩⟩
    simp [execOp, he, hh2, Instr.sliceAt, Instr.sureAddr, Instr.sliceBounds, Instr.sliceBound, asIntOf, run_underlying hu, hsz, addr_add]) h
end
theorem jareAm (d : Nat → Nat) (j : Nat) (rw' : Bool) (M : Mem) (hd : ∀ q, q < 4 → isAm (d q) = true) (hb : M[j]? = some ⟨tab 4 fun q => .float .f32 (d q), none, rw'⟩) : Pure Tryz.prog 139 [.slice (some ⟨j, 0, none⟩) 4 4] M (.bool true) := by
  have h1 := iareAmounts (some ⟨j, 0, none⟩) 4 4 d M (by omega) (SlAt.of hb)
  have h2 : amsK d 4 = true := ams_all.2 hd
  rwa [h2] at h1
set_option maxHeartbeats 4000000 in
theorem jareOf (d : Nat → Nat) (n : Nat) (hn : 1 ≤ n ∧ n ≤ 4) (M : Mem) (hd : ∀ q, q < 4 → isAm (d q) = true) (hz : ∀ q, n ≤ q → q < 4 → feq .f32 (d q) 0 = true) : Pure Tryz.prog 112 [.agg (tab 4 fun q => .float .f32 (d q)).toArray, .int .i64 (n : Int)] M (.bool true) := by
  refine pure_of Tryz.func112 Tryz.ntmps112 rfl rfl (by repeat' (first | exact Flat.bool _)) ?_
  have hA := fun M' j h => jareAm d j true M' hd h
  by_cases h4 : n = 4
  · subst h4
    have hC := fun M' => jContainsNo 140 (fun x => !feq .f32 x 0) jzero1 none 0 2 d M' (by omega) (fun h => absurd h (Nat.lt_irrefl 0)) (fun q hq => by omega)
    simp only [envOf, Nat.zero_add, Nat.reduceAdd]
    repeat' (first | (refine d_AOs (h := ?_) ; first | refine o_move (h := ?_) | refine o_assign (h := ?_) | refine AOs.nil (h := ?_) | (refine d_grd (h := ?_) ; first | refine g_yes (h := ?_)) | refine o_slArr (h := ?_) | refine o_slArrEnd (h := ?_) | refine o_call (hc := (hA _ _ (by first | (simp only [mem_tail, mem_tail0, List.getElem?_cons_zero, List.getElem?_cons_succ]; first | done | rfl) | exact mem_head (by assumption) | assumption | (simp only [mem_tailS, mem_tailS0, List.getElem?_cons_zero, List.getElem?_cons_succ]; first | done | rfl) | exact mem_set1 (by assumption) | exact mem_set0 (by assumption) | exact mem_setN1 (by assumption) (by assumption) | exact mem_setN (by assumption) (by assumption)))) (h := ?_) | refine o_call (hc := (hC _)) (h := ?_) | refine o_pick (h := ?_) | refine o_not (h := ?_) | refine o_box (h := ?_)) | (refine d_AW (h := ?_) ; first | refine AW.seq (h := ?_) | refine AW.region (h := ?_) | refine AW.ret (h := ?_)) | (first | refine t_normal ?_) | (refine d_post (h := ?_) ; first | refine p_ret1 rfl (h := ?_)))
    all_goals first | rfl | (exfalso; simp at hc; done)
  · have hC := fun M' j h => jContainsNoP 140 (fun x => !feq .f32 x 0) jzero1 j n (4 - n) d M' true (by omega) h (fun q h1 h2 => by rw [hz q h1 h2]; rfl)
    simp only [envOf, Nat.zero_add, Nat.reduceAdd]
    repeat' (first | (refine d_AOs (h := ?_) ; first | refine o_move (h := ?_) | refine o_assign (h := ?_) | refine AOs.nil (h := ?_) | (refine d_grd (h := ?_) ; first | refine g_yes (h := ?_)) | refine o_slArr (h := ?_) | refine o_slArrLo (q := n) (h := ?_) | refine o_call (hc := (hA _ _ (by first | (simp only [mem_tail, mem_tail0, List.getElem?_cons_zero, List.getElem?_cons_succ]; first | done | rfl) | exact mem_head (by assumption) | assumption | (simp only [mem_tailS, mem_tailS0, List.getElem?_cons_zero, List.getElem?_cons_succ]; first | done | rfl) | exact mem_set1 (by assumption) | exact mem_set0 (by assumption) | exact mem_setN1 (by assumption) (by assumption) | exact mem_setN (by assumption) (by assumption)))) (h := ?_) | refine o_call (hc := (hC _ _ (by first | (simp only [mem_tail, mem_tail0, List.getElem?_cons_zero, List.getElem?_cons_succ]; first | done | rfl) | exact mem_head (by assumption) | assumption | (simp only [mem_tailS, mem_tailS0, List.getElem?_cons_zero, List.getElem?_cons_succ]; first | done | rfl) | exact mem_set1 (by assumption) | exact mem_set0 (by assumption) | exact mem_setN1 (by assumption) (by assumption) | exact mem_setN (by assumption) (by assumption)))) (h := ?_) | refine o_pick (h := ?_) | refine o_not (h := ?_) | refine o_box (h := ?_)) | (refine d_AW (h := ?_) ; first | refine AW.seq (h := ?_) | refine AW.region (h := ?_) | refine AW.ret (h := ?_)) | (first | refine t_normal ?_) | (refine d_post (h := ?_) ; first | refine p_ret1 rfl (h := ?_)))

    all_goals first | rfl | (exfalso; simp at hc; done)
end Go.Proofs.YtgdpcomemkimhaaGreatDoor
