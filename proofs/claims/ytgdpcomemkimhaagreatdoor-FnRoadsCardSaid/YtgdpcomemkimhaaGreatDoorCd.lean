/- Codes: of a condition, and the first one of some. -/
import Derived.Test.YtgdpcomemkimhaaGreatDoorRw

namespace Go.Proofs.YtgdpcomemkimhaaGreatDoor
open Go.RowKit
attribute [local irreducible] AW AOs AO AQ AQW thenA inBlockA postA ACalls Pure
set_option linter.unusedSimpArgs false
set_option linter.unusedVariables false
set_option linter.unusedSectionVars false

/-! ### Codes -/
theorem icodeIf (b : Bool) (c : Int) (M : Mem) : Pure Tryz.prog 67 [.bool b, .int .i64 c] M (.int .i64 (if b then c else 0)) := by
  refine pure_of Tryz.func67 Tryz.ntmps67 rfl rfl (by repeat' (first | exact Flat.bool _ | exact Flat.int _ _ | exact Flat.float _ _ | exact Flat.string _ | exact flat_nil | exact flat_tabL (fun _ => Flat.bool _) | exact flat_tabL (fun _ => Flat.int _ _) | exact flat_tabL (fun _ => Flat.float _ _) | refine flat_tuple ?_ | refine flat_agg ?_ | refine flat_cons ?_ ?_ | refine flat_append ?_ ?_)) ?_
  simp only [envOf, Nat.zero_add, Nat.reduceAdd]
  repeat' (first | (refine d_AOs (h := ?_) ; first | refine o_move (h := ?_) | refine o_assign (h := ?_) | refine AOs.nil (h := ?_)  | refine o_at (h := ?_) ) | (refine d_AW (h := ?_) ; first | refine AW.seq (h := ?_) | refine AW.region (h := ?_) | (refine AW.cond (ht := (fun hc => ?_)) (hf := (fun hc => ?_)) <;> (try (with_reducible first | exact absurd hc Bool.false_ne_true | exact absurd hc.symm Bool.false_ne_true)) <;> (try simp only [decide_eq_true_eq, decide_eq_false_iff_not, Int.ofNat_inj, Bool.not_eq_true', Bool.not_eq_false', Int.not_lt, Int.not_le] at hc) <;> (try (exfalso; omega)) <;> (try (exact absurd hc (by decide)))) | refine AW.block (h := ?_) | refine AW.ret (h := ?_) | refine AW.skip (h := ?_) | refine AW.exit (h := ?_) ) | (first | refine t_normal ?_ | refine t_ret ?_ | refine t_exit ?_ | refine b_normal ?_ | refine b_exit ?_ | refine b_exit' (by decide) ?_ | refine b_ret ?_) | (refine d_post (h := ?_) ; first | refine p_ret1 rfl (h := ?_) | refine p_end1 rfl (h := ?_) | refine p_cell1 rfl (h := ?_) ))
  all_goals (simp_all; try rfl)
def fcode : List Int → Int
  | [] => 0
  | c :: cs => if c = 0 then fcode cs else c
theorem drop_next {α : Type} {l : List α} {i : Nat} (h : i < l.length) : l.drop i = l[i] :: l.drop (i + 1) := List.drop_eq_getElem_cons h
theorem ifirstCode (cs : List Int) (j cp : Nat) (tg : Option Nat) (rw' : Bool) (M : Mem) (hn : cs.length ≤ 1000) (hb : M[j]? = some ⟨cs.map (Value.int .i64), tg, rw'⟩) : Pure Tryz.prog 66 [.slice (some ⟨j, 0, tg⟩) cs.length cp] M (.int .i64 (fcode cs)) := by
  refine pure_of Tryz.func66 Tryz.ntmps66 rfl rfl (by repeat' (first | exact Flat.bool _ | exact Flat.int _ _ | exact Flat.float _ _ | exact Flat.string _ | exact flat_nil | exact flat_tabL (fun _ => Flat.bool _) | exact flat_tabL (fun _ => Flat.int _ _) | exact flat_tabL (fun _ => Flat.float _ _) | refine flat_tuple ?_ | refine flat_agg ?_ | refine flat_cons ?_ ?_ | refine flat_append ?_ ?_)) ?_
  simp only [envOf, Nat.zero_add, Nat.reduceAdd]
  repeat' (first | (refine d_AOs (h := ?_) ; first | refine o_move (h := ?_) | refine o_assign (h := ?_) | refine AOs.nil (h := ?_) | (refine d_bin (h := ?_) ; first | refine o_addS (h := ?_) | refine o_add (h := ?_) | refine o_lss (h := ?_) | refine o_neB (h := ?_) | refine o_nei (h := ?_) )  | refine o_load (h := ?_) | refine o_at (h := ?_) | refine o_len (h := ?_) | refine o_lenS (h := ?_) | refine o_ixS (h := ?_) | refine o_ix (h := ?_) ) | (refine d_AW (h := ?_) ; first | refine AW.seq (h := ?_) | refine AW.region (h := ?_) | (refine AW.cond (ht := (fun hc => ?_)) (hf := (fun hc => ?_)) <;> (try (with_reducible first | exact absurd hc Bool.false_ne_true | exact absurd hc.symm Bool.false_ne_true)) <;> (try simp only [decide_eq_true_eq, decide_eq_false_iff_not, Int.ofNat_inj, Bool.not_eq_true', Bool.not_eq_false', Int.not_lt, Int.not_le] at hc) <;> (try (exfalso; omega)) <;> (try (exact absurd hc (by decide)))) | refine AW.block (h := ?_) | refine AW.ret (h := ?_) | refine AW.skip (h := ?_) | refine AW.exit (h := ?_) ) | (first | refine t_normal ?_ | refine t_ret ?_ | refine t_exit ?_ | refine b_normal ?_ | refine b_exit ?_ | refine b_exit' (by decide) ?_ | refine b_ret ?_) | (refine d_post (h := ?_) ; first | refine p_ret1 rfl (h := ?_) | refine p_end1 rfl (h := ?_) | refine p_cell1 rfl (h := ?_) ))
  refine AW.loopN [5, 6, 7] (fun k s => ∃ (i : Nat), i + k = cs.length ∧ fcode (cs.drop i) = fcode cs ∧ s = ⟨15, [(5, .slice (some ⟨j, 0, tg⟩) cs.length cp), (6, .int .i64 cs.length), (7, .int .i64 i)], M⟩) cs.length ⟨0, by omega, rfl, rfl⟩ ?_
  rintro k s ⟨i, hi, hT, rfl⟩
  by_cases hin : i < cs.length
  · have hld : ldA .one i (cs.map (Value.int .i64)) = some (.int .i64 cs[i]) := by show (cs.map (Value.int .i64))[i]? = _; simp [hin]
    rw [drop_next hin, fcode] at hT
    repeat' (first | (refine d_AOs (h := ?_) ; first | refine o_move (h := ?_) | refine o_assign (h := ?_) | refine AOs.nil (h := ?_) | (refine d_bin (h := ?_) ; first | refine o_addS (h := ?_) | refine o_add (h := ?_) | refine o_lss (h := ?_) | refine o_neB (h := ?_) | refine o_nei (h := ?_) )  | refine o_load (hv := by simpa using hld) (h := ?_) | refine o_load (h := ?_) | refine o_at (h := ?_) | refine o_len (h := ?_) | refine o_lenS (h := ?_) | refine o_ixS (h := ?_) | refine o_ix (h := ?_) ) | (refine d_AW (h := ?_) ; first | refine AW.seq (h := ?_) | refine AW.region (h := ?_) | (refine AW.cond (ht := (fun hc => ?_)) (hf := (fun hc => ?_)) <;> (try (with_reducible first | exact absurd hc Bool.false_ne_true | exact absurd hc.symm Bool.false_ne_true)) <;> (try simp only [decide_eq_true_eq, decide_eq_false_iff_not, Int.ofNat_inj, Bool.not_eq_true', Bool.not_eq_false', Int.not_lt, Int.not_le] at hc) <;> (try (exfalso; omega)) <;> (try (exact absurd hc (by decide)))) | refine AW.block (h := ?_) | refine AW.ret (h := ?_) | refine AW.skip (h := ?_) | refine AW.exit (h := ?_) ) | (first | refine t_normal ?_ | refine t_ret ?_ | refine t_exit ?_ | refine b_normal ?_ | refine b_exit ?_ | refine b_exit' (by decide) ?_ | refine b_ret ?_) | (refine d_post (h := ?_) ; first | refine p_ret1 rfl (h := ?_) | refine p_end1 rfl (h := ?_) | refine p_cell1 rfl (h := ?_) ))
    · rw [← hT, if_neg (by simpa using hc)]
    · refine ⟨k - 1, by omega, i + 1, by omega, ?_, rfl⟩
      rw [← hT, if_pos (by simpa using hc)]
  · repeat' (first | (refine d_AOs (h := ?_) ; first | refine o_move (h := ?_) | refine o_assign (h := ?_) | refine AOs.nil (h := ?_) | (refine d_bin (h := ?_) ; first | refine o_addS (h := ?_) | refine o_add (h := ?_) | refine o_lss (h := ?_) | refine o_neB (h := ?_) | refine o_nei (h := ?_) )  | refine o_load (h := ?_) | refine o_at (h := ?_) | refine o_len (h := ?_) | refine o_lenS (h := ?_) | refine o_ixS (h := ?_) | refine o_ix (h := ?_) ) | (refine d_AW (h := ?_) ; first | refine AW.seq (h := ?_) | refine AW.region (h := ?_) | (refine AW.cond (ht := (fun hc => ?_)) (hf := (fun hc => ?_)) <;> (try (with_reducible first | exact absurd hc Bool.false_ne_true | exact absurd hc.symm Bool.false_ne_true)) <;> (try simp only [decide_eq_true_eq, decide_eq_false_iff_not, Int.ofNat_inj, Bool.not_eq_true', Bool.not_eq_false', Int.not_lt, Int.not_le] at hc) <;> (try (exfalso; omega)) <;> (try (exact absurd hc (by decide)))) | refine AW.block (h := ?_) | refine AW.ret (h := ?_) | refine AW.skip (h := ?_) | refine AW.exit (h := ?_) ) | (first | refine t_normal ?_ | refine t_ret ?_ | refine t_exit ?_ | refine b_normal ?_ | refine b_exit ?_ | refine b_exit' (by decide) ?_ | refine b_ret ?_) | (refine d_post (h := ?_) ; first | refine p_ret1 rfl (h := ?_) | refine p_end1 rfl (h := ?_) | refine p_cell1 rfl (h := ?_) ))
    rw [← hT, List.drop_eq_nil_of_le (by omega)]; rfl
theorem ifirstCode2 (a b : Int) (j cp : Nat) (tg : Option Nat) (rw' : Bool) (M : Mem) (hb : M[j]? = some ⟨[.int .i64 a, .int .i64 b], tg, rw'⟩) : Pure Tryz.prog 66 [.slice (some ⟨j, 0, tg⟩) 2 cp] M (.int .i64 (if a = 0 then b else a)) := by
  have h := ifirstCode [a, b] j cp tg rw' M (by simp) hb
  have e : fcode [a, b] = if a = 0 then b else a := by simp only [fcode]; by_cases h1 : a = 0 <;> by_cases h2 : b = 0 <;> simp [h1, h2]
  rw [e] at h
  exact h

theorem icodeIfT (c : Int) (M : Mem) : Pure Tryz.prog 67 [.bool true, .int .i64 c] M (.int .i64 c) := icodeIf true c M
theorem icodeIfF (c : Int) (M : Mem) : Pure Tryz.prog 67 [.bool false, .int .i64 c] M (.int .i64 0) := icodeIf false c M
theorem icodeIfTd {p : Prop} [Decidable p] (hp : p) (c : Int) (M : Mem) : Pure Tryz.prog 67 [.bool (decide p), .int .i64 c] M (.int .i64 c) := by rw [decide_eq_true hp]; exact icodeIfT c M
theorem icodeIfFd {p : Prop} [Decidable p] (hp : ¬ p) (c : Int) (M : Mem) : Pure Tryz.prog 67 [.bool (decide p), .int .i64 c] M (.int .i64 0) := by rw [decide_eq_false hp]; exact icodeIfF c M
theorem ifirstCode2L (a b : Int) (j cp : Nat) (tg : Option Nat) (rw' : Bool) (M : Mem) (ha : a ≠ 0) (hb : M[j]? = some ⟨[.int .i64 a, .int .i64 b], tg, rw'⟩) : Pure Tryz.prog 66 [.slice (some ⟨j, 0, tg⟩) 2 cp] M (.int .i64 a) := by
  have h := ifirstCode2 a b j cp tg rw' M hb
  rwa [if_neg ha] at h
theorem ifirstCode2R (b : Int) (j cp : Nat) (tg : Option Nat) (rw' : Bool) (M : Mem) (hb : M[j]? = some ⟨[.int .i64 0, .int .i64 b], tg, rw'⟩) : Pure Tryz.prog 66 [.slice (some ⟨j, 0, tg⟩) 2 cp] M (.int .i64 b) := by
  have h := ifirstCode2 0 b j cp tg rw' M hb
  rwa [if_pos rfl] at h

end Go.Proofs.YtgdpcomemkimhaaGreatDoor
