/- A text that is cut, and numbers that are counted, by the reference. -/
import Derived.Test.YtddmclkijheicaaGreatDoorSz

namespace Go.Proofs.YtddmclkijheicaaGreatDoor
open Go.RowKit
attribute [local irreducible] AW AOs AO AQ AQW thenA inBlockA postA ACalls Pure
set_option linter.unusedSimpArgs false
set_option linter.unusedVariables false
set_option linter.unusedSectionVars false

theorem wds_snoc (W : List (List UInt8)) (x : List UInt8) : (⟨(tab W.length fun q => strV (W.getD q [])) ++ ([strV x] : List Value), some (W.length + 1), true⟩ : Blk) = wdsB (W ++ [x]) (some (W ++ [x]).length) := by
  have h1 := tabL_snoc strV [] W x
  have e : (W ++ [x]).length = W.length + 1 := by simp
  unfold wdsB
  rw [h1, e]
theorem wds_flat (W : List (List UInt8)) (tg : Option Nat) : ∀ c ∈ (wdsB W tg).cells, Flat c := flat_tabs fun i => Flat.string _
theorem next_W {M T G : Mem} {m : Mem} (h : m = M ++ (T ++ G)) : m = (M ++ T) ++ G := by rw [h, List.append_assoc]
theorem closedW {M : Mem} (hM : Closed M.length M) {b1 : Blk} (h1 : ∀ x ∈ b1.cells, Flat x) : Closed (M ++ [b1]).length (M ++ [b1]) := by
  refine Closed.append (hM.mono (by simp)) fun x hx y hy => Bel.flat ?_
  simp only [List.mem_cons, List.not_mem_nil, or_false] at hx
  rcases hx with rfl
  exact h1 y hy
set_option maxHeartbeats 4000000 in
theorem sl01Split (s : List UInt8) (hs : s.length ≤ 1048576) (M : Mem) : Alloc Tryz.prog 105 [strV s, .int .u8 32] M (.slice (some ⟨M.length, 0, some (cutW 32 s).length⟩) (cutW 32 s).length (cutW 32 s).length) [wdsB (cutW 32 s) (some (cutW 32 s).length)] := by
  refine Alloc.closed fun hM => ?_
  refine alloc_of [0] Tryz.func105 Tryz.ntmps105 rfl rfl rfl (by decide) ?_
  simp only [envOf, Nat.zero_add, Nat.reduceAdd]
  repeat' (first | (refine d_AOs (h := ?_) ; first | refine o_move (h := ?_) | refine o_assign (h := ?_) | refine AOs.nil (h := ?_) | (refine d_bin (h := ?_) ; first | refine o_eqNil (h := ?_) | refine o_addS (h := ?_) | refine o_add (h := ?_) | refine o_lss (h := ?_) | refine o_eqi (h := ?_) | refine o_eqB (h := ?_) )  | refine o_at (h := ?_) | refine o_len (h := ?_) | refine o_lenS (h := ?_) | refine o_ixS (h := ?_) | refine o_buildS0 (h := ?_) | refine o_buildS (h := ?_) | refine o_app (h := ?_) | refine o_appN (h := ?_) | refine o_app0 (h := ?_) | refine o_slHi (h := ?_) | refine o_slLo (h := ?_) | refine o_slLH (h := ?_) | refine o_ix (h := ?_) ) | (refine d_AW (h := ?_) ; first | refine AW.seq (h := ?_) | refine AW.region (h := ?_) | (refine AW.cond (ht := (fun hc => ?_)) (hf := (fun hc => ?_)) <;> (try (with_reducible first | exact absurd hc Bool.false_ne_true | exact absurd hc.symm Bool.false_ne_true)) <;> (try simp only [decide_eq_true_eq, decide_eq_false_iff_not, Int.ofNat_inj, Bool.not_eq_true', Bool.not_eq_false', Int.not_lt, Int.not_le] at hc) <;> (try (exfalso; omega)) <;> (try (exact absurd hc (by decide)))) | refine AW.block (h := ?_) | refine AW.ret (h := ?_) | refine AW.skip (h := ?_) | refine AW.exit (h := ?_) ) | (first | refine t_normal ?_ | refine t_ret ?_ | refine t_exit ?_ | refine b_normal ?_ | refine b_exit ?_ | refine b_exit' (by decide) ?_ | refine b_ret ?_) | (refine d_post (h := ?_) ; first | refine p_ret1 rfl (h := ?_) | refine p_end1 rfl (h := ?_) | refine p_cell1 rfl (h := ?_) ))
  refine AW.loopG [0, 1, 5, 6, 7] (fun k st => ∃ (i fr : Nat) (Wd : List (List UInt8)), i + k = s.length ∧ fr ≤ i ∧ cutW 32 (s.take i) = Wd ++ [(s.take i).drop fr] ∧ st = ⟨35, [(0, strV s), (1, .int .u8 32), (5, .slice (some ⟨M.length, 0, some Wd.length⟩) Wd.length Wd.length), (6, .int .i64 (fr : Int)), (7, .int .i64 (i : Int))], M ++ [wdsB Wd (some Wd.length)]⟩) s.length ⟨0, 0, [], by omega, by omega, rfl, rfl⟩ ?_
  rintro k st ⟨i, fr, Wd, hi, hfr, hW, rfl⟩
  have hWl : Wd.length ≤ i := by
    have := cutW_le 32 (s.take i)
    rw [hW, List.length_append, List.length_take] at this
    simp only [List.length_cons, List.length_nil] at this
    omega
  by_cases hin : i < s.length
  · obtain ⟨c, hcc⟩ : ∃ c, s[i]? = some c := ⟨_, List.getElem?_eq_getElem hin⟩
    have ht : s.take (i + 1) = s.take i ++ [c] := by rw [List.take_add_one, hcc]; rfl
    have hcl : c.toNat < 256 := UInt8.toNat_lt c
    by_cases hb : c.toNat = 32
    · obtain rfl : c = 32 := UInt8.toNat_inj.1 hb
      have hW2 := cutW_sep hW
      rw [← ht] at hW2
      have hd : (s.take (i + 1)).drop (i + 1) = [] := by
        rw [List.drop_eq_nil_of_le]; rw [List.length_take]; omega
      generalize hx : (s.take i).drop fr = x at *
      have hsn := wds_snoc Wd x
      have hl2 : (Wd ++ [x]).length = Wd.length + 1 := by simp
      rw [show wdsB Wd (some Wd.length) = (⟨tab Wd.length (fun q => strV (Wd.getD q [])), some Wd.length, true⟩ : Blk) from rfl]
      repeat' (first | (refine d_AOs (h := ?_) ; first | refine o_move (h := ?_) | refine o_assign (h := ?_) | refine AOs.nil (h := ?_) | (refine d_bin (h := ?_) ; first | refine o_eqNil (h := ?_) | refine o_addS (h := ?_) | refine o_add (h := ?_) | refine o_lss (h := ?_) | refine o_eqi (h := ?_) | refine o_eqB (h := ?_) )  | refine o_lenV (s := s) (h := ?_) | refine o_ixV (s := s) (hb := hcc) (h := ?_) | refine o_slV (s := s) (a := fr) (b := i) (hr := hx) (h := ?_) | refine o_buildS (cs := [strV x]) (hf := by rfl) (h := ?_) | refine o_app (hlc := by rw [tab_len]; omega) (h := ?_) | refine o_at (h := ?_) | refine o_len (h := ?_) | refine o_lenS (h := ?_) | refine o_ixS (h := ?_) | refine o_buildS0 (h := ?_) | refine o_buildS (h := ?_) | refine o_app (h := ?_) | refine o_appN (h := ?_) | refine o_app0 (h := ?_) | refine o_slHi (h := ?_) | refine o_slLo (h := ?_) | refine o_slLH (h := ?_) | refine o_ix (h := ?_) ) | (refine d_AW (h := ?_) ; first | refine AW.seq (h := ?_) | refine AW.region (h := ?_) | (refine AW.cond (ht := (fun hc => ?_)) (hf := (fun hc => ?_)) <;> (try (with_reducible first | exact absurd hc Bool.false_ne_true | exact absurd hc.symm Bool.false_ne_true)) <;> (try simp only [decide_eq_true_eq, decide_eq_false_iff_not, Int.ofNat_inj, Bool.not_eq_true', Bool.not_eq_false', Int.not_lt, Int.not_le] at hc) <;> (try (exfalso; omega)) <;> (try (exact absurd hc (by decide)))) | refine AW.block (h := ?_) | refine AW.ret (h := ?_) | refine AW.skip (h := ?_) | refine AW.exit (h := ?_) ) | (first | refine t_normal ?_ | refine t_ret ?_ | refine t_exit ?_ | refine b_normal ?_ | refine b_exit ?_ | refine b_exit' (by decide) ?_ | refine b_ret ?_) | (refine d_post (h := ?_) ; first | refine p_ret1 rfl (h := ?_) | refine p_end1 rfl (h := ?_) | refine p_cell1 rfl (h := ?_) ))
      all_goals exact ⟨k - 1, M ++ [wdsB (Wd ++ [x]) (some (Wd ++ [x]).length)], [⟨[strV x], none, true⟩], by omega, next_W (T := [wdsB (Wd ++ [x]) (some (Wd ++ [x]).length)]) (G := [⟨[strV x], none, true⟩]) (by rw [← hsn]; rfl), by simp, closedW hM (wds_flat _ _), (by repeat' (first | exact True.intro | refine And.intro ?_ ?_ | exact Bel.flat (Flat.int _ _) | exact Bel.flat (Flat.bool _) | exact Bel.flat (Flat.float _ _) | exact Bel.flat (Flat.string _) | exact Bel.flat (flat_agg (flat_tabL (fun _ => Flat.float _ _))) | refine Bel.sl ?_ | refine Bel.ptr ?_ | (first | assumption | omega | exact (List.getElem?_eq_some_iff.1 (by assumption)).1 | (simp only [List.length_append, List.length_cons, List.length_nil]; omega)))), i + 1, i + 1, Wd ++ [x], by omega, by omega, by rw [hd]; exact hW2, by rw [hl2]; rfl⟩
    · have hne : c ≠ 32 := fun e => hb (by rw [e]; rfl)
      have hW2 := cutW_let hne hW
      rw [← ht] at hW2
      have hd : (s.take (i + 1)).drop fr = (s.take i).drop fr ++ [c] := by
        rw [ht, List.drop_append_of_le_length (by rw [List.length_take]; omega)]
      rw [← hd] at hW2
      repeat' (first | (refine d_AOs (h := ?_) ; first | refine o_move (h := ?_) | refine o_assign (h := ?_) | refine AOs.nil (h := ?_) | (refine d_bin (h := ?_) ; first | refine o_eqNil (h := ?_) | refine o_addS (h := ?_) | refine o_add (h := ?_) | refine o_lss (h := ?_) | refine o_eqi (h := ?_) | refine o_eqB (h := ?_) )  | refine o_lenV (s := s) (h := ?_) | refine o_ixV (s := s) (hb := hcc) (h := ?_) | refine o_at (h := ?_) | refine o_len (h := ?_) | refine o_lenS (h := ?_) | refine o_ixS (h := ?_) | refine o_buildS0 (h := ?_) | refine o_buildS (h := ?_) | refine o_app (h := ?_) | refine o_appN (h := ?_) | refine o_app0 (h := ?_) | refine o_slHi (h := ?_) | refine o_slLo (h := ?_) | refine o_slLH (h := ?_) | refine o_ix (h := ?_) ) | (refine d_AW (h := ?_) ; first | refine AW.seq (h := ?_) | refine AW.region (h := ?_) | (refine AW.cond (ht := (fun hc => ?_)) (hf := (fun hc => ?_)) <;> (try (with_reducible first | exact absurd hc Bool.false_ne_true | exact absurd hc.symm Bool.false_ne_true)) <;> (try simp only [decide_eq_true_eq, decide_eq_false_iff_not, Int.ofNat_inj, Bool.not_eq_true', Bool.not_eq_false', Int.not_lt, Int.not_le] at hc) <;> (try (exfalso; omega)) <;> (try (exact absurd hc (by decide)))) | refine AW.block (h := ?_) | refine AW.ret (h := ?_) | refine AW.skip (h := ?_) | refine AW.exit (h := ?_) ) | (first | refine t_normal ?_ | refine t_ret ?_ | refine t_exit ?_ | refine b_normal ?_ | refine b_exit ?_ | refine b_exit' (by decide) ?_ | refine b_ret ?_) | (refine d_post (h := ?_) ; first | refine p_ret1 rfl (h := ?_) | refine p_end1 rfl (h := ?_) | refine p_cell1 rfl (h := ?_) ))
      all_goals exact ⟨k - 1, _, [], by omega, (List.append_nil _).symm, by simp, closedW hM (wds_flat _ _), (by repeat' (first | exact True.intro | refine And.intro ?_ ?_ | exact Bel.flat (Flat.int _ _) | exact Bel.flat (Flat.bool _) | exact Bel.flat (Flat.float _ _) | exact Bel.flat (Flat.string _) | exact Bel.flat (flat_agg (flat_tabL (fun _ => Flat.float _ _))) | refine Bel.sl ?_ | refine Bel.ptr ?_ | (first | assumption | omega | exact (List.getElem?_eq_some_iff.1 (by assumption)).1 | (simp only [List.length_append, List.length_cons, List.length_nil]; omega)))), i + 1, fr, Wd, by omega, by omega, hW2, rfl⟩
  · obtain rfl : i = s.length := by omega
    rw [List.take_length] at hW
    generalize hx : s.drop fr = x at *
    have hsn := wds_snoc Wd x
    have hl2 : (Wd ++ [x]).length = Wd.length + 1 := by simp
    rw [hW, ← hsn, hl2]
    rw [show wdsB Wd (some Wd.length) = (⟨tab Wd.length (fun q => strV (Wd.getD q [])), some Wd.length, true⟩ : Blk) from rfl]
    repeat' (first | (refine d_AOs (h := ?_) ; first | refine o_move (h := ?_) | refine o_assign (h := ?_) | refine AOs.nil (h := ?_) | (refine d_bin (h := ?_) ; first | refine o_eqNil (h := ?_) | refine o_addS (h := ?_) | refine o_add (h := ?_) | refine o_lss (h := ?_) | refine o_eqi (h := ?_) | refine o_eqB (h := ?_) )  | refine o_lenV (s := s) (h := ?_) | refine o_slVL (s := s) (a := fr) (hr := hx) (h := ?_) | refine o_buildS (cs := [strV x]) (hf := by rfl) (h := ?_) | refine o_app (hlc := by rw [tab_len]; omega) (h := ?_) | refine o_at (h := ?_) | refine o_len (h := ?_) | refine o_lenS (h := ?_) | refine o_ixS (h := ?_) | refine o_buildS0 (h := ?_) | refine o_buildS (h := ?_) | refine o_app (h := ?_) | refine o_appN (h := ?_) | refine o_app0 (h := ?_) | refine o_slHi (h := ?_) | refine o_slLo (h := ?_) | refine o_slLH (h := ?_) | refine o_ix (h := ?_) ) | (refine d_AW (h := ?_) ; first | refine AW.seq (h := ?_) | refine AW.region (h := ?_) | (refine AW.cond (ht := (fun hc => ?_)) (hf := (fun hc => ?_)) <;> (try (with_reducible first | exact absurd hc Bool.false_ne_true | exact absurd hc.symm Bool.false_ne_true)) <;> (try simp only [decide_eq_true_eq, decide_eq_false_iff_not, Int.ofNat_inj, Bool.not_eq_true', Bool.not_eq_false', Int.not_lt, Int.not_le] at hc) <;> (try (exfalso; omega)) <;> (try (exact absurd hc (by decide)))) | refine AW.block (h := ?_) | refine AW.ret (h := ?_) | refine AW.skip (h := ?_) | refine AW.exit (h := ?_) ) | (first | refine t_normal ?_ | refine t_ret ?_ | refine t_exit ?_ | refine b_normal ?_ | refine b_exit ?_ | refine b_exit' (by decide) ?_ | refine b_ret ?_) | (refine d_post (h := ?_) ; first | refine p_ret1 rfl (h := ?_) | refine p_end1 rfl (h := ?_) | refine p_cell1 rfl (h := ?_) ))
    refine p_allocS rfl (by rfl) (by rfl) rfl rfl (by rw [hsn]; exact wds_flat _ _)
theorem tab_snoc3 {n : Nat} {f : Nat → Value} : tab (n + 1) f = tab n f ++ [f n] := by simp [tab, List.range_succ]
end Go.Proofs.YtddmclkijheicaaGreatDoor
