/- Roads that are read from their texts. -/
import Derived.Test.YtgdpcomemkimhaaGreatDoorFa
import Derived.Test.YtgdpcomemkimhaaGreatDoorDr2
import Derived.Test.YtgdpcomemkimhaaGreatDoorJx
import Derived.Test.YtgdpcomemkimhaaGreatDoorAn
import Derived.Test.YtgdpcomemkimhaaGreatDoorJn
import Derived.Test.YtgdpcomemkimhaaGreatDoorRs

namespace Go.Proofs.YtgdpcomemkimhaaGreatDoor
open Go.RowKit
attribute [local irreducible] AW AOs AO AQ AQW thenA inBlockA postA ACalls Pure
set_option linter.unusedSimpArgs false
set_option linter.unusedVariables false
set_option linter.unusedSectionVars false

section
variable {P : Program} {ops l : List Oper} {K : St → Prop} {n : Nat} {t : Env} {m : Mem} {d ty : Nat} {pos : String} {af : Array Edge}
theorem o_s2a {at_ len k e : Nat} [ha : ArrT P at_ len k e] {x : Operand} {j o ln cp : Nat} {tg : Option Nat} (hx : evalA t x = .slice (some ⟨j, o, tg⟩) ln cp := by (conv => (lhs; whnf)); first | done | rfl) (hl : len ≤ ln := by omega) (hd : Nat.blt d n = true := by rfl)
    (h : AOs P ops l K ⟨n, (d, .pointer (some ⟨j, o, tg⟩)) :: t, m⟩) : AOs P ops (⟨some d, .sliceToArrayPointer at_ x, ty, pos, af, none⟩ :: l) K ⟨n, t, m⟩ :=
  AOs.val (v := .pointer (some ⟨j, o, tg⟩)) rfl hd (fun B0 w0 r a w hs => by
    have hx1 := hs.eval x
    rw [hx] at hx1
    obtain ⟨c, z, m', he, hr, _⟩ := hx1.slice_inv
    obtain ⟨hu, hsz⟩ := arr_facts (P := P) (at_ := at_)
    refine ⟨.pointer (some ⟨c, zo tg z + o, none⟩), ?_, .base ⟨c, z, rfl, hr⟩⟩
    have h1 : ¬ ln < len := by omega
    simp [execOp, he, Instr.arrayAt, run_underlying hu, h1]) h
end
theorem hexN_blank2 (u d : Nat) : (32 : UInt8) ∉ hexN u d := fun hm => by
  have := hexN_ok d u
  rw [List.all_eq_true] at this
  have := this 32 hm
  exact absurd this (by decide)
theorem rn_hex {x : Nat} (h : FltOk .f32 x) : rnB (hexN x 8) = true ∧ rnV (hexN x 8) = x := by
  have h1 : hvF 0 (hexN x 8) = x := hvF_hexN 8 x h.1
  have h2 : rrB (hexN x 8) = true := by
    unfold rrB
    rw [h1, Bool.and_eq_true, decide_eq_true_eq]
    exact ⟨ok8_iff.2 ⟨hexN_len x 8, hexN_ok 8 x⟩, h.2⟩
  obtain ⟨e, h3⟩ := rn_rr (hexN x 8)
  rw [h2] at e
  exact ⟨e, by rw [(h3 e).1, h1]⟩
theorem iReadNumberHex {x : Nat} (h : FltOk .f32 x) (M : Mem) : Pure Tryz.prog 30 [strV (hexN x 8)] M (.tuple [.float .f32 x, .int .i64 0].toArray) := by
  have := iReadNumber (hexN x 8) (by rw [hexN_len]; decide) M
  rw [(rn_hex h).1, (rn_hex h).2, if_pos rfl] at this
  exact this
section
variable {c : Nat → Nat} {p b l : Nat}
def rtV (c : Nat → Nat) (p b l : Nat) (q : Nat) : Nat := if q = 0 then p else if q = 1 then b else if q = 2 then l else c (q - 3)
theorem rtW_get : ∀ {i q : Nat}, q < 3 + i → (rtW c p b l i).getD (1 + q) [] = hexN (rtV c p b l q) 8
  | 0, q, h => by
    have : q = 0 ∨ q = 1 ∨ q = 2 := by omega
    rcases this with rfl | rfl | rfl <;> rfl
  | i + 1, q, h => by
    have hl := rtW_len c p b l i
    simp only [rtW]
    by_cases hq : q < 3 + i
    · rw [← rtW_get hq]
      rw [List.getD_eq_getElem?_getD, List.getD_eq_getElem?_getD, List.getElem?_append_left (by omega)]
    · obtain rfl : q = 3 + i := by omega
      rw [List.getD_eq_getElem?_getD, List.getElem?_append_right (by omega), hl, show 1 + (3 + i) - (4 + i) = 0 by omega]
      unfold rtV
      rw [if_neg (by omega), if_neg (by omega), if_neg (by omega), Nat.add_sub_cancel_left]; rfl
theorem rt_cut : cutW 32 (rtT c p b l) = rtW c p b l 16 := by
  refine cut_join' (fun e => ?_) fun w hw => ?_
  · have := rtW_len c p b l 16
    rw [e] at this
    simp at this
  · rcases rtW_mem hw with rfl | ⟨x, rfl⟩
    · decide
    · exact hexN_blank2 _ _
variable (hr : RdOk c p b l) (hf : ∀ q, q < 19 → FltOk .f32 (rtV c p b l q))
include hr hf
set_option maxRecDepth 20000 in
set_option maxHeartbeats 16000000 in
theorem iReadRoad (M : Mem) : Pure Tryz.prog 27 [strV (rtT c p b l)] M (.tuple [rdV c p b l, .int .i64 0].toArray) := by
  refine pure_of Tryz.func27 Tryz.ntmps27 rfl rfl (by repeat' (first | exact Flat.bool _ | exact Flat.int _ _ | exact Flat.float _ _ | exact Flat.string _ | exact flat_nil | exact flat_tabL (fun _ => Flat.bool _) | exact flat_tabL (fun _ => Flat.int _ _) | exact flat_tabL (fun _ => Flat.float _ _) | refine flat_tuple ?_ | refine flat_agg ?_ | refine flat_cons ?_ ?_ | refine flat_append ?_ ?_)) ?_
  have hlen := rtT_len c p b l
  have hSp := fun M' => iSplit (rtT c p b l) (Nat.le_trans hlen (by decide)) M'
  rw [rt_cut] at hSp
  have hWl : (rtW c p b l 16).length = 20 := rtW_len c p b l 16
  have hww : ∀ q, ((rtW c p b l 16).getD q []).length ≤ 1048576 := fun q => by
    by_cases hq : q < (rtW c p b l 16).length
    · rw [List.getD_eq_getElem?_getD, List.getElem?_eq_getElem hq]
      have hm := List.getElem_mem hq
      rcases rtW_mem hm with e | ⟨x, e⟩
      · simp only [Option.getD_some]; rw [e]; decide
      · simp only [Option.getD_some]; rw [e, hexN_len]; decide
    · rw [List.getD_eq_getElem?_getD, List.getElem?_eq_none (by omega)]; simp
  have hN := fun cp j tg rw' M' h => inumbersOf (rtW c p b l 16) 1 19 cp j tg rw' M' (by rw [hWl]) (by rw [hWl]; decide) hww h (fun q => rnV ((rtW c p b l 16).getD (1 + q) [])) (fun _ => rfl)
  have e19 : nuL (fun q => rnV ((rtW c p b l 16).getD (1 + q) [])) 19 = ⟨tab 19 fun q => .float .f32 (rtV c p b l q), some 19, true⟩ := by
    unfold nuL
    rw [tab_congr (n := 19) (f := fun q => Value.float .f32 (rnV ((rtW c p b l 16).getD (1 + q) []))) (g := fun q => .float .f32 (rtV c p b l q)) fun q hq => by rw [rtW_get (by omega), (rn_hex (hf q hq)).2]]
  rw [e19] at hN
  have hl0 : ldA .one 0 (tab 19 fun q => Value.float .f32 (rtV c p b l q)) = some (.float .f32 p) := rfl
  have hl1 : ldA .one 1 (tab 19 fun q => Value.float .f32 (rtV c p b l q)) = some (.float .f32 b) := rfl
  have hl2 : ldA .one 2 (tab 19 fun q => Value.float .f32 (rtV c p b l q)) = some (.float .f32 l) := rfl
  have hl3 : ldA (.agg 16) 3 (tab 19 fun q => Value.float .f32 (rtV c p b l q)) = some (.agg (tab 16 fun q => .float .f32 (c q)).toArray) := by
    rw [ld_part (by omega)]
    rw [tab_congr (n := 16) (f := fun i => Value.float .f32 (rtV c p b l (3 + i))) (g := fun q => .float .f32 (c q)) fun q hq => by
      unfold rtV; rw [if_neg (by omega), if_neg (by omega), if_neg (by omega), Nat.add_sub_cancel_left]]
  have hV := fun M' => iValidRoad hr M'
  have hT := fun M' => iRoadText hr M'
  clear hww e19 hf hr hlen
  generalize rtT c p b l = tx at *
  generalize rtW c p b l 16 = W at *
  generalize (tab 19 fun q => Value.float .f32 (rtV c p b l q)) = nums at *
  simp only [envOf, Nat.zero_add, Nat.reduceAdd]
  repeat' (first | (refine d_AOs (h := ?_) ; first | refine o_move (h := ?_) | refine o_assign (h := ?_) | refine AOs.nil (h := ?_) | (refine d_bin (h := ?_) ; first | refine o_sneV (h := ?_) | refine o_neB (h := ?_) | refine o_nei (h := ?_) ) | (refine d_grd (h := ?_) ; first | refine g_yes (h := ?_) | refine g_no (h := ?_) | refine g_undef (h := ?_) | (refine g_true (h1 := (fun hg => ?_)) (h0 := (fun hg => ?_)) <;> (try rw [hg]) <;> (try simp only [decide_eq_true_eq, decide_eq_false_iff_not, Int.ofNat_inj, Bool.not_eq_true', Bool.not_eq_false', Int.not_lt, Int.not_le] at hg) <;> (try (exfalso; omega)) <;> (try (exact absurd hg (by decide)))) | (refine g_false (h1 := (fun hg => ?_)) (h0 := (fun hg => ?_)) <;> (try rw [hg]) <;> (try simp only [decide_eq_true_eq, decide_eq_false_iff_not, Int.ofNat_inj, Bool.not_eq_true', Bool.not_eq_false', Int.not_lt, Int.not_le] at hg) <;> (try (exfalso; omega)) <;> (try (exact absurd hg (by decide))))) | refine o_slLo (q := 1) (ln' := 19) (cp' := 19) (hln := by omega) (hcp' := by omega) (h := ?_) | refine o_slLo (q := 3) (ln' := 16) (cp' := 16) (h := ?_) | refine o_s2a (h := ?_) | refine o_build (cs := rdC c p b l) (hf := by rfl) (h := ?_) | refine o_callA (hc := (hSp _)) (h := ?_) | refine o_callA (hc := (hN _ _ _ _ _ (by first | (simp only [mem_tail, mem_tail0, List.getElem?_cons_zero, List.getElem?_cons_succ]; first | done | rfl) | exact mem_head (by assumption) | assumption | (simp only [mem_tailS, mem_tailS0, List.getElem?_cons_zero, List.getElem?_cons_succ]; first | done | rfl) | exact mem_set1 (by assumption) | exact mem_set0 (by assumption) | exact mem_setN1 (by assumption) (by assumption) | exact mem_setN (by assumption) (by assumption)))) (h := ?_) | refine o_call (hc := (hV _)) (h := ?_) | refine o_call (hc := (hT _)) (h := ?_) | refine o_load (hv := hl0) (h := ?_) | refine o_load (hv := hl1) (h := ?_) | refine o_load (hv := hl2) (h := ?_) | refine o_load (hv := hl3) (h := ?_) | refine o_load (h := ?_) | refine o_at (h := ?_) | refine o_pick (h := ?_) | refine o_not (h := ?_) | refine o_len (h := ?_) | refine o_lenS (h := ?_) | refine o_ixS (h := ?_) | refine o_slHi (h := ?_) | refine o_slLo (h := ?_) | refine o_slLH (h := ?_) | refine o_store (h := ?_) | refine o_alloc (h := ?_) | refine o_ix (h := ?_) | refine o_build (h := ?_) ) | (refine d_AW (h := ?_) ; first | refine AW.seq (h := ?_) | refine AW.region (h := ?_) | refine AW.openF 1 M [(rdB (fun _ => 0) 0 0 0, []), (wdsB W none, []), (⟨nums, some 19, true⟩, []), (gone, [(14, rdB (fun _ => 0) 0 0 0), (15, rdB c p b l)])] (h := ?_) | refine AW.open5 (h1 := ?_) (h2 := ?_) (h3 := ?_) | refine AW.open_ (h := ?_) | (refine AW.cond (ht := (fun hc => ?_)) (hf := (fun hc => ?_)) <;> (try (with_reducible first | exact absurd hc Bool.false_ne_true | exact absurd hc.symm Bool.false_ne_true)) <;> (try simp only [decide_eq_true_eq, decide_eq_false_iff_not, Int.ofNat_inj, Bool.not_eq_true', Bool.not_eq_false', Int.not_lt, Int.not_le] at hc) <;> (try (exfalso; omega)) <;> (try (exact absurd hc (by decide)))) | refine AW.block (h := ?_) | refine AW.ret (h := ?_) | refine AW.skip (h := ?_) | refine AW.exit (h := ?_) ) | (first | refine t_normal ?_ | refine t_ret ?_ | refine t_exit ?_ | refine b_normal ?_ | refine b_exit ?_ | refine b_exit' (by decide) ?_ | refine b_ret ?_) | (refine d_AQ (h := ?_) ; first | refine q_step (h1 := by (refine d_AOs ?_; first| (refine d_bin (h := ?_) ; first | refine o_sneV (h := ?_) )) <;> exact AOs.nil rfl) (h2 := ?_) | refine q_yes (h1 := by (refine d_AOs ?_; first| (refine d_bin (h := ?_) ; first | refine o_sneV (h := ?_) )) <;> exact AOs.nil rfl) (h2 := ?_) | refine q_nil (h := ?_) | refine q_switchB (h2 := ?_) | refine q_step (h2 := ?_) | refine q_yes (h2 := ?_) | refine q_no (h2 := ?_) | refine q_undef (h2 := ?_) | (refine q_true (h2 := (fun hg => ?_)) (h0 := (fun hg => ?_)) <;> (try rw [hg]) <;> (try simp only [decide_eq_true_eq, decide_eq_false_iff_not, Int.ofNat_inj, Bool.not_eq_true', Bool.not_eq_false', Int.not_lt, Int.not_le] at hg) <;> (try (exfalso; omega)) <;> (try (exact absurd hg (by decide)))) | (refine q_false (h2 := (fun hg => ?_)) (h0 := (fun hg => ?_)) <;> (try rw [hg]) <;> (try simp only [decide_eq_true_eq, decide_eq_false_iff_not, Int.ofNat_inj, Bool.not_eq_true', Bool.not_eq_false', Int.not_lt, Int.not_le] at hg) <;> (try (exfalso; omega)) <;> (try (exact absurd hg (by decide)))) | refine q_step (h1 := by (refine d_AOs ?_; first | refine o_slLo (q := 1) (ln' := 19) (cp' := 19) (hln := by omega) (hcp' := by omega) (h := ?_) | refine o_slLo (q := 3) (ln' := 16) (cp' := 16) (h := ?_) | refine o_s2a (h := ?_) | refine o_build (cs := rdC c p b l) (hf := by rfl) (h := ?_) | refine o_callA (hc := (hSp _)) (h := ?_) | refine o_callA (hc := (hN _ _ _ _ _ (by first | (simp only [mem_tail, mem_tail0, List.getElem?_cons_zero, List.getElem?_cons_succ]; first | done | rfl) | exact mem_head (by assumption) | assumption | (simp only [mem_tailS, mem_tailS0, List.getElem?_cons_zero, List.getElem?_cons_succ]; first | done | rfl) | exact mem_set1 (by assumption) | exact mem_set0 (by assumption) | exact mem_setN1 (by assumption) (by assumption) | exact mem_setN (by assumption) (by assumption)))) (h := ?_) | refine o_call (hc := (hV _)) (h := ?_) | refine o_call (hc := (hT _)) (h := ?_) | refine o_load (hv := hl0) (h := ?_) | refine o_load (hv := hl1) (h := ?_) | refine o_load (hv := hl2) (h := ?_) | refine o_load (hv := hl3) (h := ?_)) <;> exact AOs.nil rfl) (h2 := ?_) | refine q_yes (h1 := by (refine d_AOs ?_; first | refine o_slLo (q := 1) (ln' := 19) (cp' := 19) (hln := by omega) (hcp' := by omega) (h := ?_) | refine o_slLo (q := 3) (ln' := 16) (cp' := 16) (h := ?_) | refine o_s2a (h := ?_) | refine o_build (cs := rdC c p b l) (hf := by rfl) (h := ?_) | refine o_callA (hc := (hSp _)) (h := ?_) | refine o_callA (hc := (hN _ _ _ _ _ (by first | (simp only [mem_tail, mem_tail0, List.getElem?_cons_zero, List.getElem?_cons_succ]; first | done | rfl) | exact mem_head (by assumption) | assumption | (simp only [mem_tailS, mem_tailS0, List.getElem?_cons_zero, List.getElem?_cons_succ]; first | done | rfl) | exact mem_set1 (by assumption) | exact mem_set0 (by assumption) | exact mem_setN1 (by assumption) (by assumption) | exact mem_setN (by assumption) (by assumption)))) (h := ?_) | refine o_call (hc := (hV _)) (h := ?_) | refine o_call (hc := (hT _)) (h := ?_) | refine o_load (hv := hl0) (h := ?_) | refine o_load (hv := hl1) (h := ?_) | refine o_load (hv := hl2) (h := ?_) | refine o_load (hv := hl3) (h := ?_)) <;> exact AOs.nil rfl) (h2 := ?_) | (refine q_true (h1 := fun hg => by (refine d_AOs ?_; first | refine o_slLo (q := 1) (ln' := 19) (cp' := 19) (hln := by omega) (hcp' := by omega) (h := ?_) | refine o_slLo (q := 3) (ln' := 16) (cp' := 16) (h := ?_) | refine o_s2a (h := ?_) | refine o_build (cs := rdC c p b l) (hf := by rfl) (h := ?_) | refine o_callA (hc := (hSp _)) (h := ?_) | refine o_callA (hc := (hN _ _ _ _ _ (by first | (simp only [mem_tail, mem_tail0, List.getElem?_cons_zero, List.getElem?_cons_succ]; first | done | rfl) | exact mem_head (by assumption) | assumption | (simp only [mem_tailS, mem_tailS0, List.getElem?_cons_zero, List.getElem?_cons_succ]; first | done | rfl) | exact mem_set1 (by assumption) | exact mem_set0 (by assumption) | exact mem_setN1 (by assumption) (by assumption) | exact mem_setN (by assumption) (by assumption)))) (h := ?_) | refine o_call (hc := (hV _)) (h := ?_) | refine o_call (hc := (hT _)) (h := ?_) | refine o_load (hv := hl0) (h := ?_) | refine o_load (hv := hl1) (h := ?_) | refine o_load (hv := hl2) (h := ?_) | refine o_load (hv := hl3) (h := ?_)) <;> exact AOs.nil rfl) (h2 := (fun hg => ?_)) (h0 := (fun hg => ?_)) <;> (try rw [hg]) <;> (try simp only [decide_eq_true_eq, decide_eq_false_iff_not, Int.ofNat_inj, Bool.not_eq_true', Bool.not_eq_false', Int.not_lt, Int.not_le] at hg) <;> (try (exfalso; omega)) <;> (try (exact absurd hg (by decide)))) | (refine q_false (h1 := fun hg => by (refine d_AOs ?_; first | refine o_slLo (q := 1) (ln' := 19) (cp' := 19) (hln := by omega) (hcp' := by omega) (h := ?_) | refine o_slLo (q := 3) (ln' := 16) (cp' := 16) (h := ?_) | refine o_s2a (h := ?_) | refine o_build (cs := rdC c p b l) (hf := by rfl) (h := ?_) | refine o_callA (hc := (hSp _)) (h := ?_) | refine o_callA (hc := (hN _ _ _ _ _ (by first | (simp only [mem_tail, mem_tail0, List.getElem?_cons_zero, List.getElem?_cons_succ]; first | done | rfl) | exact mem_head (by assumption) | assumption | (simp only [mem_tailS, mem_tailS0, List.getElem?_cons_zero, List.getElem?_cons_succ]; first | done | rfl) | exact mem_set1 (by assumption) | exact mem_set0 (by assumption) | exact mem_setN1 (by assumption) (by assumption) | exact mem_setN (by assumption) (by assumption)))) (h := ?_) | refine o_call (hc := (hV _)) (h := ?_) | refine o_call (hc := (hT _)) (h := ?_) | refine o_load (hv := hl0) (h := ?_) | refine o_load (hv := hl1) (h := ?_) | refine o_load (hv := hl2) (h := ?_) | refine o_load (hv := hl3) (h := ?_)) <;> exact AOs.nil rfl) (h2 := (fun hg => ?_)) (h0 := (fun hg => ?_)) <;> (try rw [hg]) <;> (try simp only [decide_eq_true_eq, decide_eq_false_iff_not, Int.ofNat_inj, Bool.not_eq_true', Bool.not_eq_false', Int.not_lt, Int.not_le] at hg) <;> (try (exfalso; omega)) <;> (try (exact absurd hg (by decide)))) | refine q_switch (h2 := ?_)) | (refine d_W (h := ?_) ; first | refine w1_step (h1 := by (simp only [ObK, aft, cond_true, cond_false]; repeat' (first | refine And.intro ?_ ?_ | ((refine d_AOs ?_; first| (refine d_bin (h := ?_) ; first | refine o_sneV (h := ?_) )) <;> exact AOs.nil rfl)))) (h2 := ?_) | refine wf_step (hob := by (simp only [obT, obC, noFirst]; repeat' (first | exact True.intro | exact rfl | refine And.intro ?_ ?_ | ((refine d_AOs ?_; first| (refine d_bin (h := ?_) ; first | refine o_sneV (h := ?_) )) <;> exact AOs.nil rfl)))) (hn := ?_) | refine w1_nil (h := ?_) | refine w2_nil (h := ?_) | refine w1_stepN (h2 := ?_) | refine w1_step (h2 := ?_) | refine w2_stepN (h2 := ?_) | refine w2_step (h2 := ?_) | refine w3_nil (h := ?_) | refine w3_stepN (h2 := ?_) | refine w3_step (h2 := ?_) | refine wc_nil (h := ?_) | refine wc_stepN (hn := ?_) | refine wc_step (hn := ?_) | refine wf_nil (h := ?_) | refine wf_step (hob := by (simp only [obT, obC, noFirst]; repeat' (first | exact True.intro | exact rfl | refine And.intro ?_ ?_ | ((refine d_AOs ?_; first | refine o_slLo (q := 1) (ln' := 19) (cp' := 19) (hln := by omega) (hcp' := by omega) (h := ?_) | refine o_slLo (q := 3) (ln' := 16) (cp' := 16) (h := ?_) | refine o_s2a (h := ?_) | refine o_build (cs := rdC c p b l) (hf := by rfl) (h := ?_) | refine o_callA (hc := (hSp _)) (h := ?_) | refine o_callA (hc := (hN _ _ _ _ _ (by first | (simp only [mem_tail, mem_tail0, List.getElem?_cons_zero, List.getElem?_cons_succ]; first | done | rfl) | exact mem_head (by assumption) | assumption | (simp only [mem_tailS, mem_tailS0, List.getElem?_cons_zero, List.getElem?_cons_succ]; first | done | rfl) | exact mem_set1 (by assumption) | exact mem_set0 (by assumption) | exact mem_setN1 (by assumption) (by assumption) | exact mem_setN (by assumption) (by assumption)))) (h := ?_) | refine o_call (hc := (hV _)) (h := ?_) | refine o_call (hc := (hT _)) (h := ?_) | refine o_load (hv := hl0) (h := ?_) | refine o_load (hv := hl1) (h := ?_) | refine o_load (hv := hl2) (h := ?_) | refine o_load (hv := hl3) (h := ?_)) <;> exact AOs.nil rfl) | (((refine d_AOs (h := ?_) ; first | refine o_move (h := ?_) | refine o_assign (h := ?_) | refine AOs.nil (h := ?_) | (refine d_bin (h := ?_) ; first | refine o_sneV (h := ?_) | refine o_neB (h := ?_) | refine o_nei (h := ?_) ) | (refine d_grd (h := ?_) ; first | refine g_yes (h := ?_) | refine g_no (h := ?_) | refine g_undef (h := ?_) | (refine g_true (h1 := (fun hg => ?_)) (h0 := (fun hg => ?_)) <;> (try rw [hg]) <;> (try simp only [decide_eq_true_eq, decide_eq_false_iff_not, Int.ofNat_inj, Bool.not_eq_true', Bool.not_eq_false', Int.not_lt, Int.not_le] at hg) <;> (try (exfalso; omega)) <;> (try (exact absurd hg (by decide)))) | (refine g_false (h1 := (fun hg => ?_)) (h0 := (fun hg => ?_)) <;> (try rw [hg]) <;> (try simp only [decide_eq_true_eq, decide_eq_false_iff_not, Int.ofNat_inj, Bool.not_eq_true', Bool.not_eq_false', Int.not_lt, Int.not_le] at hg) <;> (try (exfalso; omega)) <;> (try (exact absurd hg (by decide))))) | refine o_load (h := ?_) | refine o_at (h := ?_) | refine o_pick (h := ?_) | refine o_not (h := ?_) | refine o_len (h := ?_) | refine o_lenS (h := ?_) | refine o_ixS (h := ?_) | refine o_slHi (h := ?_) | refine o_slLo (h := ?_) | refine o_slLH (h := ?_) | refine o_store (h := ?_) | refine o_alloc (h := ?_) | refine o_ix (h := ?_) | refine o_build (h := ?_) ) <;> exact AOs.nil rfl)) | ((refine AOs.fillF (fun j => .pointer (some ⟨j, 0, none⟩)) (OneRef.ptr) 3 (hd := ?_) (hi := ?_) (hN := ?_) (hfl := ?_) (h := ?_)); (rfl); (rfl); (rfl); (simp only [List.getElem?_cons_succ, List.getElem?_cons_zero, Option.getD_some, List.cons_append, List.nil_append, List.length_cons, List.length_nil, Nat.reduceAdd, Nat.zero_add]; exact (by repeat' (first | exact Flat.nilSlice _ _ | exact Flat.bool _ | exact Flat.int _ _ | exact Flat.float _ _ | exact Flat.string _ | exact flat_nil | exact flat_tabL (fun _ => Flat.bool _) | exact flat_tabL (fun _ => Flat.int _ _) | exact flat_tabL (fun _ => Flat.float _ _) | refine flat_tuple ?_ | refine flat_agg ?_ | refine flat_cons ?_ ?_ | refine flat_append ?_ ?_))); (simp only [List.getElem?_cons_succ, List.getElem?_cons_zero, Option.getD_some, List.cons_append, List.nil_append, List.length_cons, List.length_nil, Nat.reduceAdd, Nat.zero_add]); (((refine d_AOs (h := ?_) ; first | refine o_move (h := ?_) | refine o_assign (h := ?_) | refine AOs.nil (h := ?_) | (refine d_bin (h := ?_) ; first | refine o_sneV (h := ?_) | refine o_neB (h := ?_) | refine o_nei (h := ?_) ) | (refine d_grd (h := ?_) ; first | refine g_yes (h := ?_) | refine g_no (h := ?_) | refine g_undef (h := ?_) | (refine g_true (h1 := (fun hg => ?_)) (h0 := (fun hg => ?_)) <;> (try rw [hg]) <;> (try simp only [decide_eq_true_eq, decide_eq_false_iff_not, Int.ofNat_inj, Bool.not_eq_true', Bool.not_eq_false', Int.not_lt, Int.not_le] at hg) <;> (try (exfalso; omega)) <;> (try (exact absurd hg (by decide)))) | (refine g_false (h1 := (fun hg => ?_)) (h0 := (fun hg => ?_)) <;> (try rw [hg]) <;> (try simp only [decide_eq_true_eq, decide_eq_false_iff_not, Int.ofNat_inj, Bool.not_eq_true', Bool.not_eq_false', Int.not_lt, Int.not_le] at hg) <;> (try (exfalso; omega)) <;> (try (exact absurd hg (by decide))))) | refine o_load (h := ?_) | refine o_at (h := ?_) | refine o_pick (h := ?_) | refine o_not (h := ?_) | refine o_len (h := ?_) | refine o_lenS (h := ?_) | refine o_ixS (h := ?_) | refine o_slHi (h := ?_) | refine o_slLo (h := ?_) | refine o_slLH (h := ?_) | refine o_store (h := ?_) | refine o_alloc (h := ?_) | refine o_ix (h := ?_) | refine o_build (h := ?_) ) <;> exact AOs.nil rfl)))))) (hn := ?_) | refine wf_stepN (hob := by (simp only [obT, obC, noFirst]; repeat' (first | exact True.intro | exact rfl | refine And.intro ?_ ?_ | ((refine d_AOs ?_; first | refine o_slLo (q := 1) (ln' := 19) (cp' := 19) (hln := by omega) (hcp' := by omega) (h := ?_) | refine o_slLo (q := 3) (ln' := 16) (cp' := 16) (h := ?_) | refine o_s2a (h := ?_) | refine o_build (cs := rdC c p b l) (hf := by rfl) (h := ?_) | refine o_callA (hc := (hSp _)) (h := ?_) | refine o_callA (hc := (hN _ _ _ _ _ (by first | (simp only [mem_tail, mem_tail0, List.getElem?_cons_zero, List.getElem?_cons_succ]; first | done | rfl) | exact mem_head (by assumption) | assumption | (simp only [mem_tailS, mem_tailS0, List.getElem?_cons_zero, List.getElem?_cons_succ]; first | done | rfl) | exact mem_set1 (by assumption) | exact mem_set0 (by assumption) | exact mem_setN1 (by assumption) (by assumption) | exact mem_setN (by assumption) (by assumption)))) (h := ?_) | refine o_call (hc := (hV _)) (h := ?_) | refine o_call (hc := (hT _)) (h := ?_) | refine o_load (hv := hl0) (h := ?_) | refine o_load (hv := hl1) (h := ?_) | refine o_load (hv := hl2) (h := ?_) | refine o_load (hv := hl3) (h := ?_)) <;> exact AOs.nil rfl) | (((refine d_AOs (h := ?_) ; first | refine o_move (h := ?_) | refine o_assign (h := ?_) | refine AOs.nil (h := ?_) | (refine d_bin (h := ?_) ; first | refine o_sneV (h := ?_) | refine o_neB (h := ?_) | refine o_nei (h := ?_) ) | (refine d_grd (h := ?_) ; first | refine g_yes (h := ?_) | refine g_no (h := ?_) | refine g_undef (h := ?_) | (refine g_true (h1 := (fun hg => ?_)) (h0 := (fun hg => ?_)) <;> (try rw [hg]) <;> (try simp only [decide_eq_true_eq, decide_eq_false_iff_not, Int.ofNat_inj, Bool.not_eq_true', Bool.not_eq_false', Int.not_lt, Int.not_le] at hg) <;> (try (exfalso; omega)) <;> (try (exact absurd hg (by decide)))) | (refine g_false (h1 := (fun hg => ?_)) (h0 := (fun hg => ?_)) <;> (try rw [hg]) <;> (try simp only [decide_eq_true_eq, decide_eq_false_iff_not, Int.ofNat_inj, Bool.not_eq_true', Bool.not_eq_false', Int.not_lt, Int.not_le] at hg) <;> (try (exfalso; omega)) <;> (try (exact absurd hg (by decide))))) | refine o_load (h := ?_) | refine o_at (h := ?_) | refine o_pick (h := ?_) | refine o_not (h := ?_) | refine o_len (h := ?_) | refine o_lenS (h := ?_) | refine o_ixS (h := ?_) | refine o_slHi (h := ?_) | refine o_slLo (h := ?_) | refine o_slLH (h := ?_) | refine o_store (h := ?_) | refine o_alloc (h := ?_) | refine o_ix (h := ?_) | refine o_build (h := ?_) ) <;> exact AOs.nil rfl)) | ((refine AOs.fillF (fun j => .pointer (some ⟨j, 0, none⟩)) (OneRef.ptr) 3 (hd := ?_) (hi := ?_) (hN := ?_) (hfl := ?_) (h := ?_)); (rfl); (rfl); (rfl); (simp only [List.getElem?_cons_succ, List.getElem?_cons_zero, Option.getD_some, List.cons_append, List.nil_append, List.length_cons, List.length_nil, Nat.reduceAdd, Nat.zero_add]; exact (by repeat' (first | exact Flat.nilSlice _ _ | exact Flat.bool _ | exact Flat.int _ _ | exact Flat.float _ _ | exact Flat.string _ | exact flat_nil | exact flat_tabL (fun _ => Flat.bool _) | exact flat_tabL (fun _ => Flat.int _ _) | exact flat_tabL (fun _ => Flat.float _ _) | refine flat_tuple ?_ | refine flat_agg ?_ | refine flat_cons ?_ ?_ | refine flat_append ?_ ?_))); (simp only [List.getElem?_cons_succ, List.getElem?_cons_zero, Option.getD_some, List.cons_append, List.nil_append, List.length_cons, List.length_nil, Nat.reduceAdd, Nat.zero_add]); (((refine d_AOs (h := ?_) ; first | refine o_move (h := ?_) | refine o_assign (h := ?_) | refine AOs.nil (h := ?_) | (refine d_bin (h := ?_) ; first | refine o_sneV (h := ?_) | refine o_neB (h := ?_) | refine o_nei (h := ?_) ) | (refine d_grd (h := ?_) ; first | refine g_yes (h := ?_) | refine g_no (h := ?_) | refine g_undef (h := ?_) | (refine g_true (h1 := (fun hg => ?_)) (h0 := (fun hg => ?_)) <;> (try rw [hg]) <;> (try simp only [decide_eq_true_eq, decide_eq_false_iff_not, Int.ofNat_inj, Bool.not_eq_true', Bool.not_eq_false', Int.not_lt, Int.not_le] at hg) <;> (try (exfalso; omega)) <;> (try (exact absurd hg (by decide)))) | (refine g_false (h1 := (fun hg => ?_)) (h0 := (fun hg => ?_)) <;> (try rw [hg]) <;> (try simp only [decide_eq_true_eq, decide_eq_false_iff_not, Int.ofNat_inj, Bool.not_eq_true', Bool.not_eq_false', Int.not_lt, Int.not_le] at hg) <;> (try (exfalso; omega)) <;> (try (exact absurd hg (by decide))))) | refine o_load (h := ?_) | refine o_at (h := ?_) | refine o_pick (h := ?_) | refine o_not (h := ?_) | refine o_len (h := ?_) | refine o_lenS (h := ?_) | refine o_ixS (h := ?_) | refine o_slHi (h := ?_) | refine o_slLo (h := ?_) | refine o_slLH (h := ?_) | refine o_store (h := ?_) | refine o_alloc (h := ?_) | refine o_ix (h := ?_) | refine o_build (h := ?_) ) <;> exact AOs.nil rfl)))))) (hn := ?_)) | (refine d_post (h := ?_) ; first | refine p_ret2 rfl (h := ?_) ))
  all_goals first | rfl | (exfalso; simp at hc; done) | (exfalso; omega)
end
end Go.Proofs.YtgdpcomemkimhaaGreatDoor

/- Guarded operations in open regions that change memory. No program in sight. -/
namespace Go.Proofs.YtgdpcomemkimhaaGreatDoor
open Go.RowKit
set_option linter.unusedSimpArgs false
set_option linter.unusedVariables false

section
variable {P : Program} {ops l : List Oper} {K : St → Prop} {n : Nat} {t : Env} {m0 m1 : Mem} {d ty : Nat} {pos : String} {af : Array Edge} {op : Op} {p : Nat}
end
end Go.Proofs.YtgdpcomemkimhaaGreatDoor

/- copy, max, and slices of one element that can grow. -/
namespace Go.Proofs.YtgdpcomemkimhaaGreatDoor
open Go.RowKit
set_option linter.unusedSimpArgs false
set_option linter.unusedVariables false

section
variable {P : Program} {ops l : List Oper} {K : St → Prop} {n : Nat} {t : Env} {m : Mem} {d ty : Nat} {pos : String} {af : Array Edge}
end
end Go.Proofs.YtgdpcomemkimhaaGreatDoor

/- Roads: steps one after the other. -/
namespace Go.Proofs.YtgdpcomemkimhaaGreatDoor
open Go.RowKit
attribute [local irreducible] AW AOs AO AQ AQW thenA inBlockA postA ACalls Pure
set_option linter.unusedSimpArgs false
set_option linter.unusedVariables false
set_option linter.unusedSectionVars false

section
variable {P : Program} {ops l : List Oper} {K : St → Prop} {n : Nat} {t : Env} {m : Mem} {d ty : Nat} {pos : String} {af : Array Edge} {xt yt : TypeId} {x y : Operand} {k k' : IntKind} {a b c : Int}
end
/-! ### One thing many times -/
section
variable {c : Nat → Nat} {p b l : Nat}
variable (hr : RdOk c p b l)
include hr
end
end Go.Proofs.YtgdpcomemkimhaaGreatDoor
