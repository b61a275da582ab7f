/- What the functions on plans give. -/
import Derived.Test.YtddmclkijheicaaDoorB1
namespace Go.Proofs.YtddmclkijheicaaDoor
open Go.RowKit
attribute [local irreducible] AW AOs AO AQ AQW thenA inBlockA postA ACalls Pure
set_option linter.unusedSimpArgs false
set_option linter.unusedVariables false
set_option linter.unusedSectionVars false

/-! ### Copies, sizes, comparison -/
theorem leqSlot (g : Nat → Bool) (x : Int) (M : Mem) : Pure Tryd.prog 33 [.agg (tab 8 (fun i => .bool (g i)) ++ ([.int .i64 x] : List Value)).toArray, .agg (tab 8 (fun i => .bool (g i)) ++ ([.int .i64 x] : List Value)).toArray] M (.bool true) := by
  refine pure_of Tryd.func33 Tryd.ntmps33 rfl rfl (by repeat' (first | exact Flat.bool _ | exact Flat.int _ _ | exact Flat.float _ _ | exact Flat.string _ | exact flat_nil | exact flat_tabL (fun _ => Flat.bool _) | exact flat_tabL (fun _ => Flat.int _ _) | exact flat_tabL (fun _ => Flat.float _ _) | refine flat_tuple ?_ | refine flat_agg ?_ | refine flat_cons ?_ ?_ | refine flat_append ?_ ?_)) ?_
  simp only [envOf, Nat.zero_add, Nat.reduceAdd]
  repeat' (first | (refine d_AOs (h := ?_) ; first | refine o_assign (h := ?_) | refine AOs.nil (h := ?_) | (refine d_bin (h := ?_) ; first | refine o_neB (h := ?_) | refine o_nei (h := ?_) )  | refine o_call (hc := (leqPhase g _)) (h := ?_) | refine o_load (h := ?_) | refine o_at (h := ?_) | refine o_field (h := ?_) | refine o_not (h := ?_) | refine o_box (h := ?_) ) | (refine d_AW (h := ?_) ; first | refine AW.seq (h := ?_) | refine AW.region (h := ?_) | (refine AW.cond (ht := (fun hc => ?_)) (hf := (fun hc => ?_)) <;> (try (with_reducible first | exact absurd hc Bool.false_ne_true | exact absurd hc.symm Bool.false_ne_true)) <;> (try simp only [decide_eq_true_eq, decide_eq_false_iff_not, Int.ofNat_inj, Bool.not_eq_true', Bool.not_eq_false', Int.not_lt, Int.not_le] at hc) <;> (try (exfalso; omega)) <;> (try (exact absurd hc (by decide)))) | refine AW.block (h := ?_) | refine AW.ret (h := ?_) | refine AW.skip (h := ?_) | refine AW.exit (h := ?_) ) | (first | refine t_normal ?_ | refine t_ret ?_ | refine t_exit ?_ | refine b_normal ?_ | refine b_exit ?_ | refine b_exit' (by decide) ?_ | refine b_ret ?_) | (refine d_post (h := ?_) ; first | refine p_ret1 rfl (h := ?_) | refine p_end1 rfl (h := ?_) | refine p_cell1 rfl (h := ?_) ))
  all_goals first | rfl | (simp at hc; done)
set_option maxHeartbeats 1000000 in
theorem leqSlotS (a b : Option Addr) (n cp cp' : Nat) (G : Nat → Nat → Bool) (T : Nat → Int) (M : Mem) (hn : n ≤ 1048576) (hS : SlAt M a n (rows n fun q => tab 8 (fun i => .bool (G q i)) ++ ([.int .i64 (T q)] : List Value)))
    (hS' : SlAt M b n (rows n fun q => tab 8 (fun i => .bool (G q i)) ++ ([.int .i64 (T q)] : List Value))) : Pure Tryd.prog 18 [.slice a n cp, .slice b n cp'] M (.bool true) := by
  refine pure_of Tryd.func18 Tryd.ntmps18 rfl rfl (by repeat' (first | exact Flat.bool _ | exact Flat.int _ _ | exact Flat.float _ _ | exact Flat.string _ | exact flat_nil | exact flat_tabL (fun _ => Flat.bool _) | exact flat_tabL (fun _ => Flat.int _ _) | exact flat_tabL (fun _ => Flat.float _ _) | refine flat_tuple ?_ | refine flat_agg ?_ | refine flat_cons ?_ ?_ | refine flat_append ?_ ?_)) ?_
  simp only [envOf, Nat.zero_add, Nat.reduceAdd]
  repeat' (first | (refine d_AOs (h := ?_) ; first | refine o_move (h := ?_) | refine o_assign (h := ?_) | refine AOs.nil (h := ?_) | (refine d_bin (h := ?_) ; first | refine o_addS (h := ?_) | refine o_add (h := ?_) | refine o_lss (h := ?_) | refine o_neB (h := ?_) | refine o_nei (h := ?_) )  | refine o_load (h := ?_) | refine o_at (h := ?_) | refine o_not (h := ?_) | refine o_len (h := ?_) | refine o_lenS (h := ?_) | refine o_ixS (h := ?_) | refine o_ix (h := ?_) ) | (refine d_AW (h := ?_) ; first | refine AW.seq (h := ?_) | refine AW.region (h := ?_) | refine AW.open5 (h1 := ?_) (h2 := ?_) (h3 := ?_) | refine AW.open_ (h := ?_) | (refine AW.cond (ht := (fun hc => ?_)) (hf := (fun hc => ?_)) <;> (try (with_reducible first | exact absurd hc Bool.false_ne_true | exact absurd hc.symm Bool.false_ne_true)) <;> (try simp only [decide_eq_true_eq, decide_eq_false_iff_not, Int.ofNat_inj, Bool.not_eq_true', Bool.not_eq_false', Int.not_lt, Int.not_le] at hc) <;> (try (exfalso; omega)) <;> (try (exact absurd hc (by decide)))) | refine AW.block (h := ?_) | refine AW.ret (h := ?_) | refine AW.skip (h := ?_) | refine AW.exit (h := ?_) ) | (first | refine t_normal ?_ | refine t_ret ?_ | refine t_exit ?_ | refine b_normal ?_ | refine b_exit ?_ | refine b_exit' (by decide) ?_ | refine b_ret ?_) | (refine d_AQ (h := ?_) ; first | refine q_nil (h := ?_) | refine q_switchB (h2 := ?_) | refine q_step (h2 := ?_) | refine q_yes (h2 := ?_) | refine q_no (h2 := ?_) | refine q_undef (h2 := ?_) | (refine q_true (h2 := (fun hg => ?_)) (h0 := (fun hg => ?_)) <;> (try rw [hg]) <;> (try simp only [decide_eq_true_eq, decide_eq_false_iff_not, Int.ofNat_inj, Bool.not_eq_true', Bool.not_eq_false', Int.not_lt, Int.not_le] at hg) <;> (try (exfalso; omega)) <;> (try (exact absurd hg (by decide)))) | (refine q_false (h2 := (fun hg => ?_)) (h0 := (fun hg => ?_)) <;> (try rw [hg]) <;> (try simp only [decide_eq_true_eq, decide_eq_false_iff_not, Int.ofNat_inj, Bool.not_eq_true', Bool.not_eq_false', Int.not_lt, Int.not_le] at hg) <;> (try (exfalso; omega)) <;> (try (exact absurd hg (by decide)))) | refine q_switch (h2 := ?_)) | (refine d_post (h := ?_) ; first | refine p_ret1 rfl (h := ?_) | refine p_end1 rfl (h := ?_) | refine p_cell1 rfl (h := ?_) ))
  refine AW.loopN [0, 1, 5] (fun k s => ∃ (i : Nat), i + k = n ∧ s = ⟨27, [(0, .slice a n cp), (1, .slice b n cp'), (5, .int .i64 i)], M⟩) n ⟨0, by omega, rfl⟩ ?_
  rintro k s ⟨i, hi, rfl⟩
  by_cases hin : i < n
  · obtain ⟨b1, tg1, rw1, rfl, hb1⟩ := hS (by omega)
    obtain ⟨b2, tg2, rw2, rfl, hb2⟩ := hS' (by omega)
    repeat' (first | (refine d_AOs (h := ?_) ; first | refine o_move (h := ?_) | refine o_assign (h := ?_) | refine AOs.nil (h := ?_) | (refine d_bin (h := ?_) ; first | refine o_addS (h := ?_) | refine o_add (h := ?_) | refine o_lss (h := ?_) | refine o_neB (h := ?_) | refine o_nei (h := ?_) )  | refine o_call (hc := (leqSlot _ _ _)) (h := ?_) | refine o_load (h := ?_) | refine o_at (h := ?_) | refine o_not (h := ?_) | refine o_len (h := ?_) | refine o_lenS (h := ?_) | refine o_ixS (h := ?_) | refine o_ix (h := ?_) ) | (refine d_AW (h := ?_) ; first | refine AW.seq (h := ?_) | refine AW.region (h := ?_) | refine AW.open5 (h1 := ?_) (h2 := ?_) (h3 := ?_) | refine AW.open_ (h := ?_) | (refine AW.cond (ht := (fun hc => ?_)) (hf := (fun hc => ?_)) <;> (try (with_reducible first | exact absurd hc Bool.false_ne_true | exact absurd hc.symm Bool.false_ne_true)) <;> (try simp only [decide_eq_true_eq, decide_eq_false_iff_not, Int.ofNat_inj, Bool.not_eq_true', Bool.not_eq_false', Int.not_lt, Int.not_le] at hc) <;> (try (exfalso; omega)) <;> (try (exact absurd hc (by decide)))) | refine AW.block (h := ?_) | refine AW.ret (h := ?_) | refine AW.skip (h := ?_) | refine AW.exit (h := ?_) ) | (first | refine t_normal ?_ | refine t_ret ?_ | refine t_exit ?_ | refine b_normal ?_ | refine b_exit ?_ | refine b_exit' (by decide) ?_ | refine b_ret ?_) | (refine d_AQ (h := ?_) ; first | refine q_nil (h := ?_) | refine q_switchB (h2 := ?_) | refine q_step (h2 := ?_) | refine q_yes (h2 := ?_) | refine q_no (h2 := ?_) | refine q_undef (h2 := ?_) | (refine q_true (h2 := (fun hg => ?_)) (h0 := (fun hg => ?_)) <;> (try rw [hg]) <;> (try simp only [decide_eq_true_eq, decide_eq_false_iff_not, Int.ofNat_inj, Bool.not_eq_true', Bool.not_eq_false', Int.not_lt, Int.not_le] at hg) <;> (try (exfalso; omega)) <;> (try (exact absurd hg (by decide)))) | (refine q_false (h2 := (fun hg => ?_)) (h0 := (fun hg => ?_)) <;> (try rw [hg]) <;> (try simp only [decide_eq_true_eq, decide_eq_false_iff_not, Int.ofNat_inj, Bool.not_eq_true', Bool.not_eq_false', Int.not_lt, Int.not_le] at hg) <;> (try (exfalso; omega)) <;> (try (exact absurd hg (by decide)))) | refine q_step (h1 := by (refine d_AOs ?_; first | refine o_call (hc := (leqSlot _ _ _)) (h := ?_)) <;> exact AOs.nil rfl) (h2 := ?_) | refine q_yes (h1 := by (refine d_AOs ?_; first | refine o_call (hc := (leqSlot _ _ _)) (h := ?_)) <;> exact AOs.nil rfl) (h2 := ?_) | (refine q_true (h1 := fun hg => by (refine d_AOs ?_; first | refine o_call (hc := (leqSlot _ _ _)) (h := ?_)) <;> exact AOs.nil rfl) (h2 := (fun hg => ?_)) (h0 := (fun hg => ?_)) <;> (try rw [hg]) <;> (try simp only [decide_eq_true_eq, decide_eq_false_iff_not, Int.ofNat_inj, Bool.not_eq_true', Bool.not_eq_false', Int.not_lt, Int.not_le] at hg) <;> (try (exfalso; omega)) <;> (try (exact absurd hg (by decide)))) | (refine q_false (h1 := fun hg => by (refine d_AOs ?_; first | refine o_call (hc := (leqSlot _ _ _)) (h := ?_)) <;> exact AOs.nil rfl) (h2 := (fun hg => ?_)) (h0 := (fun hg => ?_)) <;> (try rw [hg]) <;> (try simp only [decide_eq_true_eq, decide_eq_false_iff_not, Int.ofNat_inj, Bool.not_eq_true', Bool.not_eq_false', Int.not_lt, Int.not_le] at hg) <;> (try (exfalso; omega)) <;> (try (exact absurd hg (by decide)))) | refine q_switch (h2 := ?_)) | (refine d_post (h := ?_) ; first | refine p_ret1 rfl (h := ?_) | refine p_end1 rfl (h := ?_) | refine p_cell1 rfl (h := ?_) ))
    all_goals first | (simp at hc; done) | exact ⟨k - 1, by omega, i + 1, by omega, rfl⟩
  · repeat' (first | (refine d_AOs (h := ?_) ; first | refine o_move (h := ?_) | refine o_assign (h := ?_) | refine AOs.nil (h := ?_) | (refine d_bin (h := ?_) ; first | refine o_addS (h := ?_) | refine o_add (h := ?_) | refine o_lss (h := ?_) | refine o_neB (h := ?_) | refine o_nei (h := ?_) )  | refine o_load (h := ?_) | refine o_at (h := ?_) | refine o_not (h := ?_) | refine o_len (h := ?_) | refine o_lenS (h := ?_) | refine o_ixS (h := ?_) | refine o_ix (h := ?_) ) | (refine d_AW (h := ?_) ; first | refine AW.seq (h := ?_) | refine AW.region (h := ?_) | refine AW.open5 (h1 := ?_) (h2 := ?_) (h3 := ?_) | refine AW.open_ (h := ?_) | (refine AW.cond (ht := (fun hc => ?_)) (hf := (fun hc => ?_)) <;> (try (with_reducible first | exact absurd hc Bool.false_ne_true | exact absurd hc.symm Bool.false_ne_true)) <;> (try simp only [decide_eq_true_eq, decide_eq_false_iff_not, Int.ofNat_inj, Bool.not_eq_true', Bool.not_eq_false', Int.not_lt, Int.not_le] at hc) <;> (try (exfalso; omega)) <;> (try (exact absurd hc (by decide)))) | refine AW.block (h := ?_) | refine AW.ret (h := ?_) | refine AW.skip (h := ?_) | refine AW.exit (h := ?_) ) | (first | refine t_normal ?_ | refine t_ret ?_ | refine t_exit ?_ | refine b_normal ?_ | refine b_exit ?_ | refine b_exit' (by decide) ?_ | refine b_ret ?_) | (refine d_AQ (h := ?_) ; first | refine q_nil (h := ?_) | refine q_switchB (h2 := ?_) | refine q_step (h2 := ?_) | refine q_yes (h2 := ?_) | refine q_no (h2 := ?_) | refine q_undef (h2 := ?_) | (refine q_true (h2 := (fun hg => ?_)) (h0 := (fun hg => ?_)) <;> (try rw [hg]) <;> (try simp only [decide_eq_true_eq, decide_eq_false_iff_not, Int.ofNat_inj, Bool.not_eq_true', Bool.not_eq_false', Int.not_lt, Int.not_le] at hg) <;> (try (exfalso; omega)) <;> (try (exact absurd hg (by decide)))) | (refine q_false (h2 := (fun hg => ?_)) (h0 := (fun hg => ?_)) <;> (try rw [hg]) <;> (try simp only [decide_eq_true_eq, decide_eq_false_iff_not, Int.ofNat_inj, Bool.not_eq_true', Bool.not_eq_false', Int.not_lt, Int.not_le] at hg) <;> (try (exfalso; omega)) <;> (try (exact absurd hg (by decide)))) | refine q_switch (h2 := ?_)) | (refine d_post (h := ?_) ; first | refine p_ret1 rfl (h := ?_) | refine p_end1 rfl (h := ?_) | refine p_cell1 rfl (h := ?_) ))
    all_goals rfl

set_option maxHeartbeats 1000000 in
theorem leqPlan (a b : Option Addr) (n cp cp' : Nat) (bt o : Int) (G : Nat → Nat → Bool) (T : Nat → Int) (M : Mem) (hn : n ≤ 1048576) (hS : SlAt M a n (rows n fun q => tab 8 (fun i => .bool (G q i)) ++ ([.int .i64 (T q)] : List Value)))
    (hS' : SlAt M b n (rows n fun q => tab 8 (fun i => .bool (G q i)) ++ ([.int .i64 (T q)] : List Value))) : Pure Tryd.prog 6 [.agg [.slice a n cp, .int .i64 bt, .int .i64 o].toArray, .agg [.slice b n cp', .int .i64 bt, .int .i64 o].toArray] M (.bool true) := by
  refine pure_of Tryd.func6 Tryd.ntmps6 rfl rfl (by repeat' (first | exact Flat.bool _ | exact Flat.int _ _ | exact Flat.float _ _ | exact Flat.string _ | exact flat_nil | exact flat_tabL (fun _ => Flat.bool _) | exact flat_tabL (fun _ => Flat.int _ _) | exact flat_tabL (fun _ => Flat.float _ _) | refine flat_tuple ?_ | refine flat_agg ?_ | refine flat_cons ?_ ?_ | refine flat_append ?_ ?_)) ?_
  simp only [envOf, Nat.zero_add, Nat.reduceAdd]
  repeat' (first | (refine d_AOs (h := ?_) ; first | refine o_assign (h := ?_) | refine AOs.nil (h := ?_) | (refine d_bin (h := ?_) ; first | refine o_neB (h := ?_) | refine o_nei (h := ?_) )  | refine o_call (hc := (leqSlotS a b n cp cp' G T _ hn (by first | exact hS | exact hS.append) (by first | exact hS' | exact hS'.append))) (h := ?_) | refine o_load (h := ?_) | refine o_at (h := ?_) | refine o_field (h := ?_) | refine o_not (h := ?_) | refine o_box (h := ?_) ) | (refine d_AW (h := ?_) ; first | refine AW.seq (h := ?_) | refine AW.region (h := ?_) | (refine AW.cond (ht := (fun hc => ?_)) (hf := (fun hc => ?_)) <;> (try (with_reducible first | exact absurd hc Bool.false_ne_true | exact absurd hc.symm Bool.false_ne_true)) <;> (try simp only [decide_eq_true_eq, decide_eq_false_iff_not, Int.ofNat_inj, Bool.not_eq_true', Bool.not_eq_false', Int.not_lt, Int.not_le] at hc) <;> (try (exfalso; omega)) <;> (try (exact absurd hc (by decide)))) | refine AW.block (h := ?_) | refine AW.ret (h := ?_) | refine AW.skip (h := ?_) | refine AW.exit (h := ?_) ) | (first | refine t_normal ?_ | refine t_ret ?_ | refine t_exit ?_ | refine b_normal ?_ | refine b_exit ?_ | refine b_exit' (by decide) ?_ | refine b_ret ?_) | (refine d_post (h := ?_) ; first | refine p_ret1 rfl (h := ?_) | refine p_end1 rfl (h := ?_) | refine p_cell1 rfl (h := ?_) ))
  all_goals first | rfl | (simp at hc; done)

/-! ### The cycle -/
def sumP (T : Nat → Int) (b : Int) : Nat → Int
  | 0 => 0
  | i + 1 => sumP T b i + (T i + b)
def cycR (T : Nat → Int) (b : Int) : Nat → Nat → Int → Int
  | 0, _, s => s
  | k + 1, i, s => if (1 ≤ T i ∧ T i ≤ 240) ∧ 0 ≤ b ∧ b ≤ 240 then (if 240 < s + (T i + b) then s + (T i + b) else cycR T b k (i + 1) (s + (T i + b))) else 241
def cyc (n : Nat) (T : Nat → Int) (b : Int) : Int := cycR T b n 0 0
def slotsOkP (n : Nat) (T : Nat → Int) : Prop := ∀ q, q < n → 1 ≤ T q ∧ T q ≤ 240
theorem sumP_mono {T : Nat → Int} {b : Int} (hb : 0 ≤ b) : ∀ (k i : Nat), (∀ q, q < i + k → 1 ≤ T q ∧ T q ≤ 240) → sumP T b i ≤ sumP T b (i + k)
  | 0, i, _ => Int.le_refl _
  | k + 1, i, h => by
    have h1 := sumP_mono hb k i fun q hq => h q (by omega)
    have h2 := h (i + k) (by omega)
    rw [← Nat.add_assoc]
    simp only [sumP]
    omega
theorem cycR_ok {T : Nat → Int} {b : Int} (hb : 0 ≤ b ∧ b ≤ 240) : ∀ (k i : Nat), (∀ q, q < i + k → 1 ≤ T q ∧ T q ≤ 240) → sumP T b (i + k) ≤ 240 → cycR T b k i (sumP T b i) = sumP T b (i + k)
  | 0, i, _, _ => rfl
  | k + 1, i, h, hs => by
    have h1 := h i (by omega)
    have h2 := sumP_mono hb.1 k (i + 1) fun q hq => h q (by omega)
    have e : i + 1 + k = i + (k + 1) := by omega
    rw [e] at h2
    have h3 : sumP T b (i + 1) = sumP T b i + (T i + b) := rfl
    simp only [cycR]
    rw [if_pos ⟨h1, hb⟩, if_neg (by omega), ← h3, cycR_ok hb k (i + 1) (fun q hq => h q (by omega)) (by rw [e]; exact hs), e]
theorem cycR_le {T : Nat → Int} {b : Int} : ∀ (k i : Nat), cycR T b k i (sumP T b i) ≤ 240 → (∀ q, i ≤ q → q < i + k → 1 ≤ T q ∧ T q ≤ 240) ∧ (0 < k → 0 ≤ b ∧ b ≤ 240) ∧ cycR T b k i (sumP T b i) = sumP T b (i + k)
  | 0, i, _ => ⟨fun q h1 h2 => by omega, fun h => by omega, rfl⟩
  | k + 1, i, h => by
    simp only [cycR] at h ⊢
    by_cases h1 : (1 ≤ T i ∧ T i ≤ 240) ∧ 0 ≤ b ∧ b ≤ 240
    · rw [if_pos h1] at h ⊢
      by_cases h2 : 240 < sumP T b i + (T i + b)
      · rw [if_pos h2] at h; omega
      · rw [if_neg h2] at h ⊢
        have h3 : sumP T b (i + 1) = sumP T b i + (T i + b) := rfl
        rw [← h3] at h ⊢
        obtain ⟨h4, _, h5⟩ := cycR_le k (i + 1) h
        refine ⟨fun q hq1 hq2 => ?_, fun _ => h1.2, ?_⟩
        · by_cases e : q = i
          · subst e; exact h1.1
          · exact h4 q (by omega) (by omega)
        · rw [h5]; congr 1; omega
    · rw [if_neg h1] at h; omega
theorem cyc_le {n : Nat} {T : Nat → Int} {b : Int} (h0 : 0 < n) (h : cyc n T b ≤ 240) : slotsOkP n T ∧ (0 ≤ b ∧ b ≤ 240) ∧ cyc n T b = sumP T b n := by
  obtain ⟨h1, h2, h3⟩ := cycR_le (T := T) (b := b) n 0 h
  exact ⟨fun q hq => h1 q (by omega) (by omega), h2 h0, by rw [show cyc n T b = _ from h3, Nat.zero_add]⟩
theorem cyc_eq {n : Nat} {T : Nat → Int} {b : Int} (h : slotsOkP n T) (hb : 0 ≤ b ∧ b ≤ 240) (hs : sumP T b n ≤ 240) : cyc n T b = sumP T b n := by
  have := cycR_ok hb n 0 (fun q hq => h q (by omega)) (by rw [Nat.zero_add]; exact hs)
  rw [Nat.zero_add] at this
  exact this
/-- A plan is valid. -/
def planP (n : Nat) (T : Nat → Int) (b o : Int) : Prop := (1 ≤ n ∧ n ≤ 8) ∧ cyc n T b ≤ 240 ∧ 0 ≤ o ∧ o ≤ cyc n T b - 1
instance (n : Nat) (T : Nat → Int) (b o : Int) : Decidable (planP n T b o) := by unfold planP; infer_instance
theorem planP_iff {n : Nat} {T : Nat → Int} {b o : Int} : planP n T b o ↔ (1 ≤ n ∧ n ≤ 8) ∧ slotsOkP n T ∧ (0 ≤ b ∧ b ≤ 240) ∧ sumP T b n ≤ 240 ∧ 0 ≤ o ∧ o ≤ sumP T b n - 1 := by
  unfold planP
  constructor
  · rintro ⟨hn, hc, ho⟩
    obtain ⟨h1, h2, h3⟩ := cyc_le (by omega) hc
    rw [h3] at hc ho
    exact ⟨hn, h1, h2, hc, ho⟩
  · rintro ⟨hn, h1, h2, hc, ho⟩
    rw [cyc_eq h1 h2 hc]
    exact ⟨hn, hc, ho⟩
end Go.Proofs.YtddmclkijheicaaDoor
