/- Plain: a text of a junction is read alike by both; the law. -/
import Derived.Test.YtddmclkijheicaaGreatDoorRxn
import Derived.Test.YtddmclkijheicaaGreatDoorJc
import Derived.Test.YtddmclkijheicaaGreatDoorEj
import Derived.Test.YtddmclkijheicaaGreatDoorRj2

namespace Go.Proofs.YtddmclkijheicaaGreatDoor
open Go.RowKit
attribute [local irreducible] AW AOs AO AQ AQW thenA inBlockA postA ACalls Pure
set_option linter.unusedSimpArgs false
set_option linter.unusedVariables false
set_option linter.unusedSectionVars false

theorem nmW_0 {a b : List UInt8} {f : Nat → Nat} (m : Nat) : (nmW a b f m).getD 0 [] = jnK ∧ (nmW a b f m).getD 1 [] = a ∧ (nmW a b f m).getD 2 [] = b := by
  induction m with
  | zero => exact ⟨rfl, rfl, rfl⟩
  | succ m ih =>
    have hl := nmW_len a b f m
    show ((nmW a b f m ++ [hexN (f m) 8]).getD 0 [] = _) ∧ ((nmW a b f m ++ [hexN (f m) 8]).getD 1 [] = _) ∧ ((nmW a b f m ++ [hexN (f m) 8]).getD 2 [] = _)
    rw [getD_app1 (by omega), getD_app1 (by omega), getD_app1 (by omega)]
    exact ih
theorem nmW_i {a b : List UInt8} {f : Nat → Nat} {m i : Nat} (hi : i < m) : (nmW a b f m).getD (3 + i) [] = hexN (f i) 8 := by
  induction m with
  | zero => omega
  | succ m ih =>
    have hl := nmW_len a b f m
    show (nmW a b f m ++ [hexN (f m) 8]).getD (3 + i) [] = _
    by_cases h : i < m
    · rw [getD_app1 (by omega)]
      exact ih h
    · obtain rfl : i = m := by omega
      rw [getD_app2 (by omega), hl, show 3 + i - (3 + i) = 0 by omega]; rfl
theorem hexN_blank (u d : Nat) : (32 : UInt8) ∉ hexN u d := fun hm => by
  have := hexN_ok d u
  rw [List.all_eq_true] at this
  have := this 32 hm
  exact absurd this (by decide)
theorem nmW_clean {a b : List UInt8} {f : Nat → Nat} (ha : (32 : UInt8) ∉ a) (hb : (32 : UInt8) ∉ b) : ∀ m, ∀ w ∈ nmW a b f m, (32 : UInt8) ∉ w
  | 0, w, h => by
    have : w = jnK ∨ w = a ∨ w = b := by simpa [nmW] using h
    rcases this with rfl | rfl | rfl
    · decide
    · exact ha
    · exact hb
  | m + 1, w, h => by
    have : w ∈ nmW a b f m ∨ w = hexN (f m) 8 := by simpa [nmW] using h
    rcases this with h | rfl
    · exact nmW_clean ha hb m w h
    · exact hexN_blank _ _
theorem cut_nm {a b : List UInt8} {f : Nat → Nat} (ha : (32 : UInt8) ∉ a) (hb : (32 : UInt8) ∉ b) (m : Nat) : cutW 32 (nmS a b f m) = nmW a b f m := by
  rw [← nm_eq]
  obtain ⟨r, hr⟩ := nmW_cons a b f m
  exact cut_join' (by rw [hr]; simp) (nmW_clean ha hb m)
section
variable {s : List UInt8} {n o : Nat} {r : Nat → Nat}
/-- What the program takes, the reference takes. -/
theorem rj_to (hn : 1 ≤ n ∧ n ≤ 4) (ho : 1 ≤ o ∧ o ≤ 4) (hr : ∀ q, r q = rnV ((cutW 32 s).getD (3 + q) [])) (ht : jnT n o (hP n o r n 0) = s) :
    (cutW 32 s).getD 0 [] = jnK ∧ (nuOk ((cutW 32 s).getD 1 []) = true ∧ dcV 0 ((cutW 32 s).getD 1 []) = n) ∧ (nuOk ((cutW 32 s).getD 2 []) = true ∧ dcV 0 ((cutW 32 s).getD 2 []) = o) ∧
    (∀ q, q < n * o + n → rrB ((cutW 32 s).getD (3 + q) []) = true) ∧ ∀ q, q < n * o + n → r q = hvF 0 ((cutW 32 s).getD (3 + q) []) := by
  have hW : cutW 32 s = nmW (tD (n : Int)) (tD (o : Int)) (jF n o (hP n o r n 0)) (n * o + n) := by
    have := cut_nm (f := jF n o (hP n o r n 0)) (tD_blank (n : Int)) (tD_blank (o : Int)) (n * o + n)
    have e : nmS (tD (n : Int)) (tD (o : Int)) (jF n o (hP n o r n 0)) (n * o + n) = s := ht
    rwa [e] at this
  have h1 := tD_nu (x := (n : Int)) (by omega)
  have h2 := tD_nu (x := (o : Int)) (by omega)
  have hc : ∀ q, q < n * o + n → (cutW 32 s).getD (3 + q) [] = hexN (r q) 8 := fun q hq => by
    rw [hW, nmW_i hq, jF_hP ho hn.2 hq]
  have hb : ∀ q, q < n * o + n → rnB ((cutW 32 s).getD (3 + q) []) = true := fun q hq => by
    cases e : rnB ((cutW 32 s).getD (3 + q) [])
    · have h0 : r q = 0 := by
        rw [hr]
        unfold rnV
        rw [e]; rfl
      have := hc q hq
      rw [h0] at this
      rw [this] at e
      exact absurd e (by decide +kernel)
    · rfl
  rw [hW]
  refine ⟨(nmW_0 _).1, by rw [(nmW_0 _).2.1]; exact ⟨h1.1, by have := h1.2; omega⟩, by rw [(nmW_0 _).2.2]; exact ⟨h2.1, by have := h2.2; omega⟩, fun q hq => ?_, fun q hq => ?_⟩
  · rw [← hW, ← (rn_rr _).1]; exact hb q hq
  · rw [← hW, hr, ((rn_rr _).2 (hb q hq)).1]
/-- What the reference takes, the program takes. -/
theorem rj_from (hn : 1 ≤ n ∧ n ≤ 4) (ho : 1 ≤ o ∧ o ≤ 4) (hL : (cutW 32 s).length = 3 + (n * o + n)) (h0 : (cutW 32 s).getD 0 [] = jnK) (h1 : nuOk ((cutW 32 s).getD 1 []) = true ∧ dcV 0 ((cutW 32 s).getD 1 []) = n) (h2 : nuOk ((cutW 32 s).getD 2 []) = true ∧ dcV 0 ((cutW 32 s).getD 2 []) = o)
    (hok : ∀ q, q < n * o + n → rrB ((cutW 32 s).getD (3 + q) []) = true) (hr : ∀ q, r q = rnV ((cutW 32 s).getD (3 + q) [])) : jnT n o (hP n o r n 0) = s := by
  have hW : nmW (tD (n : Int)) (tD (o : Int)) (jF n o (hP n o r n 0)) (n * o + n) = cutW 32 s := by
    refine getD_ext (by rw [nmW_len]; omega) fun k hk => ?_
    rw [nmW_len] at hk
    have e1 : tD (n : Int) = (cutW 32 s).getD 1 [] := by
      rw [← (nuOk_dec h1.1).1, h1.2]; rfl
    have e2 : tD (o : Int) = (cutW 32 s).getD 2 [] := by
      rw [← (nuOk_dec h2.1).1, h2.2]; rfl
    by_cases k0 : k = 0
    · subst k0; rw [(nmW_0 _).1, h0]
    · by_cases k1 : k = 1
      · subst k1; rw [(nmW_0 _).2.1, e1]
      · by_cases k2 : k = 2
        · subst k2; rw [(nmW_0 _).2.2, e2]
        · obtain ⟨q, rfl⟩ : ∃ q, k = 3 + q := ⟨k - 3, by omega⟩
          have hb := hok q (by omega)
          rw [← (rn_rr _).1] at hb
          obtain ⟨g1, g2⟩ := (rn_rr _).2 hb
          rw [nmW_i (by omega), jF_hP ho hn.2 (by omega), hr, g1, g2]
  show nmS (tD (n : Int)) (tD (o : Int)) (jF n o (hP n o r n 0)) (n * o + n) = s
  rw [← nm_eq, hW, join_cut]
end
theorem hP_congr {n o : Nat} {r r' : Nat → Nat} (h : ∀ c, c < n * o + n → r c = r' c) : hP n o r n 0 = hP n o r' n 0 := by
  funext q
  unfold hP
  by_cases h1 : q < 2
  · rw [if_pos h1, if_pos h1]
  · rw [if_neg h1, if_neg h1]
    by_cases h2 : q < 18
    · rw [if_pos h2, if_pos h2]
      by_cases h3 : (q - 2) % 4 < o ∧ ((q - 2) / 4 < n ∨ ((q - 2) / 4 = n ∧ (q - 2) % 4 < 0))
      · rw [if_pos h3, if_pos h3]
        have h4 : (q - 2) / 4 < n := by omega
        have := ix_le (o := o) h4
        exact h _ (by omega)
      · rw [if_neg h3, if_neg h3]
    · rw [if_neg h2, if_neg h2]
      by_cases h3 : q - 18 < n
      · rw [if_pos h3, if_pos h3]
        exact h _ (by omega)
      · rw [if_neg h3, if_neg h3]
/-- Both answer the same, and nothing of memory. -/
theorem rj_both (s : List UInt8) (hs : s.length ≤ 1048576) : ∃ (a b : Int) (h : Nat → Nat) (c : Int), (∀ M, Pure Tryz.prog 52 [strV s] M (.tuple [jnV a b h, .int .i64 c].toArray)) ∧ ∀ M, Pure Tryz.prog 8 [strV s] M (.tuple [jnV a b h, .int .i64 c].toArray) := by
  by_cases hC : ∃ n o : Nat, (1 ≤ n ∧ n ≤ 4) ∧ (1 ≤ o ∧ o ≤ 4) ∧ (cutW 32 s).length = 3 + (n * o + n) ∧ pnV ((cutW 32 s).getD 1 []) = n ∧ pnV ((cutW 32 s).getD 2 []) = o
  · obtain ⟨n, o, hn, ho, hL, h1, h2⟩ := hC
    obtain ⟨r, hr⟩ : ∃ r : Nat → Nat, ∀ q, r q = rnV ((cutW 32 s).getD (3 + q) []) := ⟨_, fun _ => rfl⟩
    obtain ⟨u, hu⟩ : ∃ u : Nat → Nat, ∀ q, u q = hvF 0 ((cutW 32 s).getD (3 + q) []) := ⟨_, fun _ => rfl⟩
    have hi := fun M => iReadJunctionOk s hs n o hn ho r hL h1 h2 hr M
    by_cases hA : jnP (n : Int) (o : Int) (hP n o r n 0) ∧ jnT n o (hP n o r n 0) = s
    · obtain ⟨e0, e1, e2, e3, e4⟩ := rj_to hn ho hr hA.2
      have hsp := fun M => sReadJunctionOk s hs n o hn ho u e0 hL e1 e2 e3 hu M
      have eh : hP n o u n 0 = hP n o r n 0 := (hP_congr fun c hc => by rw [e4 c hc, hu]).symm
      rw [eh, if_pos hA.1] at hsp
      rw [if_pos hA] at hi
      exact ⟨_, _, _, _, hsp, hi⟩
    · rw [if_neg hA] at hi
      refine ⟨_, _, _, _, fun M => ?_, hi⟩
      by_cases hS : (cutW 32 s).getD 0 [] = jnK ∧ (nuOk ((cutW 32 s).getD 1 []) = true ∧ dcV 0 ((cutW 32 s).getD 1 []) = n) ∧ (nuOk ((cutW 32 s).getD 2 []) = true ∧ dcV 0 ((cutW 32 s).getD 2 []) = o) ∧ ∀ q, q < n * o + n → rrB ((cutW 32 s).getD (3 + q) []) = true
      · obtain ⟨e0, e1, e2, e3⟩ := hS
        have hsp := sReadJunctionOk s hs n o hn ho u e0 hL e1 e2 e3 hu M
        have ht := rj_from hn ho hL e0 e1 e2 e3 hr
        have eh : hP n o u n 0 = hP n o r n 0 := hP_congr fun c hc => by
          have hb := e3 c hc
          rw [← (rn_rr _).1] at hb
          rw [hu, hr, ((rn_rr _).2 hb).1]
        rw [eh, if_neg (fun e => hA ⟨e, ht⟩)] at hsp
        exact hsp
      · refine sReadJunctionNo s hs (fun n' o' a1 a2 a3 a4 b0 b1 b2 b3 b4 b5 b6 => hS ?_) M
        have f1 : n' = n := by
          have := pnV_ok b2
          rw [h1, b3] at this
          omega
        have f2 : o' = o := by
          have := pnV_ok b4
          rw [h2, b5] at this
          omega
        subst f1 f2
        exact ⟨b0, ⟨b2, b3⟩, ⟨b4, b5⟩, b6⟩
  · refine ⟨0, 0, fun _ => 0, 5, fun M => ?_, fun M => ?_⟩
    · refine sReadJunctionNo s hs (fun n o a1 a2 a3 a4 b0 b1 b2 b3 b4 b5 b6 => hC ⟨n, o, ⟨a1, a2⟩, ⟨a3, a4⟩, b1, ?_, ?_⟩) M
      · rw [pnV_ok b2, b3]
      · rw [pnV_ok b4, b5]
    · exact iReadJunctionNo s hs (fun n o a1 a2 a3 a4 b1 b2 b3 => hC ⟨n, o, ⟨a1, a2⟩, ⟨a3, a4⟩, b1, b2, b3⟩) M
set_option maxHeartbeats 4000000 in
theorem wReadJunction (s : List UInt8) (M : Mem) : Pure Tryz.prog 5 [strV s] M (.bool true) := by
  refine pure_of Tryz.func5 Tryz.ntmps5 rfl rfl (by repeat' (first | exact Flat.bool _ | exact Flat.int _ _ | exact Flat.float _ _ | exact Flat.string _ | exact flat_nil | exact flat_tabL (fun _ => Flat.bool _) | exact flat_tabL (fun _ => Flat.int _ _) | exact flat_tabL (fun _ => Flat.float _ _) | refine flat_tuple ?_ | refine flat_agg ?_ | refine flat_cons ?_ ?_ | refine flat_append ?_ ?_)) ?_
  by_cases hl : s.length ≤ 1048576
  · obtain ⟨a, b, h, c, hs, hi⟩ := rj_both s hl
    have hE := fun M' => leqJunction a b h M'
    simp only [envOf, Nat.zero_add, Nat.reduceAdd]
    repeat' (first | (refine d_AOs (h := ?_) ; first | refine o_move (h := ?_) | refine o_assign (h := ?_) | refine AOs.nil (h := ?_) | (refine d_bin (h := ?_) ; first | refine o_neB (h := ?_) | refine o_nei (h := ?_) | refine o_gtr (h := ?_) ) | (refine d_grd (h := ?_) ; first | refine g_yes (h := ?_) | refine g_no (h := ?_) | refine g_undef (h := ?_) | (refine g_true (h1 := (fun hg => ?_)) (h0 := (fun hg => ?_)) <;> (try rw [hg]) <;> (try simp only [decide_eq_true_eq, decide_eq_false_iff_not, Int.ofNat_inj, Bool.not_eq_true', Bool.not_eq_false', Int.not_lt, Int.not_le] at hg) <;> (try (exfalso; omega)) <;> (try (exact absurd hg (by decide)))) | (refine g_false (h1 := (fun hg => ?_)) (h0 := (fun hg => ?_)) <;> (try rw [hg]) <;> (try simp only [decide_eq_true_eq, decide_eq_false_iff_not, Int.ofNat_inj, Bool.not_eq_true', Bool.not_eq_false', Int.not_lt, Int.not_le] at hg) <;> (try (exfalso; omega)) <;> (try (exact absurd hg (by decide))))) | refine o_lenV (s := s) (h := ?_) | refine o_call (hc := (hs _)) (h := ?_) | refine o_call (hc := (hi _)) (h := ?_) | refine o_call (hc := (hE _)) (h := ?_) | refine o_load (h := ?_) | refine o_at (h := ?_) | refine o_pick (h := ?_) | refine o_not (h := ?_) | refine o_len (h := ?_) | refine o_lenS (h := ?_) | refine o_store (h := ?_) | refine o_alloc (h := ?_) | refine o_extract (h := ?_) ) | (refine d_AW (h := ?_) ; first | refine AW.seq (h := ?_) | refine AW.region (h := ?_) | (refine AW.cond (ht := (fun hc => ?_)) (hf := (fun hc => ?_)) <;> (try (with_reducible first | exact absurd hc Bool.false_ne_true | exact absurd hc.symm Bool.false_ne_true)) <;> (try simp only [decide_eq_true_eq, decide_eq_false_iff_not, Int.ofNat_inj, Bool.not_eq_true', Bool.not_eq_false', Int.not_lt, Int.not_le] at hc) <;> (try (exfalso; omega)) <;> (try (exact absurd hc (by decide)))) | refine AW.block (h := ?_) | refine AW.ret (h := ?_) | refine AW.skip (h := ?_) | refine AW.exit (h := ?_) ) | (first | refine t_normal ?_ | refine t_ret ?_ | refine t_exit ?_ | refine b_normal ?_ | refine b_exit ?_ | refine b_exit' (by decide) ?_ | refine b_ret ?_) | (refine d_post (h := ?_) ; first | refine p_ret1 rfl (h := ?_) | refine p_end1 rfl (h := ?_) | refine p_cell1 rfl (h := ?_) ))
    all_goals first | rfl | (simp at hc; done) | (exfalso; simp at hc; done) | (simp_all; done)
  · simp only [envOf, Nat.zero_add, Nat.reduceAdd]
    repeat' (first | (refine d_AOs (h := ?_) ; first | refine o_move (h := ?_) | refine o_assign (h := ?_) | refine AOs.nil (h := ?_) | (refine d_bin (h := ?_) ; first | refine o_neB (h := ?_) | refine o_nei (h := ?_) | refine o_gtr (h := ?_) ) | (refine d_grd (h := ?_) ; first | refine g_yes (h := ?_) | refine g_no (h := ?_) | refine g_undef (h := ?_) | (refine g_true (h1 := (fun hg => ?_)) (h0 := (fun hg => ?_)) <;> (try rw [hg]) <;> (try simp only [decide_eq_true_eq, decide_eq_false_iff_not, Int.ofNat_inj, Bool.not_eq_true', Bool.not_eq_false', Int.not_lt, Int.not_le] at hg) <;> (try (exfalso; omega)) <;> (try (exact absurd hg (by decide)))) | (refine g_false (h1 := (fun hg => ?_)) (h0 := (fun hg => ?_)) <;> (try rw [hg]) <;> (try simp only [decide_eq_true_eq, decide_eq_false_iff_not, Int.ofNat_inj, Bool.not_eq_true', Bool.not_eq_false', Int.not_lt, Int.not_le] at hg) <;> (try (exfalso; omega)) <;> (try (exact absurd hg (by decide))))) | refine o_lenV (s := s) (h := ?_) | refine o_load (h := ?_) | refine o_at (h := ?_) | refine o_pick (h := ?_) | refine o_not (h := ?_) | refine o_len (h := ?_) | refine o_lenS (h := ?_) | refine o_store (h := ?_) | refine o_alloc (h := ?_) | refine o_extract (h := ?_) ) | (refine d_AW (h := ?_) ; first | refine AW.seq (h := ?_) | refine AW.region (h := ?_) | (refine AW.cond (ht := (fun hc => ?_)) (hf := (fun hc => ?_)) <;> (try (with_reducible first | exact absurd hc Bool.false_ne_true | exact absurd hc.symm Bool.false_ne_true)) <;> (try simp only [decide_eq_true_eq, decide_eq_false_iff_not, Int.ofNat_inj, Bool.not_eq_true', Bool.not_eq_false', Int.not_lt, Int.not_le] at hc) <;> (try (exfalso; omega)) <;> (try (exact absurd hc (by decide)))) | refine AW.block (h := ?_) | refine AW.ret (h := ?_) | refine AW.skip (h := ?_) | refine AW.exit (h := ?_) ) | (first | refine t_normal ?_ | refine t_ret ?_ | refine t_exit ?_ | refine b_normal ?_ | refine b_exit ?_ | refine b_exit' (by decide) ?_ | refine b_ret ?_) | (refine d_post (h := ?_) ; first | refine p_ret1 rfl (h := ?_) | refine p_end1 rfl (h := ?_) | refine p_cell1 rfl (h := ?_) ))
    all_goals first | rfl | (simp at hc; done)
end Go.Proofs.YtddmclkijheicaaGreatDoor
