/- The width of a green wave: the law. -/
import Derived.Test.YtepmlgabadegfaaWv7
namespace Go.Proofs.Ytepmlgabadegfaa
open Go.RowKit
attribute [local irreducible] AW AOs AO AQ AQW thenA inBlockA postA ACalls Pure
set_option linter.unusedSimpArgs false
set_option linter.unusedVariables false
set_option linter.unusedSectionVars false

theorem SlAt.app2 {M Z : Mem} {a : Option Addr} {n : Nat} {cs : List Value} (h : SlAt (M ++ Z) a n cs) (Y : Mem) : SlAt (M ++ (Z ++ Y)) a n cs := by
  rw [← List.append_assoc]; exact h.append
theorem get_app2 {M Z : Mem} {p : Nat} {b : Blk} (h : (M ++ Z)[p]? = some b) (Y : Mem) : (M ++ (Z ++ Y))[p]? = some b := by
  rw [← List.append_assoc, List.getElem?_append_left (List.getElem?_eq_some_iff.1 h).1]; exact h
theorem wvV_two (K : Nat) (N : Nat → Nat) (B O : Nat → Int) (G : Nat → Nat → Nat → Bool) (T : Nat → Nat → Int) (nT : Nat) (t : Nat → Int) (m : Int) : ∃ w c : Int, wvV K N B O G T nT t m = .tuple [.int .i64 w, .int .i64 c].toArray := by
  unfold wvV; split <;> exact ⟨_, _, rfl⟩
section
variable (K : Nat) (A : Nat → Option Addr) (N C : Nat → Nat) (B O : Nat → Int) (G : Nat → Nat → Nat → Bool) (T : Nat → Nat → Int) (a : Option Addr) (cp : Nat) (nT : Nat) (t : Nat → Int) (ta : Option Addr) (tcp : Nat) (m : Int)
theorem stepP (M Z : Mem) (hK : K ≤ 1048576) (hN : ∀ q, q < K → N q ≤ 1048576) (hS : SlAt M a K (rows K (plF A N C B O))) (hI : ∀ i, i < K → SlAt M (A i) (N i) (rows (N i) fun x => tab 8 (fun z => .bool (G i x z)) ++ ([.int .i64 (T i x)] : List Value))) :
    ∃ (p : Nat) (X : Mem), Alloc Try.prog 6 [.slice a K cp] (M ++ Z) (.slice (some ⟨p, 0, none⟩) K K) X ∧ (M ++ (Z ++ X))[p]? = some ⟨rows K (plF (outA p) N N B O), none, true⟩ ∧
      ∀ i, i < K → SlAt (M ++ (Z ++ X)) (outA p i) (N i) (rows (N i) fun x => tab 8 (fun z => .bool (G i x z)) ++ ([.int .i64 (T i x)] : List Value)) := by
  refine ⟨(M ++ Z).length, _, ltoPlanS K A N C B O G T a cp (M ++ Z) hK hN hS.append (fun i hi => (hI i hi).append), ?_, fun i hi => ?_⟩
  · rw [← List.append_assoc, List.getElem?_append_right (Nat.le_refl _), Nat.sub_self]; rfl
  · have := planT_in K N B O G T (M := M ++ Z) (X := []) hi
    rw [List.append_nil, List.append_assoc] at this
    exact this
theorem stepI (M Z : Mem) (hn : nT ≤ 1048576) (hT : SlAt M ta nT (tab nT fun q => .int .i64 (t q))) :
    ∃ (p : Nat) (X : Mem), Alloc Try.prog 7 [.slice ta nT tcp] (M ++ Z) (.slice (some ⟨p, 0, none⟩) nT nT) X ∧ SlAt (M ++ (Z ++ X)) (some ⟨p, 0, none⟩) nT (tab nT fun q => .int .i64 (t q)) := by
  refine ⟨(M ++ Z).length, _, ltoInt64S ta nT tcp t (M ++ Z) hn hT.append, SlAt.of (rw := true) (tg := none) ?_⟩
  rw [← List.append_assoc, List.getElem?_append_right (Nat.le_refl _), Nat.sub_self]; rfl
set_option maxHeartbeats 16000000 in
theorem wWaveWidth (M : Mem) (hK : (K : Int) ≤ 9223372036854775807) (hN : ∀ q, q < K → (N q : Int) ≤ 9223372036854775807) (hS : SlAt M a K (rows K (plF A N C B O))) (hI : ∀ i, i < K → SlAt M (A i) (N i) (rows (N i) fun x => tab 8 (fun z => .bool (G i x z)) ++ ([.int .i64 (T i x)] : List Value)))
    (hnT : (nT : Int) ≤ 9223372036854775807) (hT : SlAt M ta nT (tab nT fun q => .int .i64 (t q))) :
    Pure Try.prog 3 [.slice a K cp, .slice ta nT tcp, .int .i64 m] M (.bool true) := by
  refine pure_of Try.func3 Try.ntmps3 rfl rfl (by repeat' (first | exact Flat.bool _ | exact Flat.int _ _ | exact Flat.float _ _ | exact Flat.string _ | exact flat_nil | exact flat_tabL (fun _ => Flat.bool _) | exact flat_tabL (fun _ => Flat.int _ _) | exact flat_tabL (fun _ => Flat.float _ _) | refine flat_tuple ?_ | refine flat_agg ?_ | refine flat_cons ?_ ?_ | refine flat_append ?_ ?_)) ?_
  by_cases hn : nT ≤ 1048576
  · have hz := lszPlanS K A N C B O a cp 1048576 M hK hN (by omega) hS
    by_cases hsz : 0 ≤ (if (1048576 : Int) - K < 0 then -1 else szK N K 0 (1048576 - K))
    · have hK2 : K ≤ 1048576 := Nat.le_of_not_lt fun h => by rw [if_pos (by omega)] at hsz; omega
      rw [if_neg (by omega)] at hz hsz
      obtain ⟨hs1, hs2⟩ := szK_pos hsz
      have hN2 : ∀ q, q < K → N q ≤ 1048576 := fun q hq => by have := hs2 q (by omega) (by omega); omega
      generalize szK N K 0 (1048576 - K) = z at hz hsz
      obtain ⟨p1, X1, h1, f1, g1⟩ := stepP K A N C B O G T a cp M [] hK2 hN2 hS hI
      obtain ⟨p2, X2, h2, t2⟩ := stepI nT t ta tcp M X1 hn hT
      obtain ⟨p3, X3, h3, f3, g3⟩ := stepP K A N C B O G T a cp M (X1 ++ X2) hK2 hN2 hS hI
      obtain ⟨p4, X4, h4, t4⟩ := stepI nT t ta tcp M (X1 ++ (X2 ++ X3)) hn hT
      obtain ⟨p5, X5, h5, f5, g5⟩ := stepP K A N C B O G T a cp M (X1 ++ (X2 ++ (X3 ++ X4))) hK2 hN2 hS hI
      obtain ⟨p6, X6, h6, t6⟩ := stepI nT t ta tcp M (X1 ++ (X2 ++ (X3 ++ (X4 ++ X5)))) hn hT
      simp only [List.append_nil, List.nil_append, List.append_assoc] at h1 f1 g1 h2 t2 h3 f3 g3 h4 t4 h5 f5 g5 h6 t6
      have hs := sWaveWidth K (outA p1) N N B O G T p1 K nT t (some ⟨p2, 0, none⟩) nT m (M ++ (X1 ++ X2)) true hK2 hN2 (get_app2 f1 X2) (fun i hi => (g1 i hi).app2 X2) hn t2
      have g3' := fun i hi => (g3 i hi).app2 X4
      have f3' := get_app2 f3 X4
      simp only [List.append_assoc] at f3' g3'
      have hi := iWaveWidth K (outA p3) N N B O G T (some ⟨p3, 0, none⟩) K nT t (some ⟨p4, 0, none⟩) nT m (M ++ (X1 ++ (X2 ++ (X3 ++ X4)))) hK2 hN2 (SlAt.of f3') g3' hn t4
      have g3'' := fun i hi => (g3' i hi).app2 X5
      have f3'' := get_app2 f3' X5
      simp only [List.append_assoc] at f3'' g3''
      have heP := leqPlanS K (outA p3) N N B O G T (some ⟨p3, 0, none⟩) (some ⟨p5, 0, none⟩) (outA p5) N K K (M ++ (X1 ++ (X2 ++ (X3 ++ (X4 ++ X5))))) hK2 hN2 (SlAt.of f3'') (SlAt.of f5) g3'' g5
      have t4' := t4.app2 (X5 ++ X6)
      simp only [List.append_assoc] at t4'
      have heI := leqInt64S (some ⟨p4, 0, none⟩) (some ⟨p6, 0, none⟩) nT nT nT t (M ++ (X1 ++ (X2 ++ (X3 ++ (X4 ++ (X5 ++ X6)))))) hn t4' t6
      obtain ⟨w, c, hwc⟩ := wvV_two K N B O G T nT t m
      rw [hwc] at hs hi
      clear hwc f1 g1 t2 f3 g3 t4 f5 g5 t6 f3' g3' f3'' g3'' t4' hS hI hT hs1 hs2
      simp only [envOf, Nat.zero_add, Nat.reduceAdd]
      repeat' (first | (refine d_AOs (h := ?_) ; first | refine o_move (h := ?_) | refine o_assign (h := ?_) | refine AOs.nil (h := ?_) | (refine d_bin (h := ?_) ; first | refine o_lss (h := ?_) | refine o_neB (h := ?_) | refine o_nei (h := ?_) | refine o_gtr (h := ?_) ) | (refine d_grd (h := ?_) ; first | refine g_yes (h := ?_) | refine g_no (h := ?_) | refine g_undef (h := ?_) | (refine g_true (h1 := (fun hg => ?_)) (h0 := (fun hg => ?_)) <;> (try rw [hg]) <;> (try simp only [decide_eq_true_eq, decide_eq_false_iff_not, Int.ofNat_inj, Bool.not_eq_true', Bool.not_eq_false', Int.not_lt, Int.not_le] at hg) <;> (try (exfalso; omega)) <;> (try (exact absurd hg (by decide)))) | (refine g_false (h1 := (fun hg => ?_)) (h0 := (fun hg => ?_)) <;> (try rw [hg]) <;> (try simp only [decide_eq_true_eq, decide_eq_false_iff_not, Int.ofNat_inj, Bool.not_eq_true', Bool.not_eq_false', Int.not_lt, Int.not_le] at hg) <;> (try (exfalso; omega)) <;> (try (exact absurd hg (by decide))))) | refine o_call (hc := hz) (h := ?_) | refine o_callA (hc := h1) (h := ?_) | refine o_callA (hc := h2) (h := ?_) | refine o_callA (hc := h3) (h := ?_) | refine o_callA (hc := h4) (h := ?_) | refine o_callA (hc := h5) (h := ?_) | refine o_callA (hc := h6) (h := ?_) | refine o_call (hc := hs) (h := ?_) | refine o_call (hc := hi) (h := ?_) | refine o_call (hc := heP) (h := ?_) | refine o_call (hc := heI) (h := ?_) | refine o_at (h := ?_) | refine o_pick (h := ?_) | refine o_not (h := ?_) | refine o_len (h := ?_) | refine o_lenS (h := ?_) | refine o_extract (h := ?_) ) | (refine d_AW (h := ?_) ; first | refine AW.seq (h := ?_) | refine AW.region (h := ?_) | (refine AW.cond (ht := (fun hc => ?_)) (hf := (fun hc => ?_)) <;> (try (with_reducible first | exact absurd hc Bool.false_ne_true | exact absurd hc.symm Bool.false_ne_true)) <;> (try simp only [decide_eq_true_eq, decide_eq_false_iff_not, Int.ofNat_inj, Bool.not_eq_true', Bool.not_eq_false', Int.not_lt, Int.not_le] at hc) <;> (try (exfalso; omega)) <;> (try (exact absurd hc (by decide)))) | refine AW.block (h := ?_) | refine AW.ret (h := ?_) | refine AW.skip (h := ?_) | refine AW.exit (h := ?_) ) | (first | refine t_normal ?_ | refine t_ret ?_ | refine t_exit ?_ | refine b_normal ?_ | refine b_exit ?_ | refine b_exit' (by decide) ?_ | refine b_ret ?_) | (refine d_post (h := ?_) ; first | refine p_ret1 rfl (h := ?_) | refine p_end1 rfl (h := ?_) | refine p_cell1 rfl (h := ?_) ))
      all_goals first | rfl | (simp at hc; done) | (simp_all; done)
    · have hz1 : (if (1048576 : Int) - K < 0 then -1 else szK N K 0 (1048576 - K)) < 0 := by omega
      generalize (if (1048576 : Int) - K < 0 then -1 else szK N K 0 (1048576 - K)) = z at hz hz1
      simp only [envOf, Nat.zero_add, Nat.reduceAdd]
      repeat' (first | (refine d_AOs (h := ?_) ; first | refine o_move (h := ?_) | refine o_assign (h := ?_) | refine AOs.nil (h := ?_) | (refine d_bin (h := ?_) ; first | refine o_lss (h := ?_) | refine o_neB (h := ?_) | refine o_nei (h := ?_) | refine o_gtr (h := ?_) ) | (refine d_grd (h := ?_) ; first | refine g_yes (h := ?_) | refine g_no (h := ?_) | refine g_undef (h := ?_) | (refine g_true (h1 := (fun hg => ?_)) (h0 := (fun hg => ?_)) <;> (try rw [hg]) <;> (try simp only [decide_eq_true_eq, decide_eq_false_iff_not, Int.ofNat_inj, Bool.not_eq_true', Bool.not_eq_false', Int.not_lt, Int.not_le] at hg) <;> (try (exfalso; omega)) <;> (try (exact absurd hg (by decide)))) | (refine g_false (h1 := (fun hg => ?_)) (h0 := (fun hg => ?_)) <;> (try rw [hg]) <;> (try simp only [decide_eq_true_eq, decide_eq_false_iff_not, Int.ofNat_inj, Bool.not_eq_true', Bool.not_eq_false', Int.not_lt, Int.not_le] at hg) <;> (try (exfalso; omega)) <;> (try (exact absurd hg (by decide))))) | refine o_call (hc := hz) (h := ?_) | refine o_at (h := ?_) | refine o_pick (h := ?_) | refine o_not (h := ?_) | refine o_len (h := ?_) | refine o_lenS (h := ?_) | refine o_extract (h := ?_) ) | (refine d_AW (h := ?_) ; first | refine AW.seq (h := ?_) | refine AW.region (h := ?_) | (refine AW.cond (ht := (fun hc => ?_)) (hf := (fun hc => ?_)) <;> (try (with_reducible first | exact absurd hc Bool.false_ne_true | exact absurd hc.symm Bool.false_ne_true)) <;> (try simp only [decide_eq_true_eq, decide_eq_false_iff_not, Int.ofNat_inj, Bool.not_eq_true', Bool.not_eq_false', Int.not_lt, Int.not_le] at hc) <;> (try (exfalso; omega)) <;> (try (exact absurd hc (by decide)))) | refine AW.block (h := ?_) | refine AW.ret (h := ?_) | refine AW.skip (h := ?_) | refine AW.exit (h := ?_) ) | (first | refine t_normal ?_ | refine t_ret ?_ | refine t_exit ?_ | refine b_normal ?_ | refine b_exit ?_ | refine b_exit' (by decide) ?_ | refine b_ret ?_) | (refine d_post (h := ?_) ; first | refine p_ret1 rfl (h := ?_) | refine p_end1 rfl (h := ?_) | refine p_cell1 rfl (h := ?_) ))
      all_goals rfl
  · simp only [envOf, Nat.zero_add, Nat.reduceAdd]
    repeat' (first | (refine d_AOs (h := ?_) ; first | refine o_move (h := ?_) | refine o_assign (h := ?_) | refine AOs.nil (h := ?_) | (refine d_bin (h := ?_) ; first | refine o_lss (h := ?_) | refine o_neB (h := ?_) | refine o_nei (h := ?_) | refine o_gtr (h := ?_) ) | (refine d_grd (h := ?_) ; first | refine g_yes (h := ?_) | refine g_no (h := ?_) | refine g_undef (h := ?_) | (refine g_true (h1 := (fun hg => ?_)) (h0 := (fun hg => ?_)) <;> (try rw [hg]) <;> (try simp only [decide_eq_true_eq, decide_eq_false_iff_not, Int.ofNat_inj, Bool.not_eq_true', Bool.not_eq_false', Int.not_lt, Int.not_le] at hg) <;> (try (exfalso; omega)) <;> (try (exact absurd hg (by decide)))) | (refine g_false (h1 := (fun hg => ?_)) (h0 := (fun hg => ?_)) <;> (try rw [hg]) <;> (try simp only [decide_eq_true_eq, decide_eq_false_iff_not, Int.ofNat_inj, Bool.not_eq_true', Bool.not_eq_false', Int.not_lt, Int.not_le] at hg) <;> (try (exfalso; omega)) <;> (try (exact absurd hg (by decide))))) | refine o_at (h := ?_) | refine o_pick (h := ?_) | refine o_not (h := ?_) | refine o_len (h := ?_) | refine o_lenS (h := ?_) | refine o_extract (h := ?_) ) | (refine d_AW (h := ?_) ; first | refine AW.seq (h := ?_) | refine AW.region (h := ?_) | (refine AW.cond (ht := (fun hc => ?_)) (hf := (fun hc => ?_)) <;> (try (with_reducible first | exact absurd hc Bool.false_ne_true | exact absurd hc.symm Bool.false_ne_true)) <;> (try simp only [decide_eq_true_eq, decide_eq_false_iff_not, Int.ofNat_inj, Bool.not_eq_true', Bool.not_eq_false', Int.not_lt, Int.not_le] at hc) <;> (try (exfalso; omega)) <;> (try (exact absurd hc (by decide)))) | refine AW.block (h := ?_) | refine AW.ret (h := ?_) | refine AW.skip (h := ?_) | refine AW.exit (h := ?_) ) | (first | refine t_normal ?_ | refine t_ret ?_ | refine t_exit ?_ | refine b_normal ?_ | refine b_exit ?_ | refine b_exit' (by decide) ?_ | refine b_ret ?_) | (refine d_post (h := ?_) ; first | refine p_ret1 rfl (h := ?_) | refine p_end1 rfl (h := ?_) | refine p_cell1 rfl (h := ?_) ))
    all_goals rfl
end
theorem slot_rows2 {n : Nat} {N : Nat → Nat} {F : Nat → Nat → List Value} (h : ∀ j, j < n → ∀ i, i < N j → Leaves (List.replicate 8 (.bool : Leaf) ++ ([.int .i64] : List Leaf)) (F j i)) :
    ∃ (G : Nat → Nat → Nat → Bool) (T : Nat → Nat → Int), ∀ j, j < n → ∀ i, i < N j → (F j i).map canon = tab 8 (fun q => .bool (G j i q)) ++ ([.int .i64 (T j i)] : List Value) := by
  have key : ∀ j, ∃ (g : Nat → Nat → Bool) (t : Nat → Int), j < n → ∀ i, i < N j → (F j i).map canon = tab 8 (fun q => .bool (g i q)) ++ ([.int .i64 (t i)] : List Value) := fun j => by
    by_cases hj : j < n
    · obtain ⟨g, t, e⟩ := slot_rows (h j hj)
      exact ⟨g, t, fun _ => e⟩
    · exact ⟨fun _ _ => false, fun _ => 0, fun h => absurd h hj⟩
  exact ⟨fun i => Classical.choose (key i), fun i => Classical.choose (Classical.choose_spec (key i)), fun i hi => Classical.choose_spec (Classical.choose_spec (key i)) hi⟩
theorem two_rows {n : Nat} {G : Nat → List Value} (h : ∀ j, j < n → Leaves [.int .i64, .int .i64] (G j)) : ∃ B O : Nat → Int, ∀ j, j < n → (G j).map canon = [.int .i64 (B j), .int .i64 (O j)] := by
  have key : ∀ j, ∃ b o : Int, j < n → (G j).map canon = [.int .i64 b, .int .i64 o] := fun j => by
    by_cases hj : j < n
    · obtain ⟨b, o, e⟩ := two_ints (h j hj)
      exact ⟨b, o, fun _ => by rw [e]; rfl⟩
    · exact ⟨0, 0, fun h => absurd h hj⟩
  exact ⟨fun i => Classical.choose (key i), fun i => Classical.choose (Classical.choose_spec (key i)), fun i hi => Classical.choose_spec (Classical.choose_spec (key i)) hi⟩
theorem int_rows {n : Nat} {F : Nat → List Value} (h : ∀ i, i < n → Leaves [.int .i64] (F i)) : ∃ t : Nat → Int, ∀ i, i < n → (F i).map canon = [.int .i64 (t i)] := by
  have key : ∀ j, ∃ b : Int, j < n → (F j).map canon = [.int .i64 b] := fun j => by
    by_cases hj : j < n
    · obtain ⟨_, _, e, ⟨b, rfl, _⟩, g1⟩ := (h j hj).cons
      obtain rfl := g1.nil
      exact ⟨b, fun _ => by rw [e]; rfl⟩
    · exact ⟨0, fun h => absurd h hj⟩
  exact ⟨fun i => Classical.choose (key i), fun i hi => Classical.choose_spec (key i) hi⟩
end Go.Proofs.Ytepmlgabadegfaa
