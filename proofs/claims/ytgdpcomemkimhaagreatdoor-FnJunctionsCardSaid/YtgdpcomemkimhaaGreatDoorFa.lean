/- Texts of junctions: the program's. -/
import Derived.Test.YtgdpcomemkimhaaGreatDoorHl
import Derived.Test.YtgdpcomemkimhaaGreatDoorJi
import Derived.Test.YtgdpcomemkimhaaGreatDoorOf

namespace Go.Proofs.YtgdpcomemkimhaaGreatDoor
open Go.RowKit
attribute [local irreducible] AW AOs AO AQ AQW thenA inBlockA postA ACalls Pure
set_option linter.unusedSimpArgs false
set_option linter.unusedVariables false
set_option linter.unusedSectionVars false

theorem wd_snoc1 (W : List (List UInt8)) (x : List UInt8) : (⟨(tab W.length fun q => strV (W.getD q [])) ++ ([strV x] : List Value), some (W.length + 1), true⟩ : Blk) = wdB (W ++ [x]) (some (W ++ [x]).length) := by
  have h1 := tabL_snoc strV [] W x
  have e : (W ++ [x]).length = W.length + 1 := by simp
  unfold wdB
  rw [h1, e]
def jnW (n o : Nat) (h : Nat → Nat) (c : Nat) : List (List UInt8) := nmW (tD (n : Int)) (tD (o : Int)) (jF n o h) c
section
variable {n o : Nat} {h : Nat → Nat} {db dn : List UInt8} {M : Mem}
theorem closed4 (hM : Closed M.length M) {b1 b2 b3 b4 : Blk} (h1 : ∀ x ∈ b1.cells, Flat x) (h2 : ∀ x ∈ b2.cells, Flat x) (h3 : ∀ x ∈ b3.cells, Flat x) (h4 : ∀ x ∈ b4.cells, Flat x) : Closed (M ++ [b1, b2, b3, b4]).length (M ++ [b1, b2, b3, b4]) := by
  refine Closed.append (hM.mono (by simp)) fun x hx y hy => Bel.flat ?_
  simp only [List.mem_cons, List.not_mem_nil, or_false] at hx
  rcases hx with rfl | rfl | rfl | rfl
  all_goals first | exact h1 y hy | exact h2 y hy | exact h3 y hy | exact h4 y hy
theorem jt_closed2 (hM : Closed M.length M) {z1 : Value} (fz : Flat z1) {Wn : List (List UInt8)} {tg : Option Nat} : Closed (M ++ [⟨tab 22 (jnJ (n : Int) (o : Int) h), none, true⟩, ⟨[strV jnK, strV db, strV dn], none, true⟩, ⟨[z1], none, true⟩, wdB Wn tg]).length (M ++ [⟨tab 22 (jnJ (n : Int) (o : Int) h), none, true⟩, ⟨[strV jnK, strV db, strV dn], none, true⟩, ⟨[z1], none, true⟩, wdB Wn tg]) := by
  refine (hM.mono (by simp)).append fun B hB c hc => ?_
  refine Bel.flat ?_
  simp only [List.mem_cons, List.not_mem_nil, or_false] at hB
  rcases hB with rfl | rfl | rfl | rfl
  · exact jn_flat c hc
  · exact (show ∀ c ∈ [strV jnK, strV db, strV dn], Flat c from (by repeat' (first | exact Flat.string _ | exact flat_nil | refine flat_cons ?_ ?_))) c hc
  · simp only [List.mem_cons, List.not_mem_nil, or_false] at hc
    subst hc; exact fz
  · exact wd_flat _ _ c hc
end
section
variable (n o : Nat) (h : Nat → Nat)
set_option maxRecDepth 20000 in
set_option maxHeartbeats 32000000 in
theorem iJunctionText1 (M : Mem) (hp : jnP (n : Int) (o : Int) h) (hn : 1 ≤ n ∧ n ≤ 4) (ho : 1 ≤ o ∧ o ≤ 4) : Pure Tryz.prog 8 [jnV (n : Int) (o : Int) h] M (strV (jnT n o h)) := by
  refine Pure.closed fun hM => ?_
  refine pure_of Tryz.func8 Tryz.ntmps8 rfl rfl (Flat.string _) ?_
  have hK := fun M' => iValidJunction (n : Int) (o : Int) h M'
  rw [decide_eq_true hp] at hK
  have hB := fun M' => iDec (n : Int) (by omega) M'
  have hO := fun M' => iDec (o : Int) (by omega) M'
  have hno := mul_le16 hn.2 ho.2
  have hlen : (jnS n o h (n * o + n)).length ≤ 1000 := jnS_len hn.2 ho.2 (by omega)
  have hJ := fun M' j (h' : M'[j]? = some (wdB (jnW n o h (n * o + n)) (some (jnW n o h (n * o + n)).length))) => iJoinW (jnW n o h (n * o + n)) [32] j (jnW n o h (n * o + n)).length _ M' h' (Nat.le_refl _) (by unfold jnW; rw [nmW_len]; omega) (by unfold jnW; rw [nm_eq]; exact Nat.le_trans hlen (by omega))
  rw [show Lib.join (jnW n o h (n * o + n)) [32] = jnT n o h from nm_eq _ _ _ _] at hJ
  have hW0 : jnW n o h 0 = [jnK, tD (n : Int), tD (o : Int)] := rfl
  have hWs1 : ∀ i q, i < n → q < o → jnW n o h (i * o + (q + 1)) = jnW n o h (i * o + q) ++ [hexN (jA h i q) 8] := fun i q hi hq => by
    rw [← jF_1 hi hq]; rfl
  have hWs2 : ∀ i, jnW n o h (n * o + (i + 1)) = jnW n o h (n * o + i) ++ [hexN (h (18 + i)) 8] := fun i => by
    rw [← jF_2 (n := n) (o := o) (h := h) (i := i)]; rfl
  have hWe : ∀ i, jnW n o h (i * o + o) = jnW n o h ((i + 1) * o + 0) := fun i => by rw [Nat.add_mul, Nat.one_mul]; rfl
  have hWl : ∀ c, (jnW n o h c).length = 3 + c := nmW_len _ _ _
  generalize jnT n o h = tx at *
  generalize jnW n o h = W at *
  generalize tD (n : Int) = db at *
  generalize tD (o : Int) = dn at *
  have e00 : W (0 * o + 0) = W 0 := by rw [Nat.zero_mul]
  obtain ⟨z1, hz1⟩ : ∃ z1, z1 = strV (hexN (jA h 0 0) 8) := ⟨_, rfl⟩
  have fz1 : Flat z1 := by rw [hz1]; exact Flat.string _
  simp only [envOf, Nat.zero_add, Nat.reduceAdd]
  repeat' (first | (refine d_AOs (h := ?_) ; first | refine o_move (h := ?_) | refine o_assign (h := ?_) | refine AOs.nil (h := ?_) | refine o_load (hv := jn_ld0) (h := ?_) | refine o_call (hc := (hK _)) (h := ?_) | refine o_load (h := ?_) | refine o_field (h := ?_) | refine o_not (h := ?_) | refine o_box (h := ?_)) | (refine d_AW (h := ?_) ; first | refine AW.seq (h := ?_) | refine AW.region (h := ?_) | refine AW.openW1M (M ++ [⟨tab 22 (jnJ (n : Int) (o : Int) h), none, true⟩]) 6 (M ++ [⟨tab 22 (jnJ (n : Int) (o : Int) h), none, true⟩, ⟨[strV jnK, strV db, strV dn], none, true⟩]) (h := ?_) | (refine AW.cond (ht := (fun hc => ?_)) (hf := (fun hc => ?_)) <;> (try (with_reducible first | exact absurd hc Bool.false_ne_true | exact absurd hc.symm Bool.false_ne_true)) <;> (try simp only [decide_eq_true_eq, decide_eq_false_iff_not, Int.ofNat_inj, Bool.not_eq_true', Bool.not_eq_false', Int.not_lt, Int.not_le] at hc) <;> (try (exfalso; omega)) <;> (try (exact absurd hc (by decide)))) | refine AW.block (h := ?_) | refine AW.skip (h := ?_)) | (first | refine t_normal ?_) | (refine d_W (h := ?_) ; first | refine w1_nil (h := ?_) | refine w1_step (h2 := ?_) | refine w1_step (h1 := by (simp only [ObK, aft, cond_true, cond_false]; repeat' (first | refine And.intro ?_ ?_ | ((refine d_AOs ?_; first | refine o_load (hv := jn_ld0) (h := ?_) | refine o_load (hv := jn_ld1) (h := ?_) | refine o_buildS (cs := [strV jnK, strV db, strV dn]) (hf := by rfl) (h := ?_) | refine o_call (hc := (hK _)) (h := ?_) | refine o_call (hc := (hB _)) (h := ?_) | refine o_call (hc := (hO _)) (h := ?_)) <;> exact AOs.nil rfl)))) (h2 := ?_)))
  all_goals try (exfalso; simp at hc; done)
  clear hB hO hK
  refine AW.loopG [1, 3, 18, 19] (fun k st => ∃ i : Nat, i + k = n ∧ ((i = 0 ∧ st = ⟨55, [(1, .pointer (some ⟨M.length, 0, none⟩)), (3, .slice (some ⟨M.length + 1, 0, none⟩) 3 3), (18, .int .i64 (n : Int)), (19, .int .i64 0)], M ++ [⟨tab 22 (jnJ (n : Int) (o : Int) h), none, true⟩, ⟨[strV jnK, strV db, strV dn], none, true⟩]⟩) ∨ (1 ≤ i ∧ st = ⟨55, [(1, .pointer (some ⟨M.length, 0, none⟩)), (3, .slice (some ⟨M.length + 3, 0, some (W (i * o + 0)).length⟩) (W (i * o + 0)).length (W (i * o + 0)).length), (18, .int .i64 (n : Int)), (19, .int .i64 (i : Int))], M ++ [⟨tab 22 (jnJ (n : Int) (o : Int) h), none, true⟩, ⟨[strV jnK, strV db, strV dn], none, true⟩, ⟨[z1], none, true⟩, wdB (W (i * o + 0)) (some (W (i * o + 0)).length)]⟩))) n ⟨0, by omega, .inl ⟨rfl, rfl⟩⟩ ?_
  rintro k st ⟨i, hi, ⟨rfl, rfl⟩ | ⟨hi1, rfl⟩⟩
  · repeat' (first | (refine d_AOs (h := ?_) ; first | refine o_move (h := ?_) | refine o_assign (h := ?_) | refine AOs.nil (h := ?_) | (refine d_bin (h := ?_) ; first | refine o_lss (h := ?_)) | refine o_load (hv := jn_ld1) (h := ?_) | refine o_field (h := ?_)) | (refine d_AW (h := ?_) ; first | refine AW.seq (h := ?_) | refine AW.region (h := ?_) | (refine AW.cond (ht := (fun hc => ?_)) (hf := (fun hc => ?_)) <;> (try (with_reducible first | exact absurd hc Bool.false_ne_true | exact absurd hc.symm Bool.false_ne_true)) <;> (try simp only [decide_eq_true_eq, decide_eq_false_iff_not, Int.ofNat_inj, Bool.not_eq_true', Bool.not_eq_false', Int.not_lt, Int.not_le] at hc) <;> (try (exfalso; omega)) <;> (try (exact absurd hc (by decide)))) | refine AW.block (h := ?_) | refine AW.skip (h := ?_)) | (first | refine t_normal ?_))
    refine AW.loopG [1, 3, 4, 18, 19, 23, 24] (fun k st => ∃ q : Nat, q + k = o ∧ ((q = 0 ∧ st = ⟨55, [(1, .pointer (some ⟨M.length, 0, none⟩)), (3, .slice (some ⟨M.length + 1, 0, none⟩) 3 3), (4, .int .i64 0), (18, .int .i64 (n : Int)), (19, .int .i64 0), (23, .int .i64 (o : Int)), (24, .int .i64 0)], M ++ [⟨tab 22 (jnJ (n : Int) (o : Int) h), none, true⟩, ⟨[strV jnK, strV db, strV dn], none, true⟩]⟩) ∨ (1 ≤ q ∧ st = ⟨55, [(1, .pointer (some ⟨M.length, 0, none⟩)), (3, .slice (some ⟨M.length + 3, 0, some (W (0 * o + q)).length⟩) (W (0 * o + q)).length (W (0 * o + q)).length), (4, .int .i64 0), (18, .int .i64 (n : Int)), (19, .int .i64 0), (23, .int .i64 (o : Int)), (24, .int .i64 (q : Int))], M ++ [⟨tab 22 (jnJ (n : Int) (o : Int) h), none, true⟩, ⟨[strV jnK, strV db, strV dn], none, true⟩, ⟨[z1], none, true⟩, wdB (W (0 * o + q)) (some (W (0 * o + q)).length)]⟩))) o ⟨0, by omega, .inl ⟨rfl, rfl⟩⟩ ?_
    rintro k2 st ⟨q, hqk, ⟨rfl, rfl⟩ | ⟨hq1, rfl⟩⟩
    · have hX := fun M' => iNumberText (jA h 0 0) M'
      have hld : ldA .one (2 + 0 * 4 + 0) (tab 22 (jnJ (n : Int) (o : Int) h)) = some (.float .f32 (jA h 0 0)) := jn_ldA (by omega) (by omega)
      have hw := hWs1 0 0 (by omega) (by omega)
      rw [e00, hW0] at hw
      clear hWs1 hWs2 hWe hWl hJ hW0 e00
      obtain ⟨x, hx⟩ : ∃ x, x = hexN (jA h 0 0) 8 := ⟨_, rfl⟩
      rw [← hx] at hw hX hz1
      clear hx
      subst hz1
      repeat' (first | (refine d_AOs (h := ?_) ; first | refine o_move (h := ?_) | refine o_assign (h := ?_) | refine AOs.nil (h := ?_) | (refine d_bin (h := ?_) ; first | refine o_addS (h := ?_) | refine o_lss (h := ?_)) | refine o_load (hv := hld) (h := ?_) | refine o_call (hc := (hX _)) (h := ?_) | refine o_buildS (cs := [strV x]) (hf := by rfl) (h := ?_) | refine o_appF (ys := [strV x]) (h := ?_) | refine o_at (h := ?_) | refine o_field (h := ?_)) | (refine d_AW (h := ?_) ; first | refine AW.seq (h := ?_) | refine AW.region (h := ?_) | (refine AW.cond (ht := (fun hc => ?_)) (hf := (fun hc => ?_)) <;> (try (with_reducible first | exact absurd hc Bool.false_ne_true | exact absurd hc.symm Bool.false_ne_true)) <;> (try simp only [decide_eq_true_eq, decide_eq_false_iff_not, Int.ofNat_inj, Bool.not_eq_true', Bool.not_eq_false', Int.not_lt, Int.not_le] at hc) <;> (try (exfalso; omega)) <;> (try (exact absurd hc (by decide)))) | refine AW.block (h := ?_) | refine AW.skip (h := ?_)) | (first | refine t_normal ?_ | refine b_normal ?_))
      all_goals exact ⟨k2 - 1, _, [], by omega, (List.append_nil _).symm, by simp, closed4 hM jn_flat (by repeat' (first | exact Flat.string _ | exact flat_nil | refine flat_cons ?_ ?_)) (by repeat' (first | exact Flat.string _ | exact flat_nil | refine flat_cons ?_ ?_)) (by repeat' (first | exact Flat.string _ | exact flat_nil | refine flat_cons ?_ ?_)), ⟨Bel.ptr (by simp), Bel.sl (by simp), Bel.flat (Flat.int _ _), Bel.flat (Flat.int _ _), Bel.flat (Flat.int _ _), Bel.flat (Flat.int _ _), Bel.flat (Flat.int _ _), trivial⟩, 0 + 1, by omega, .inr ⟨by omega, by rw [hw]; rfl⟩⟩
    · by_cases hqn : q < o
      · have hX := fun M' => iNumberText (jA h 0 q) M'
        have hld : ldA .one (2 + 0 * 4 + q) (tab 22 (jnJ (n : Int) (o : Int) h)) = some (.float .f32 (jA h 0 q)) := jn_ldA (by omega) (by omega)
        have hw := hWs1 0 q (by omega) hqn
        have hwl := hWl (0 * o + q)
        clear hWs1 hWs2 hWe hWl hJ hW0 e00
        obtain ⟨x, hx⟩ : ∃ x, x = hexN (jA h 0 q) 8 := ⟨_, rfl⟩
        rw [← hx] at hw hX
        clear hx
        obtain ⟨Wn, hWn⟩ : ∃ Wn, Wn = W (0 * o + (q + 1)) := ⟨_, rfl⟩
        obtain ⟨Wi, hWi⟩ : ∃ Wi, Wi = W (0 * o + q) := ⟨_, rfl⟩
        rw [← hWn, ← hWi] at hw
        rw [← hWi] at hwl ⊢
        clear hWi
        have hl : Wn.length = Wi.length + 1 := by rw [hw]; simp
        have hsn := wd_snoc1 Wi x
        rw [← hw] at hsn
        clear hw
        rw [show wdB Wi (some Wi.length) = (⟨tab Wi.length (fun q => strV (Wi.getD q [])), some Wi.length, true⟩ : Blk) from rfl]
        repeat' (first | (refine d_AOs (h := ?_) ; first | refine o_move (h := ?_) | refine o_assign (h := ?_) | refine AOs.nil (h := ?_) | (refine d_bin (h := ?_) ; first | refine o_addS (h := ?_) | refine o_lss (h := ?_)) | refine o_load (hv := hld) (h := ?_) | refine o_call (hc := (hX _)) (h := ?_) | refine o_buildS (cs := [strV x]) (hf := by rfl) (h := ?_) | refine o_app (hlc := by rw [tab_len]; omega) (h := ?_) | refine o_at (h := ?_) | refine o_field (h := ?_)) | (refine d_AW (h := ?_) ; first | refine AW.seq (h := ?_) | refine AW.region (h := ?_) | (refine AW.cond (ht := (fun hc => ?_)) (hf := (fun hc => ?_)) <;> (try (with_reducible first | exact absurd hc Bool.false_ne_true | exact absurd hc.symm Bool.false_ne_true)) <;> (try simp only [decide_eq_true_eq, decide_eq_false_iff_not, Int.ofNat_inj, Bool.not_eq_true', Bool.not_eq_false', Int.not_lt, Int.not_le] at hc) <;> (try (exfalso; omega)) <;> (try (exact absurd hc (by decide)))) | refine AW.block (h := ?_) | refine AW.skip (h := ?_)) | (first | refine t_normal ?_ | refine b_normal ?_))
        all_goals exact ⟨k2 - 1, M ++ [⟨tab 22 (jnJ (n : Int) (o : Int) h), none, true⟩, ⟨[strV jnK, strV db, strV dn], none, true⟩, ⟨[z1], none, true⟩, wdB Wn (some Wn.length)], [⟨[strV x], none, true⟩], by omega, next_TT (T := [⟨tab 22 (jnJ (n : Int) (o : Int) h), none, true⟩, ⟨[strV jnK, strV db, strV dn], none, true⟩, ⟨[z1], none, true⟩, wdB Wn (some Wn.length)]) (G := [⟨[strV x], none, true⟩]) (by rw [← hsn]; rfl), by simp, jt_closed2 hM fz1, ⟨Bel.ptr (by simp), Bel.sl (by simp), Bel.flat (Flat.int _ _), Bel.flat (Flat.int _ _), Bel.flat (Flat.int _ _), Bel.flat (Flat.int _ _), Bel.flat (Flat.int _ _), trivial⟩, q + 1, by omega, .inr ⟨by omega, by rw [← hWn, hl]; rfl⟩⟩
      · obtain rfl : q = o := by omega
        repeat' (first | (refine d_AOs (h := ?_) ; first | refine o_move (h := ?_) | refine AOs.nil (h := ?_) | (refine d_bin (h := ?_) ; first | refine o_addS (h := ?_) | refine o_lss (h := ?_))) | (refine d_AW (h := ?_) ; first | refine AW.seq (h := ?_) | refine AW.region (h := ?_) | (refine AW.cond (ht := (fun hc => ?_)) (hf := (fun hc => ?_)) <;> (try (with_reducible first | exact absurd hc Bool.false_ne_true | exact absurd hc.symm Bool.false_ne_true)) <;> (try simp only [decide_eq_true_eq, decide_eq_false_iff_not, Int.ofNat_inj, Bool.not_eq_true', Bool.not_eq_false', Int.not_lt, Int.not_le] at hc) <;> (try (exfalso; omega)) <;> (try (exact absurd hc (by decide)))) | refine AW.exit (h := ?_)) | (first | refine t_normal ?_ | refine t_exit ?_ | refine b_normal ?_ | refine b_exit ?_))
        all_goals exact ⟨k - 1, _, [], by omega, (List.append_nil _).symm, by simp, jt_closed2 hM fz1, ⟨Bel.ptr (by simp), Bel.sl (by simp), Bel.flat (Flat.int _ _), Bel.flat (Flat.int _ _), trivial⟩, 0 + 1, by omega, .inr ⟨by omega, by rw [← hWe]; rfl⟩⟩
  · by_cases hin : i < n
    · repeat' (first | (refine d_AOs (h := ?_) ; first | refine o_move (h := ?_) | refine o_assign (h := ?_) | refine AOs.nil (h := ?_) | (refine d_bin (h := ?_) ; first | refine o_lss (h := ?_)) | refine o_load (hv := jn_ld1) (h := ?_) | refine o_field (h := ?_)) | (refine d_AW (h := ?_) ; first | refine AW.seq (h := ?_) | refine AW.region (h := ?_) | (refine AW.cond (ht := (fun hc => ?_)) (hf := (fun hc => ?_)) <;> (try (with_reducible first | exact absurd hc Bool.false_ne_true | exact absurd hc.symm Bool.false_ne_true)) <;> (try simp only [decide_eq_true_eq, decide_eq_false_iff_not, Int.ofNat_inj, Bool.not_eq_true', Bool.not_eq_false', Int.not_lt, Int.not_le] at hc) <;> (try (exfalso; omega)) <;> (try (exact absurd hc (by decide)))) | refine AW.block (h := ?_) | refine AW.skip (h := ?_)) | (first | refine t_normal ?_))
      refine AW.loopG [1, 3, 4, 18, 19, 23, 24] (fun k st => ∃ q : Nat, q + k = o ∧ st = ⟨55, [(1, .pointer (some ⟨M.length, 0, none⟩)), (3, .slice (some ⟨M.length + 3, 0, some (W (i * o + q)).length⟩) (W (i * o + q)).length (W (i * o + q)).length), (4, .int .i64 (i : Int)), (18, .int .i64 (n : Int)), (19, .int .i64 (i : Int)), (23, .int .i64 (o : Int)), (24, .int .i64 (q : Int))], M ++ [⟨tab 22 (jnJ (n : Int) (o : Int) h), none, true⟩, ⟨[strV jnK, strV db, strV dn], none, true⟩, ⟨[z1], none, true⟩, wdB (W (i * o + q)) (some (W (i * o + q)).length)]⟩) o ⟨0, by omega, rfl⟩ ?_
      rintro k2 st ⟨q, hqk, rfl⟩
      by_cases hqn : q < o
      · have hX := fun M' => iNumberText (jA h i q) M'
        have hld : ldA .one (2 + i * 4 + q) (tab 22 (jnJ (n : Int) (o : Int) h)) = some (.float .f32 (jA h i q)) := jn_ldA (by omega) (by omega)
        have hcb := ix_le (o := o) hin
        have hw := hWs1 i q hin hqn
        have hwl := hWl (i * o + q)
        clear hWs1 hWs2 hWe hWl hJ hW0 e00
        obtain ⟨x, hx⟩ : ∃ x, x = hexN (jA h i q) 8 := ⟨_, rfl⟩
        rw [← hx] at hw hX
        clear hx
        obtain ⟨Wn, hWn⟩ : ∃ Wn, Wn = W (i * o + (q + 1)) := ⟨_, rfl⟩
        obtain ⟨Wi, hWi⟩ : ∃ Wi, Wi = W (i * o + q) := ⟨_, rfl⟩
        rw [← hWn, ← hWi] at hw
        rw [← hWi] at hwl ⊢
        clear hWi
        have hl : Wn.length = Wi.length + 1 := by rw [hw]; simp
        have hsn := wd_snoc1 Wi x
        rw [← hw] at hsn
        clear hw
        rw [show wdB Wi (some Wi.length) = (⟨tab Wi.length (fun q => strV (Wi.getD q [])), some Wi.length, true⟩ : Blk) from rfl]
        repeat' (first | (refine d_AOs (h := ?_) ; first | refine o_move (h := ?_) | refine o_assign (h := ?_) | refine AOs.nil (h := ?_) | (refine d_bin (h := ?_) ; first | refine o_addS (h := ?_) | refine o_lss (h := ?_)) | refine o_load (hv := hld) (h := ?_) | refine o_call (hc := (hX _)) (h := ?_) | refine o_buildS (cs := [strV x]) (hf := by rfl) (h := ?_) | refine o_app (hlc := by rw [tab_len]; omega) (h := ?_) | refine o_at (h := ?_) | refine o_field (h := ?_)) | (refine d_AW (h := ?_) ; first | refine AW.seq (h := ?_) | refine AW.region (h := ?_) | (refine AW.cond (ht := (fun hc => ?_)) (hf := (fun hc => ?_)) <;> (try (with_reducible first | exact absurd hc Bool.false_ne_true | exact absurd hc.symm Bool.false_ne_true)) <;> (try simp only [decide_eq_true_eq, decide_eq_false_iff_not, Int.ofNat_inj, Bool.not_eq_true', Bool.not_eq_false', Int.not_lt, Int.not_le] at hc) <;> (try (exfalso; omega)) <;> (try (exact absurd hc (by decide)))) | refine AW.block (h := ?_) | refine AW.skip (h := ?_)) | (first | refine t_normal ?_ | refine b_normal ?_))
        all_goals exact ⟨k2 - 1, M ++ [⟨tab 22 (jnJ (n : Int) (o : Int) h), none, true⟩, ⟨[strV jnK, strV db, strV dn], none, true⟩, ⟨[z1], none, true⟩, wdB Wn (some Wn.length)], [⟨[strV x], none, true⟩], by omega, next_TT (T := [⟨tab 22 (jnJ (n : Int) (o : Int) h), none, true⟩, ⟨[strV jnK, strV db, strV dn], none, true⟩, ⟨[z1], none, true⟩, wdB Wn (some Wn.length)]) (G := [⟨[strV x], none, true⟩]) (by rw [← hsn]; rfl), by simp, jt_closed2 hM fz1, ⟨Bel.ptr (by simp), Bel.sl (by simp), Bel.flat (Flat.int _ _), Bel.flat (Flat.int _ _), Bel.flat (Flat.int _ _), Bel.flat (Flat.int _ _), Bel.flat (Flat.int _ _), trivial⟩, q + 1, by omega, by rw [← hWn, hl]; rfl⟩
      · obtain rfl : q = o := by omega
        repeat' (first | (refine d_AOs (h := ?_) ; first | refine o_move (h := ?_) | refine AOs.nil (h := ?_) | (refine d_bin (h := ?_) ; first | refine o_addS (h := ?_) | refine o_lss (h := ?_))) | (refine d_AW (h := ?_) ; first | refine AW.seq (h := ?_) | refine AW.region (h := ?_) | (refine AW.cond (ht := (fun hc => ?_)) (hf := (fun hc => ?_)) <;> (try (with_reducible first | exact absurd hc Bool.false_ne_true | exact absurd hc.symm Bool.false_ne_true)) <;> (try simp only [decide_eq_true_eq, decide_eq_false_iff_not, Int.ofNat_inj, Bool.not_eq_true', Bool.not_eq_false', Int.not_lt, Int.not_le] at hc) <;> (try (exfalso; omega)) <;> (try (exact absurd hc (by decide)))) | refine AW.exit (h := ?_)) | (first | refine t_normal ?_ | refine t_exit ?_ | refine b_normal ?_ | refine b_exit ?_))
        all_goals exact ⟨k - 1, _, [], by omega, (List.append_nil _).symm, by simp, jt_closed2 hM fz1, ⟨Bel.ptr (by simp), Bel.sl (by simp), Bel.flat (Flat.int _ _), Bel.flat (Flat.int _ _), trivial⟩, i + 1, by omega, .inr ⟨by omega, by rw [← hWe]; rfl⟩⟩
    · obtain rfl : i = n := by omega
      repeat' (first | (refine d_AOs (h := ?_) ; first | refine o_move (h := ?_) | refine AOs.nil (h := ?_) | (refine d_bin (h := ?_) ; first | refine o_lss (h := ?_)) | refine o_load (hv := jn_ld0) (h := ?_) | refine o_field (h := ?_)) | (refine d_AW (h := ?_) ; first | refine AW.seq (h := ?_) | refine AW.region (h := ?_) | (refine AW.cond (ht := (fun hc => ?_)) (hf := (fun hc => ?_)) <;> (try (with_reducible first | exact absurd hc Bool.false_ne_true | exact absurd hc.symm Bool.false_ne_true)) <;> (try simp only [decide_eq_true_eq, decide_eq_false_iff_not, Int.ofNat_inj, Bool.not_eq_true', Bool.not_eq_false', Int.not_lt, Int.not_le] at hc) <;> (try (exfalso; omega)) <;> (try (exact absurd hc (by decide)))) | refine AW.block (h := ?_) | refine AW.exit (h := ?_)) | (first | refine t_normal ?_ | refine t_exit ?_ | refine b_exit ?_))
      refine AW.loopG [1, 3, 40, 41] (fun k st => ∃ q : Nat, q + k = i ∧ st = ⟨55, [(1, .pointer (some ⟨M.length, 0, none⟩)), (3, .slice (some ⟨M.length + 3, 0, some (W (i * o + q)).length⟩) (W (i * o + q)).length (W (i * o + q)).length), (40, .int .i64 (i : Int)), (41, .int .i64 (q : Int))], M ++ [⟨tab 22 (jnJ (i : Int) (o : Int) h), none, true⟩, ⟨[strV jnK, strV db, strV dn], none, true⟩, ⟨[z1], none, true⟩, wdB (W (i * o + q)) (some (W (i * o + q)).length)]⟩) i ⟨0, by omega, rfl⟩ ?_
      rintro k2 st ⟨q, hqk, rfl⟩
      by_cases hqn : q < i
      · have hX := fun M' => iNumberText (h (18 + q)) M'
        have hld : ldA .one (18 + q) (tab 22 (jnJ (i : Int) (o : Int) h)) = some (.float .f32 (h (18 + q))) := jn_ldP (by omega)
        have hw := hWs2 q
        have hwl := hWl (i * o + q)
        clear hWs1 hWs2 hWe hWl hJ hW0 e00
        obtain ⟨x, hx⟩ : ∃ x, x = hexN (h (18 + q)) 8 := ⟨_, rfl⟩
        rw [← hx] at hw hX
        clear hx
        obtain ⟨Wn, hWn⟩ : ∃ Wn, Wn = W (i * o + (q + 1)) := ⟨_, rfl⟩
        obtain ⟨Wi, hWi⟩ : ∃ Wi, Wi = W (i * o + q) := ⟨_, rfl⟩
        rw [← hWn, ← hWi] at hw
        rw [← hWi] at hwl ⊢
        clear hWi
        have hl : Wn.length = Wi.length + 1 := by rw [hw]; simp
        have hsn := wd_snoc1 Wi x
        rw [← hw] at hsn
        clear hw
        rw [show wdB Wi (some Wi.length) = (⟨tab Wi.length (fun q => strV (Wi.getD q [])), some Wi.length, true⟩ : Blk) from rfl]
        repeat' (first | (refine d_AOs (h := ?_) ; first | refine o_move (h := ?_) | refine o_assign (h := ?_) | refine AOs.nil (h := ?_) | (refine d_bin (h := ?_) ; first | refine o_addS (h := ?_) | refine o_lss (h := ?_)) | refine o_load (hv := hld) (h := ?_) | refine o_call (hc := (hX _)) (h := ?_) | refine o_buildS (cs := [strV x]) (hf := by rfl) (h := ?_) | refine o_app (hlc := by rw [tab_len]; omega) (h := ?_) | refine o_at (h := ?_) | refine o_field (h := ?_)) | (refine d_AW (h := ?_) ; first | refine AW.seq (h := ?_) | refine AW.region (h := ?_) | (refine AW.cond (ht := (fun hc => ?_)) (hf := (fun hc => ?_)) <;> (try (with_reducible first | exact absurd hc Bool.false_ne_true | exact absurd hc.symm Bool.false_ne_true)) <;> (try simp only [decide_eq_true_eq, decide_eq_false_iff_not, Int.ofNat_inj, Bool.not_eq_true', Bool.not_eq_false', Int.not_lt, Int.not_le] at hc) <;> (try (exfalso; omega)) <;> (try (exact absurd hc (by decide)))) | refine AW.block (h := ?_) | refine AW.skip (h := ?_)) | (first | refine t_normal ?_ | refine b_normal ?_))
        all_goals exact ⟨k2 - 1, M ++ [⟨tab 22 (jnJ (i : Int) (o : Int) h), none, true⟩, ⟨[strV jnK, strV db, strV dn], none, true⟩, ⟨[z1], none, true⟩, wdB Wn (some Wn.length)], [⟨[strV x], none, true⟩], by omega, next_TT (T := [⟨tab 22 (jnJ (i : Int) (o : Int) h), none, true⟩, ⟨[strV jnK, strV db, strV dn], none, true⟩, ⟨[z1], none, true⟩, wdB Wn (some Wn.length)]) (G := [⟨[strV x], none, true⟩]) (by rw [← hsn]; rfl), by simp, jt_closed2 hM fz1, ⟨Bel.ptr (by simp), Bel.sl (by simp), Bel.flat (Flat.int _ _), Bel.flat (Flat.int _ _), trivial⟩, q + 1, by omega, by rw [← hWn, hl]; rfl⟩
      · obtain rfl : q = i := by omega
        repeat' (first | (refine d_AOs (h := ?_) ; first | refine o_move (h := ?_) | refine o_assign (h := ?_) | refine AOs.nil (h := ?_) | (refine d_bin (h := ?_) ; first | refine o_lss (h := ?_)) | refine o_call (hc := (hJ _ _ (by first | (simp only [mem_tail, mem_tail0, List.getElem?_cons_zero, List.getElem?_cons_succ]; first | done | rfl) | exact mem_head (by assumption) | assumption | (simp only [mem_tailS, mem_tailS0, List.getElem?_cons_zero, List.getElem?_cons_succ]; first | done | rfl) | exact mem_set1 (by assumption) | exact mem_set0 (by assumption) | exact mem_setN1 (by assumption) (by assumption) | exact mem_setN (by assumption) (by assumption)))) (h := ?_)) | (refine d_AW (h := ?_) ; first | refine AW.seq (h := ?_) | refine AW.region (h := ?_) | (refine AW.cond (ht := (fun hc => ?_)) (hf := (fun hc => ?_)) <;> (try (with_reducible first | exact absurd hc Bool.false_ne_true | exact absurd hc.symm Bool.false_ne_true)) <;> (try simp only [decide_eq_true_eq, decide_eq_false_iff_not, Int.ofNat_inj, Bool.not_eq_true', Bool.not_eq_false', Int.not_lt, Int.not_le] at hc) <;> (try (exfalso; omega)) <;> (try (exact absurd hc (by decide)))) | refine AW.ret (h := ?_) | refine AW.exit (h := ?_)) | (first | refine t_normal ?_ | refine t_exit ?_ | refine b_exit ?_) | (refine d_post (h := ?_) ; first | refine p_ret1 rfl (h := ?_)))
        all_goals rfl
end
set_option maxHeartbeats 4000000 in
theorem iJunctionText (ins outs : Int) (h : Nat → Nat) (M : Mem) : Pure Tryz.prog 8 [jnV ins outs h] M (strV (jnX ins outs h)) := by
  unfold jnX
  by_cases hp : jnP ins outs h
  · rw [if_pos hp]
    obtain ⟨n, o, rfl, rfl, hn, ho⟩ := jnP_nat hp
    rw [Int.toNat_natCast, Int.toNat_natCast]
    exact iJunctionText1 n o h M hp hn ho
  · rw [if_neg hp]
    refine pure_of Tryz.func8 Tryz.ntmps8 rfl rfl (Flat.string _) ?_
    have hK := fun M' => iValidJunction ins outs h M'
    rw [decide_eq_false hp] at hK
    simp only [envOf, Nat.zero_add, Nat.reduceAdd]
    repeat' (first | (refine d_AOs (h := ?_) ; first | refine o_assign (h := ?_) | refine AOs.nil (h := ?_) | refine o_call (hc := (hK _)) (h := ?_) | refine o_load (h := ?_) | refine o_not (h := ?_) | refine o_box (h := ?_)) | (refine d_AW (h := ?_) ; first | refine AW.seq (h := ?_) | refine AW.region (h := ?_) | (refine AW.cond (ht := (fun hc => ?_)) (hf := (fun hc => ?_)) <;> (try (with_reducible first | exact absurd hc Bool.false_ne_true | exact absurd hc.symm Bool.false_ne_true)) <;> (try simp only [decide_eq_true_eq, decide_eq_false_iff_not, Int.ofNat_inj, Bool.not_eq_true', Bool.not_eq_false', Int.not_lt, Int.not_le] at hc) <;> (try (exfalso; omega)) <;> (try (exact absurd hc (by decide)))) | refine AW.ret (h := ?_)) | (first | refine t_normal ?_ | refine t_ret ?_) | (refine d_post (h := ?_) ; first | refine p_ret1 rfl (h := ?_)))
    all_goals first | rfl | (exfalso; simp at hc; done)
end Go.Proofs.YtgdpcomemkimhaaGreatDoor

/- Texts of roads. -/
namespace Go.Proofs.YtgdpcomemkimhaaGreatDoor
open Go.RowKit
attribute [local irreducible] AW AOs AO AQ AQW thenA inBlockA postA ACalls Pure
set_option linter.unusedSimpArgs false
set_option linter.unusedVariables false
set_option linter.unusedSectionVars false

section
variable {c : Nat → Nat} {p b l : Nat}
variable (hr : RdOk c p b l)
include hr
end
end Go.Proofs.YtgdpcomemkimhaaGreatDoor
