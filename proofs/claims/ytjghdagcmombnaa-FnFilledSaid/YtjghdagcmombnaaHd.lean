/- A filling: begin, the program's. -/
import Derived.Test.YtjghdagcmombnaaHc

namespace Go.Proofs.Ytjghdagcmombnaa
open Go.RowKit
attribute [local irreducible] AW AOs AO AQ AQW thenA inBlockA postA ACalls Pure
set_option linter.unusedSimpArgs false
set_option linter.unusedVariables false
set_option linter.unusedSectionVars false

section
variable {d N : Nat} {X : Nat → Value} {s t : Nat → Nat} (hN : d + 24 = N)
include hN
/-- Two cells of a way are set, in any order. -/
theorem two_gb {S : FSt} {i : Nat} (hi : i < 4) (v : Bool) (k : Int) {J J3 : List Value} (hJ : J = tab N (fgV d X s t S)) (hJ3 : J3 = tab N (fgV d X s t { S with g := upd S.g i v, b := upd S.b i k })) {x1 x2 x3 : Nat} (h1 : x1 = d + 16 + i) (h2 : x2 = d + 20 + i) (h3 : x3 = d + i) :
    ∃ J1 J2, (x1 + 1 ≤ J.length ∧ x2 + 1 ≤ J.length ∧ x2 + 1 ≤ J1.length ∧ x1 + 1 ≤ J2.length) ∧
      (J.take x1 ++ cellsA (.bool v) ++ J.drop (x1 + (cellsA (.bool v)).length) = J1 ∧ J.take x2 ++ cellsA (.int .i64 k) ++ J.drop (x2 + (cellsA (.int .i64 k)).length) = J2 ∧ J1.take x2 ++ cellsA (.int .i64 k) ++ J1.drop (x2 + (cellsA (.int .i64 k)).length) = J3 ∧ J2.take x1 ++ cellsA (.bool v) ++ J2.drop (x1 + (cellsA (.bool v)).length) = J3) ∧
      ldA .one x3 J = some (.float .f32 (s i)) ∧ ldA .one x3 J1 = some (.float .f32 (s i)) ∧ ldA .one x3 J2 = some (.float .f32 (s i)) ∧ ldA .one x3 J3 = some (.float .f32 (s i)) := by
  subst hJ hJ3
  refine ⟨tab N (fgV d X s t { S with g := upd S.g i v }), tab N (fgV d X s t { S with b := upd S.b i k }), ⟨?_, ?_, ?_, ?_⟩, ⟨fst_g hN hi h1, fst_b hN hi h2, fst_b hN hi h2, fst_g hN hi h1⟩, fld_s hN hi h3, fld_s hN hi h3, fld_s hN hi h3, fld_s hN hi h3⟩
  all_goals rw [tab_len]; omega
/-- A way's flow is set, and that it goes. -/
theorem two_gf {S : FSt} {i : Nat} (hi : i < 4) (v : Bool) (k : Nat) {J J3 : List Value} (hJ : J = tab N (fgV d X s t S)) (hJ3 : J3 = tab N (fgV d X s t { S with g := upd S.g i v, f := upd S.f i k })) {x1 x2 x3 : Nat} (h1 : x1 = d + 16 + i) (h2 : x2 = d + 8 + i) (h3 : x3 = d + i) :
    ∃ J1 J2, (x1 + 1 ≤ J.length ∧ x2 + 1 ≤ J.length ∧ x2 + 1 ≤ J1.length ∧ x1 + 1 ≤ J2.length) ∧
      (J.take x1 ++ cellsA (.bool v) ++ J.drop (x1 + (cellsA (.bool v)).length) = J1 ∧ J.take x2 ++ cellsA (.float .f32 k) ++ J.drop (x2 + (cellsA (.float .f32 k)).length) = J2 ∧ J1.take x2 ++ cellsA (.float .f32 k) ++ J1.drop (x2 + (cellsA (.float .f32 k)).length) = J3 ∧ J2.take x1 ++ cellsA (.bool v) ++ J2.drop (x1 + (cellsA (.bool v)).length) = J3) ∧
      ldA .one x3 J = some (.float .f32 (s i)) ∧ ldA .one x3 J1 = some (.float .f32 (s i)) ∧ ldA .one x3 J2 = some (.float .f32 (s i)) ∧ ldA .one x3 J3 = some (.float .f32 (s i)) := by
  subst hJ hJ3
  refine ⟨tab N (fgV d X s t { S with g := upd S.g i v }), tab N (fgV d X s t { S with f := upd S.f i k }), ⟨?_, ?_, ?_, ?_⟩, ⟨fst_g hN hi h1, fst_f hN hi h2, fst_f hN hi h2, fst_g hN hi h1⟩, fld_s hN hi h3, fld_s hN hi h3, fld_s hN hi h3, fld_s hN hi h3⟩
  all_goals rw [tab_len]; omega
end
theorem feqS.symm {S S' : FSt} (h : feqS S S') : feqS S' S := fun q hq => ⟨(h q hq).1.symm, (h q hq).2.1.symm, (h q hq).2.2.1.symm, (h q hq).2.2.2.symm⟩
section
variable (n o : Int) (h s t : Nat → Nat)
def bgC (i k : Nat) (b : Int) : Bool := fgt .f32 (s i) 0 && fgt .f32 (jA h i k) 0 && feq .f32 (t k) 0 && decide (b < 0)
def bgB (i : Nat) : Nat → Int
  | 0 => -1
  | k + 1 => if bgC h s t i k (bgB i k) then (k : Int) else bgB i k
def bgG (i : Nat) : Nat → Bool
  | 0 => fgt .f32 (s i) 0
  | k + 1 => if bgC h s t i k (bgB h s t i k) then false else bgG i k
def oS (S : FSt) (i : Nat) : FSt := ⟨S.f, S.c, fun q => if q < i then bgG h s t q 4 else S.g q, fun q => if q < i then bgB h s t q 4 else S.b q⟩
def bgS (S : FSt) (i k : Nat) : FSt := ⟨S.f, S.c, fun q => if q < i then bgG h s t q 4 else if q = i then bgG h s t i k else S.g q, fun q => if q < i then bgB h s t q 4 else if q = i then bgB h s t i k else S.b q⟩
theorem oS_0 (S : FSt) : feqS (oS h s t S 0) S := fun q _ => ⟨rfl, rfl, by unfold oS; simp, by unfold oS; simp⟩
theorem bgS_0 (S : FSt) (i : Nat) : feqS { oS h s t S i with g := upd (oS h s t S i).g i (fgt .f32 (s i) 0), b := upd (oS h s t S i).b i (-1) } (bgS h s t S i 0) := fun q _ => by
  refine ⟨rfl, rfl, ?_, ?_⟩
  · show upd _ i _ q = if _ then _ else if _ then _ else _
    by_cases e : q = i
    · subst e; rw [upd_eq, if_neg (by omega), if_pos rfl]; rfl
    · rw [upd_ne e, if_neg e]; rfl
  · show upd _ i _ q = if _ then _ else if _ then _ else _
    by_cases e : q = i
    · subst e; rw [upd_eq, if_neg (by omega), if_pos rfl]; rfl
    · rw [upd_ne e, if_neg e]; rfl
theorem bgS_no {S : FSt} {i k : Nat} (hc : bgC h s t i k (bgB h s t i k) = false) : feqS (bgS h s t S i (k + 1)) (bgS h s t S i k) := fun q _ => by
  have e1 : bgG h s t i (k + 1) = bgG h s t i k := by show (if _ then _ else _) = _; rw [hc]; rfl
  have e2 : bgB h s t i (k + 1) = bgB h s t i k := by show (if _ then _ else _) = _; rw [hc]; rfl
  unfold bgS
  rw [e1, e2]
  exact ⟨rfl, rfl, rfl, rfl⟩
theorem bgS_yes {S : FSt} {i k : Nat} (hc : bgC h s t i k (bgB h s t i k) = true) : feqS { bgS h s t S i k with g := upd (bgS h s t S i k).g i false, b := upd (bgS h s t S i k).b i (k : Int) } (bgS h s t S i (k + 1)) := fun q _ => by
  have e1 : bgG h s t i (k + 1) = false := by show (if _ then _ else _) = _; rw [hc]; rfl
  have e2 : bgB h s t i (k + 1) = (k : Int) := by show (if _ then _ else _) = _; rw [hc]; rfl
  refine ⟨rfl, rfl, ?_, ?_⟩
  · show upd _ i _ q = if _ then _ else if _ then _ else _
    rw [e1]
    by_cases e : q = i
    · subst e; rw [upd_eq, if_neg (by omega), if_pos rfl]
    · rw [upd_ne e, if_neg e]
      show (if _ then _ else if _ then _ else _) = _
      rw [if_neg e]
  · show upd _ i _ q = if _ then _ else if _ then _ else _
    rw [e2]
    by_cases e : q = i
    · subst e; rw [upd_eq, if_neg (by omega), if_pos rfl]
    · rw [upd_ne e, if_neg e]
      show (if _ then _ else if _ then _ else _) = _
      rw [if_neg e]
theorem bgS_4 (S : FSt) (i : Nat) : feqS (bgS h s t S i 4) (oS h s t S (i + 1)) := fun q _ => by
  refine ⟨rfl, rfl, ?_, ?_⟩
  all_goals show (if _ then _ else if _ then _ else _) = if _ then _ else _
  all_goals by_cases e : q = i
  all_goals first | (subst e; rw [if_neg (by omega), if_pos rfl, if_pos (by omega)]; done) | (rw [if_neg e]; by_cases e2 : q < i <;> first | (rw [if_pos e2, if_pos (by omega)]; done) | (rw [if_neg e2, if_neg (by omega)]; done))
theorem bgS_b (S : FSt) (i k : Nat) : (bgS h s t S i k).b i = bgB h s t i k := by
  show (if _ then _ else if _ then _ else _) = _
  rw [if_neg (by omega), if_pos rfl]
set_option maxHeartbeats 8000000 in
theorem ibegin (S : FSt) (j : Nat) (M : Mem) (hj : j < M.length) :
    Mut Try.prog 40 [.pointer (some ⟨j, 0, none⟩)] (M.set j (fiB n o h s t S)) (.tuple #[]) (M.set j (fiB n o h s t (oS h s t S 4))) := by
  refine mut_of Try.func40 Try.ntmps40 rfl rfl (by simp) (by repeat' (first | exact flat_nil | refine flat_tuple ?_ | fail)) (fun hM => by have := hM.set (b := j) (B := fiB n o h s t (oS h s t S 4)) fi_flat; rwa [List.set_set] at this) ?_
  have e0 : fiB n o h s t (oS h s t S 0) = fiB n o h s t S := fiB_congr (oS_0 h s t S)
  simp only [envOf, Nat.zero_add, Nat.reduceAdd]
  repeat' (first | (refine d_AOs (h := ?_) ; first | refine o_move (h := ?_) | refine AOs.nil (h := ?_)) | (refine d_AW (h := ?_) ; first | refine AW.seq (h := ?_) | refine AW.region (h := ?_) | refine AW.block (h := ?_)) | (first | refine t_normal ?_) | fail)
  refine AW.loopN [0, 5] (fun kk st => ∃ i : Nat, i + kk = 4 ∧ st = ⟨78, [(0, .pointer (some ⟨j, 0, none⟩)), (5, .int .i64 (i : Int))], M.set j (fiB n o h s t (oS h s t S i))⟩) 4 ⟨0, by omega, by rw [e0]; rfl⟩ ?_
  clear e0
  rintro kk st ⟨i, hi, rfl⟩
  by_cases hi4 : i < 4
  · obtain ⟨J, hJ⟩ : ∃ J, J = tab 46 (fiV n o h s t (oS h s t S i)) := ⟨_, rfl⟩
    obtain ⟨J3, hJ3⟩ : ∃ J3, J3 = tab 46 (fiV n o h s t { oS h s t S i with g := upd (oS h s t S i).g i (fgt .f32 (s i) 0), b := upd (oS h s t S i).b i (-1) }) := ⟨_, rfl⟩
    have eB : fiB n o h s t (oS h s t S i) = ⟨J, none, true⟩ := by rw [hJ]
    have eN : fiB n o h s t (bgS h s t S i 0) = ⟨J3, none, true⟩ := by rw [hJ3]; exact (fiB_congr (bgS_0 h s t S i)).symm
    have hR : ldA (.agg 4) (2 + i * 4) J3 = some (.agg (tab 4 fun q => .float .f32 (jA h i q)).toArray) := by rw [hJ3]; exact fi_row hi4
    obtain ⟨J1, J2, ⟨o1, o2, o3, o4⟩, ⟨s1, s2, s3, s4⟩, l0, l1, l2, l3⟩ := two_gb (d := 22) rfl hi4 (fgt .f32 (s i) 0) (-1) hJ hJ3 (x1 := 38 + i) (x2 := 42 + i) (x3 := 22 + i) rfl rfl rfl
    rw [eB]
    clear hJ hJ3 eB
    repeat' (first | (refine d_AOs (h := ?_) ; first | refine o_move (h := ?_) | refine o_assign (h := ?_) | refine AOs.nil (h := ?_) | (refine d_bin (h := ?_) ; first | refine o_lss (h := ?_)) | refine o_load (hv := hR) (h := ?_) | refine o_at (h := ?_) | refine o_field (h := ?_) | refine o_nil (h := ?_)) | (refine d_AW (h := ?_) ; first | refine AW.seq (h := ?_) | refine AW.region (h := ?_) | refine AW.openW2M (M.set j ⟨J, none, true⟩) 14 18 (M.set j ⟨J2, none, true⟩) (M.set j ⟨J1, none, true⟩) (M.set j ⟨J3, none, true⟩) (h := ?_) | (refine AW.cond (ht := (fun hc => ?_)) (hf := (fun hc => ?_)) <;> (try (with_reducible first | exact absurd hc Bool.false_ne_true | exact absurd hc.symm Bool.false_ne_true)) <;> (try simp only [decide_eq_true_eq, decide_eq_false_iff_not, Int.ofNat_inj, Bool.not_eq_true', Bool.not_eq_false', Int.not_lt, Int.not_le] at hc) <;> (try (exfalso; omega)) <;> (try (exact absurd hc (by decide)))) | refine AW.block (h := ?_) | refine AW.skip (h := ?_)) | (first | refine t_normal ?_) | (refine d_W (h := ?_) ; first | refine w2_stepN (h1 := by (simp only [ObK, aft, cond_true, cond_false]; repeat' (first | refine And.intro ?_ ?_ | ((refine d_AOs ?_; first | refine o_store (ho := by first | exact o1 | exact o2 | exact o3 | exact o4) (hcs := by first | exact s1 | exact s2 | exact s3 | exact s4) (h := ?_)) <;> exact AOs.nil rfl)))) (h2 := ?_) | refine w2_nil (h := ?_) | refine w2_step (h2 := ?_) | refine w2_step (h1 := by (simp only [ObK, aft, cond_true, cond_false]; repeat' (first | refine And.intro ?_ ?_ | ((refine d_AOs ?_; first | refine o_load (hv := l0) (h := ?_) | refine o_load (hv := l1) (h := ?_) | refine o_load (hv := l2) (h := ?_) | refine o_load (hv := l3) (h := ?_) | refine o_load (hv := hR) (h := ?_)) <;> exact AOs.nil rfl)))) (h2 := ?_)) | fail)
    rw [← eN]
    clear eN hR o1 o2 o3 o4 s1 s2 s3 s4 l0 l1 l2 l3
    refine AW.loopN [0, 2, 5, 31, 32] (fun k2 st => ∃ k : Nat, k + k2 = 4 ∧ st = ⟨78, [(0, .pointer (some ⟨j, 0, none⟩)), (2, .int .i64 (i : Int)), (5, .int .i64 (i : Int)), (31, .agg (tab 4 fun q => .float .f32 (jA h i q)).toArray), (32, .int .i64 (k : Int))], M.set j (fiB n o h s t (bgS h s t S i k))⟩) 4 ⟨0, by omega, rfl⟩ ?_
    rintro k2 st ⟨k, hk, rfl⟩
    by_cases hk4 : k < 4
    · obtain ⟨J, hJ⟩ : ∃ J, J = tab 46 (fiV n o h s t (bgS h s t S i k)) := ⟨_, rfl⟩
      have eB : fiB n o h s t (bgS h s t S i k) = ⟨J, none, true⟩ := by rw [hJ]
      have ls : ldA .one (22 + i) J = some (.float .f32 (s i)) := by rw [hJ]; exact fld_s rfl hi4 rfl
      have lt : ldA .one (26 + k) J = some (.float .f32 (t k)) := by rw [hJ]; exact fld_t rfl hk4 rfl
      have lb : ldA .one (42 + i) J = some (.int .i64 (bgB h s t i k)) := by rw [hJ, ← bgS_b h s t S i k]; exact fld_b rfl hi4 rfl
      cases hC : bgC h s t i k (bgB h s t i k)
      · have eN : fiB n o h s t (bgS h s t S i (k + 1)) = ⟨J, none, true⟩ := by rw [← eB]; exact fiB_congr (bgS_no h s t hC)
        rw [eB]
        clear hJ eB
        generalize bgB h s t i k = b at *
        repeat' (first | (refine d_AOs (h := ?_) ; first | refine o_move (h := ?_) | refine o_assign (h := ?_) | refine AOs.nil (h := ?_) | (refine d_bin (h := ?_) ; first | refine o_addS (h := ?_) | refine o_lss (h := ?_) | refine o_feq (h := ?_) | refine o_fgt (h := ?_)) | (refine d_grd (h := ?_) ; first | refine g_yes (h := ?_) | refine g_no (h := ?_) | (refine g_true (h1 := (fun hg => ?_)) (h0 := (fun hg => ?_)) <;> (try rw [hg]) <;> (try simp only [decide_eq_true_eq, decide_eq_false_iff_not, Int.ofNat_inj, Bool.not_eq_true', Bool.not_eq_false', Int.not_lt, Int.not_le] at hg) <;> (try (exfalso; omega)) <;> (try (exact absurd hg (by decide))))) | refine o_load (hv := ls) (h := ?_) | refine o_load (hv := lt) (h := ?_) | refine o_load (hv := lb) (h := ?_) | refine o_at (h := ?_) | refine o_field (h := ?_) | refine o_nil (h := ?_) | refine o_pick (h := ?_) | refine o_ix (h := ?_)) | (refine d_AW (h := ?_) ; first | refine AW.seq (h := ?_) | refine AW.region (h := ?_) | refine AW.open_ (h := ?_) | (refine AW.cond (ht := (fun hc => ?_)) (hf := (fun hc => ?_)) <;> (try (with_reducible first | exact absurd hc Bool.false_ne_true | exact absurd hc.symm Bool.false_ne_true)) <;> (try simp only [decide_eq_true_eq, decide_eq_false_iff_not, Int.ofNat_inj, Bool.not_eq_true', Bool.not_eq_false', Int.not_lt, Int.not_le] at hc) <;> (try (exfalso; omega)) <;> (try (exact absurd hc (by decide)))) | refine AW.block (h := ?_) | refine AW.skip (h := ?_)) | (first | refine t_normal ?_ | refine b_normal ?_) | (refine d_AQ (h := ?_) ; first | refine q_step (h2 := ?_)) | fail)
        all_goals first | exact ⟨k2 - 1, by omega, k + 1, by omega, by rw [eN]; rfl⟩ | (exfalso; unfold bgC at hC; simp_all; done)
      · obtain ⟨J3, hJ3⟩ : ∃ J3, J3 = tab 46 (fiV n o h s t { bgS h s t S i k with g := upd (bgS h s t S i k).g i false, b := upd (bgS h s t S i k).b i (k : Int) }) := ⟨_, rfl⟩
        have eN : fiB n o h s t (bgS h s t S i (k + 1)) = ⟨J3, none, true⟩ := by rw [hJ3]; exact (fiB_congr (bgS_yes h s t hC)).symm
        obtain ⟨J1, J2, ⟨o1, o2, o3, o4⟩, ⟨s1, s2, s3, s4⟩, _⟩ := two_gb (d := 22) rfl hi4 false (k : Int) hJ hJ3 (x1 := 38 + i) (x2 := 42 + i) (x3 := 22 + i) rfl rfl rfl
        have g1 : fgt .f32 (s i) 0 = true := by unfold bgC at hC; simp_all
        have g2 : fgt .f32 (jA h i k) 0 = true := by unfold bgC at hC; simp_all
        have g3 : feq .f32 (t k) 0 = true := by unfold bgC at hC; simp_all
        have g4 : bgB h s t i k < 0 := by unfold bgC at hC; simp_all
        rw [eB]
        clear hJ hJ3 eB hC
        generalize bgB h s t i k = b at *
        repeat' (first | (refine d_AOs (h := ?_) ; first | refine o_move (h := ?_) | refine o_assign (h := ?_) | refine AOs.nil (h := ?_) | (refine d_bin (h := ?_) ; first | refine o_feqC (h := ?_) | refine o_fgtC (h := ?_) | refine o_addS (h := ?_) | refine o_lss (h := ?_)) | (refine d_grd (h := ?_) ; first | refine g_yes (h := ?_)) | refine o_load (hv := ls) (h := ?_) | refine o_load (hv := lt) (h := ?_) | refine o_load (hv := lb) (h := ?_) | refine o_at (h := ?_) | refine o_field (h := ?_) | refine o_nil (h := ?_) | refine o_pick (h := ?_) | refine o_ix (h := ?_)) | (refine d_AW (h := ?_) ; first | refine AW.seq (h := ?_) | refine AW.region (h := ?_) | refine AW.openW2M (M.set j ⟨J, none, true⟩) 8 12 (M.set j ⟨J2, none, true⟩) (M.set j ⟨J1, none, true⟩) (M.set j ⟨J3, none, true⟩) (h := ?_) | (refine AW.cond (ht := (fun hc => ?_)) (hf := (fun hc => ?_)) <;> (try (with_reducible first | exact absurd hc Bool.false_ne_true | exact absurd hc.symm Bool.false_ne_true)) <;> (try simp only [decide_eq_true_eq, decide_eq_false_iff_not, Int.ofNat_inj, Bool.not_eq_true', Bool.not_eq_false', Int.not_lt, Int.not_le] at hc) <;> (try (exfalso; omega)) <;> (try (exact absurd hc (by decide)))) | refine AW.block (h := ?_) | refine AW.skip (h := ?_)) | (first | refine t_normal ?_ | refine b_normal ?_) | (refine d_W (h := ?_) ; first | refine w2_stepN (h1 := by (simp only [ObK, aft, cond_true, cond_false]; repeat' (first | refine And.intro ?_ ?_ | ((refine d_AOs ?_; first | refine o_store (ho := by first | exact o1 | exact o2 | exact o3 | exact o4) (hcs := by first | exact s1 | exact s2 | exact s3 | exact s4) (h := ?_)) <;> exact AOs.nil rfl)))) (h2 := ?_) | refine w2_nil (h := ?_) | refine w2_step (h2 := ?_)) | fail)
        all_goals first | exact ⟨k2 - 1, by omega, k + 1, by omega, by rw [eN]; rfl⟩ | (exfalso; simp_all; done) | (exfalso; omega)
    · obtain rfl : k = 4 := by omega
      have e4 : fiB n o h s t (bgS h s t S i 4) = fiB n o h s t (oS h s t S (i + 1)) := fiB_congr (bgS_4 h s t S i)
      rw [e4]
      repeat' (first | (refine d_AOs (h := ?_) ; first | refine o_move (h := ?_) | refine AOs.nil (h := ?_) | (refine d_bin (h := ?_) ; first | refine o_addS (h := ?_) | refine o_lss (h := ?_))) | (refine d_AW (h := ?_) ; first | refine AW.seq (h := ?_) | refine AW.region (h := ?_) | (refine AW.cond (ht := (fun hc => ?_)) (hf := (fun hc => ?_)) <;> (try (with_reducible first | exact absurd hc Bool.false_ne_true | exact absurd hc.symm Bool.false_ne_true)) <;> (try simp only [decide_eq_true_eq, decide_eq_false_iff_not, Int.ofNat_inj, Bool.not_eq_true', Bool.not_eq_false', Int.not_lt, Int.not_le] at hc) <;> (try (exfalso; omega)) <;> (try (exact absurd hc (by decide)))) | refine AW.exit (h := ?_)) | (first | refine t_normal ?_ | refine t_exit ?_ | refine b_normal ?_ | refine b_exit ?_) | fail)
      all_goals exact ⟨kk - 1, by omega, i + 1, by omega, rfl⟩
  · obtain rfl : i = 4 := by omega
    repeat' (first | (refine d_AOs (h := ?_) ; first | refine AOs.nil (h := ?_) | (refine d_bin (h := ?_) ; first | refine o_lss (h := ?_))) | (refine d_AW (h := ?_) ; first | refine AW.seq (h := ?_) | refine AW.region (h := ?_) | (refine AW.cond (ht := (fun hc => ?_)) (hf := (fun hc => ?_)) <;> (try (with_reducible first | exact absurd hc Bool.false_ne_true | exact absurd hc.symm Bool.false_ne_true)) <;> (try simp only [decide_eq_true_eq, decide_eq_false_iff_not, Int.ofNat_inj, Bool.not_eq_true', Bool.not_eq_false', Int.not_lt, Int.not_le] at hc) <;> (try (exfalso; omega)) <;> (try (exact absurd hc (by decide)))) | refine AW.exit (h := ?_)) | (first | refine t_normal ?_ | refine t_exit ?_ | refine b_exit ?_) | fail)
    exact fp_none rfl ⟨[], (List.append_nil _).symm⟩
end
end Go.Proofs.Ytjghdagcmombnaa
