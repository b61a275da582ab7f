/- Junctions and amounts that are drawn. -/
import Derived.Test.YtjghdagcmombnaaJn
import Derived.Test.YtjghdagcmombnaaDr2

namespace Go.Proofs.Ytjghdagcmombnaa
open Go.RowKit
attribute [local irreducible] AW AOs AO AQ AQW thenA inBlockA postA ACalls Pure
set_option linter.unusedSimpArgs false
set_option linter.unusedVariables false
set_option linter.unusedSectionVars false

def shw (w : Int) : Nat := fdiv .f32 (fofInt .f32 w) 1098907648
def prw (w : Int) : Nat := fdiv .f32 (fofInt .f32 (1 + w)) 1082130432
def evIn (outs i : Nat) : Nat → (Nat → Nat) → Nat → Nat
  | 0, h => h
  | k + 1, h => fun q => if q = 2 + i * 4 + k then fdiv .f32 1065353216 (fofInt .f32 (outs : Int)) else evIn outs i k h q
def evOut (outs : Nat) : Nat → Nat → Nat
  | 0 => fun _ => 0
  | i + 1 => fun q => if q = 18 + i then 1065353216 else evIn outs i outs (evOut outs i) q
theorem shw_0 : shw 0 = 0 := by decide +kernel
section
variable (a : Option Addr) (n cp : Nat) (cd : Nat → Int)
def jdIn (outs i : Nat) : Nat → DS × Int × (Nat → Nat) → DS × Int × (Nat → Nat)
  | 0, x => x
  | k + 1, x =>
    (pkS n cd (jdIn outs i k x).1 ((jdIn outs i k x).2.1 + 1), (jdIn outs i k x).2.1 - (if k + 1 = outs then (jdIn outs i k x).2.1 else pkV n cd (jdIn outs i k x).1 ((jdIn outs i k x).2.1 + 1)),
      fun q => if q = 2 + i * 4 + k then shw (if k + 1 = outs then (jdIn outs i k x).2.1 else pkV n cd (jdIn outs i k x).1 ((jdIn outs i k x).2.1 + 1)) else (jdIn outs i k x).2.2 q)
def jdOut (outs : Nat) : Nat → DS × (Nat → Nat) → DS × (Nat → Nat)
  | 0, x => x
  | i + 1, x => (pkS n cd (jdIn n cd outs i outs ((jdOut outs i x).1, 16, (jdOut outs i x).2)).1 8, fun q => if q = 18 + i then prw (pkV n cd (jdIn n cd outs i outs ((jdOut outs i x).1, 16, (jdOut outs i x).2)).1 8) else (jdIn n cd outs i outs ((jdOut outs i x).1, 16, (jdOut outs i x).2)).2.2 q)
theorem jdIn_bd {outs i : Nat} {x : DS × Int × (Nat → Nat)} (hx : 0 ≤ x.2.1 ∧ x.2.1 ≤ 16) : ∀ k, (0 ≤ (jdIn n cd outs i k x).2.1 ∧ (jdIn n cd outs i k x).2.1 ≤ 16) ∧ (jdIn n cd outs i k x).1.1 ≤ x.1.1 + k
  | 0 => ⟨hx, Nat.le_refl _⟩
  | k + 1 => by
    obtain ⟨h1, h2⟩ := jdIn_bd (outs := outs) (i := i) hx k
    have h3 := pkV_bd (n := n) (cd := cd) (jdIn n cd outs i k x).1 (m := (jdIn n cd outs i k x).2.1 + 1) (by omega)
    have h4 := pkS_at n cd (jdIn n cd outs i k x).1 ((jdIn n cd outs i k x).2.1 + 1)
    unfold jdIn
    refine ⟨?_, by show (pkS _ _ _ _).1 ≤ _; omega⟩
    show 0 ≤ (_ : Int) - (if k + 1 = outs then _ else _) ∧ (_ : Int) - (if k + 1 = outs then _ else _) ≤ 16
    split <;> omega
theorem jdOut_at {outs : Nat} {x : DS × (Nat → Nat)} : ∀ i, (jdOut n cd outs i x).1.1 ≤ x.1.1 + i * (outs + 1)
  | 0 => by show x.1.1 ≤ _; omega
  | i + 1 => by
    have h1 := jdOut_at (outs := outs) (x := x) i
    have h2 := (jdIn_bd n cd (outs := outs) (i := i) (x := ((jdOut n cd outs i x).1, 16, (jdOut n cd outs i x).2)) ⟨by show (0 : Int) ≤ 16; omega, by show (16 : Int) ≤ 16; omega⟩ outs).2
    have h3 := pkS_at n cd (jdIn n cd outs i outs ((jdOut n cd outs i x).1, 16, (jdOut n cd outs i x).2)).1 8
    show (pkS _ _ _ _).1 ≤ _
    rw [Nat.add_mul]
    show (pkS _ _ _ _).1 ≤ _
    have h2' : (jdIn n cd outs i outs ((jdOut n cd outs i x).1, 16, (jdOut n cd outs i x).2)).1.1 ≤ (jdOut n cd outs i x).1.1 + outs := h2
    omega
set_option maxHeartbeats 8000000 in
omit a n cp cd in
theorem sl03Even (N1 N2 : Nat) (h1 : N1 ≤ 4) (h2 : N2 ≤ 4) (M : Mem) : Pure Try.prog 33 [.int .i64 (N1 : Int), .int .i64 (N2 : Int)] M (jnV (N1 : Int) (N2 : Int) (evOut N2 N1)) := by
  refine pure_of Try.func33 Try.ntmps33 rfl rfl (flat_agg jn_flat) ?_
  simp only [envOf, Nat.zero_add, Nat.reduceAdd]
  repeat' (first | (refine d_AOs (h := ?_) ; first | refine o_move (h := ?_) | refine o_assign (h := ?_) | refine AOs.nil (h := ?_) | refine o_build (cs := tab 22 (jnJ (N1 : Int) (N2 : Int) fun _ => 0)) (hf := by rfl) (h := ?_) | refine o_store (hw := by exact whole_tab (fun i => jn_one i)) (hcs := by exact st_all (by rfl)) (h := ?_) | refine o_alloc (h := ?_)) | (refine d_AW (h := ?_) ; first | refine AW.seq (h := ?_) | refine AW.region (h := ?_) | refine AW.block (h := ?_)) | (first | refine t_normal ?_) | fail)
  refine AW.loopN [0, 1, 4, 5, 6] (fun k st => ∃ i : Nat, i + k = N1 ∧ st = ⟨33, [(0, .int .i64 (N1 : Int)), (1, .int .i64 (N2 : Int)), (4, .pointer (some ⟨M.length, 0, none⟩)), (5, .pointer (some ⟨M.length + 1, 0, none⟩)), (6, .int .i64 (i : Int))], M ++ [jnB 0 0 (fun _ => 0), jnB (N1 : Int) (N2 : Int) (evOut N2 i)]⟩) N1 ⟨0, by omega, rfl⟩ ?_
  rintro k st ⟨i, hi, rfl⟩
  by_cases hin : i < N1
  · repeat' (first | (refine d_AOs (h := ?_) ; first | refine o_move (h := ?_) | refine o_assign (h := ?_) | refine AOs.nil (h := ?_) | (refine d_bin (h := ?_) ; first | refine o_lss (h := ?_))) | (refine d_AW (h := ?_) ; first | refine AW.seq (h := ?_) | refine AW.region (h := ?_) | (refine AW.cond (ht := (fun hc => ?_)) (hf := (fun hc => ?_)) <;> (try (with_reducible first | exact absurd hc Bool.false_ne_true | exact absurd hc.symm Bool.false_ne_true)) <;> (try simp only [decide_eq_true_eq, decide_eq_false_iff_not, Int.ofNat_inj, Bool.not_eq_true', Bool.not_eq_false', Int.not_lt, Int.not_le] at hc) <;> (try (exfalso; omega)) <;> (try (exact absurd hc (by decide)))) | refine AW.block (h := ?_) | refine AW.skip (h := ?_)) | (first | refine t_normal ?_) | fail)
    refine AW.loopN [0, 1, 4, 5, 6, 7] (fun k2 st => ∃ q : Nat, q + k2 = N2 ∧ st = ⟨33, [(0, .int .i64 (N1 : Int)), (1, .int .i64 (N2 : Int)), (4, .pointer (some ⟨M.length, 0, none⟩)), (5, .pointer (some ⟨M.length + 1, 0, none⟩)), (6, .int .i64 (i : Int)), (7, .int .i64 (q : Int))], M ++ [jnB 0 0 (fun _ => 0), jnB (N1 : Int) (N2 : Int) (evIn N2 i q (evOut N2 i))]⟩) N2 ⟨0, by omega, rfl⟩ ?_
    rintro k2 st ⟨q, hq, rfl⟩
    by_cases hqn : q < N2
    · have hx : 2 + i * 4 + q < 22 := by omega
      repeat' (first | (refine d_AOs (h := ?_) ; first | refine o_move (h := ?_) | refine o_assign (h := ?_) | refine AOs.nil (h := ?_) | (refine d_bin (h := ?_) ; first | refine o_addS (h := ?_) | refine o_lss (h := ?_) | refine o_fdiv (h := ?_)) | refine o_store (hcs := by exact (st_tab1 (by omega)).trans (jn_put (by omega))) (h := ?_) | refine o_at (h := ?_) | refine o_field (h := ?_) | refine o_fofInt (h := ?_)) | (refine d_AW (h := ?_) ; first | refine AW.seq (h := ?_) | refine AW.region (h := ?_) | (refine AW.cond (ht := (fun hc => ?_)) (hf := (fun hc => ?_)) <;> (try (with_reducible first | exact absurd hc Bool.false_ne_true | exact absurd hc.symm Bool.false_ne_true)) <;> (try simp only [decide_eq_true_eq, decide_eq_false_iff_not, Int.ofNat_inj, Bool.not_eq_true', Bool.not_eq_false', Int.not_lt, Int.not_le] at hc) <;> (try (exfalso; omega)) <;> (try (exact absurd hc (by decide)))) | refine AW.block (h := ?_) | refine AW.skip (h := ?_)) | (first | refine t_normal ?_ | refine b_normal ?_) | fail)
      all_goals exact ⟨k2 - 1, by omega, q + 1, by omega, rfl⟩
    · obtain rfl : q = N2 := by omega
      have hx : 18 + i < 22 := by omega
      repeat' (first | (refine d_AOs (h := ?_) ; first | refine o_move (h := ?_) | refine o_assign (h := ?_) | refine AOs.nil (h := ?_) | (refine d_bin (h := ?_) ; first | refine o_addS (h := ?_) | refine o_lss (h := ?_)) | refine o_store (hcs := by exact (st_tab1 (by omega)).trans (jn_put (by omega))) (h := ?_) | refine o_at (h := ?_) | refine o_field (h := ?_)) | (refine d_AW (h := ?_) ; first | refine AW.seq (h := ?_) | refine AW.region (h := ?_) | (refine AW.cond (ht := (fun hc => ?_)) (hf := (fun hc => ?_)) <;> (try (with_reducible first | exact absurd hc Bool.false_ne_true | exact absurd hc.symm Bool.false_ne_true)) <;> (try simp only [decide_eq_true_eq, decide_eq_false_iff_not, Int.ofNat_inj, Bool.not_eq_true', Bool.not_eq_false', Int.not_lt, Int.not_le] at hc) <;> (try (exfalso; omega)) <;> (try (exact absurd hc (by decide)))) | refine AW.exit (h := ?_)) | (first | refine t_normal ?_ | refine t_exit ?_ | refine b_normal ?_ | refine b_exit ?_) | fail)
      all_goals exact ⟨k - 1, by omega, i + 1, by omega, rfl⟩
  · obtain rfl : i = N1 := by omega
    repeat' (first | (refine d_AOs (h := ?_) ; first | refine o_move (h := ?_) | refine AOs.nil (h := ?_) | (refine d_bin (h := ?_) ; first | refine o_lss (h := ?_)) | refine o_store (hw := by exact whole_tab (fun i => jn_one i)) (hcs := by exact st_all (by rfl)) (h := ?_) | refine o_load (h := ?_)) | (refine d_AW (h := ?_) ; first | refine AW.seq (h := ?_) | refine AW.region (h := ?_) | (refine AW.cond (ht := (fun hc => ?_)) (hf := (fun hc => ?_)) <;> (try (with_reducible first | exact absurd hc Bool.false_ne_true | exact absurd hc.symm Bool.false_ne_true)) <;> (try simp only [decide_eq_true_eq, decide_eq_false_iff_not, Int.ofNat_inj, Bool.not_eq_true', Bool.not_eq_false', Int.not_lt, Int.not_le] at hc) <;> (try (exfalso; omega)) <;> (try (exact absurd hc (by decide)))) | refine AW.ret (h := ?_) | refine AW.exit (h := ?_)) | (first | refine t_normal ?_ | refine t_exit ?_ | refine b_exit ?_) | (refine d_post (h := ?_) ; first | refine p_cell1 rfl (h := ?_)) | fail)
    all_goals rfl
/-- How many ways a drawn junction has, and its numbers. -/
def jdA (n : Nat) (cd : Nat → Int) (s : DS) : Nat := (1 + pkV n cd s 4).toNat
def jdB (n : Nat) (cd : Nat → Int) (s : DS) : Nat := (1 + pkV n cd (pkS n cd s 4) 4).toNat
def jdX (n : Nat) (cd : Nat → Int) (s : DS) : DS × (Nat → Nat) := jdOut n cd (jdB n cd s) (jdA n cd s) (pkS n cd (pkS n cd s 4) 4, evOut (jdB n cd s) (jdA n cd s))
set_option maxRecDepth 20000 in
set_option maxHeartbeats 16000000 in
theorem sl03Drawn (hcd : ∀ q, 0 ≤ cd q ∧ cd q ≤ 255) (hn : n ≤ 1048576) (s : DS) (j : Nat) (M : Mem) (hat : s.1 ≤ 900000) (hb : M[j]? = some (srcB a n cp s)) (hS : SlAt M a n (tab n fun q => .int .u8 (cd q))) :
    Mut Try.prog 16 [.pointer (some ⟨j, 0, none⟩)] M (jnV (jdA n cd s : Int) (jdB n cd s : Int) (jdX n cd s).2) (M.set j (srcB a n cp (jdX n cd s).1)) := by
  refine mut_of Try.func16 Try.ntmps16 rfl rfl (by rw [List.length_set]; exact Nat.le_refl _) (flat_agg jn_flat) (src_closed hb) ?_
  have hjl := (List.getElem?_eq_some_iff.1 hb).1
  have q1 := pkS_at n cd s 4
  have q2 := pkS_at n cd (pkS n cd s 4) 4
  have b1 := pkV_bd (n := n) (cd := cd) s (m := 4) (by omega)
  have b2 := pkV_bd (n := n) (cd := cd) (pkS n cd s 4) (m := 4) (by omega)
  have p1 := fun M' h1 h2 => spick a n cp cd hcd hn s 4 (by omega) j M' (by omega) h1 h2
  have p2 := fun M' h1 h2 => spick a n cp cd hcd hn (pkS n cd s 4) 4 (by omega) j M' (by omega) h1 h2
  have hSi : ∀ s' T, SlAt (M.set j (srcB a n cp s') ++ T) a n (tab n fun q => .int .u8 (cd q)) := fun s' T => (src_same hb hS).append
  obtain ⟨N1, hN1⟩ : ∃ N1, N1 = jdA n cd s := ⟨_, rfl⟩
  obtain ⟨N2, hN2⟩ : ∃ N2, N2 = jdB n cd s := ⟨_, rfl⟩
  have v1 : (1 : Int) + pkV n cd s 4 = (N1 : Int) := by rw [hN1]; unfold jdA; omega
  have v2 : (1 : Int) + pkV n cd (pkS n cd s 4) 4 = (N2 : Int) := by rw [hN2]; unfold jdB; omega
  have c1 : 1 ≤ N1 ∧ N1 ≤ 4 := by omega
  have c2 : 1 ≤ N2 ∧ N2 ≤ 4 := by omega
  have hE : ∀ M', Pure Try.prog 33 [.int .i64 (1 + pkV n cd s 4), .int .i64 (1 + pkV n cd (pkS n cd s 4) 4)] M' (jnV (N1 : Int) (N2 : Int) (evOut N2 N1)) := fun M' => by
    rw [v1, v2]; exact sl03Even N1 N2 c1.2 c2.2 M'
  have eX : jdX n cd s = jdOut n cd N2 N1 (pkS n cd (pkS n cd s 4) 4, evOut N2 N1) := by rw [hN1, hN2]; rfl
  rw [eX, ← hN1, ← hN2]
  clear eX hN1 hN2
  obtain ⟨s2, hs2⟩ : ∃ s2, s2 = pkS n cd (pkS n cd s 4) 4 := ⟨_, rfl⟩
  have hat2 : s2.1 ≤ 900002 := by rw [hs2]; omega
  rw [← hs2] at p2 ⊢
  clear hs2 q1 q2
  simp only [envOf, Nat.zero_add, Nat.reduceAdd]
  repeat' (first | (refine d_AOs (h := ?_) ; first | refine o_move (h := ?_) | refine o_assign (h := ?_) | refine AOs.nil (h := ?_) | (refine d_bin (h := ?_) ; first | refine o_addS (h := ?_)) | refine o_callM (hc := (p1 _ (mem_head hb) (by first | exact hS | exact hS.append))) (h := ?_) | refine o_callM (hc := (p2 _ (mem_set1 hjl) (hSi _ _))) (h := ?_) | refine o_call (hc := (hE _)) (h := ?_) | refine o_store (hw := by exact whole_tab (fun i => jn_one i)) (hcs := by exact st_all (by rfl)) (h := ?_) | refine o_alloc (h := ?_)) | (refine d_AW (h := ?_) ; first | refine AW.seq (h := ?_) | refine AW.region (h := ?_) | refine AW.block (h := ?_)) | (first | refine t_normal ?_) | fail)
  refine AW.loopN [0, 2, 3, 4] (fun k st => ∃ i : Nat, i + k = N1 ∧ st = ⟨57, [(0, .pointer (some ⟨j, 0, none⟩)), (2, .pointer (some ⟨M.length, 0, none⟩)), (3, .pointer (some ⟨M.length + 1, 0, none⟩)), (4, .int .i64 (i : Int))], M.set j (srcB a n cp (jdOut n cd N2 i (s2, evOut N2 N1)).1) ++ [jnB 0 0 (fun _ => 0), jnB (N1 : Int) (N2 : Int) ((jdOut n cd N2 i (s2, evOut N2 N1)).2)]⟩) N1 ⟨0, by omega, rfl⟩ ?_
  clear p1 p2 hE v1 v2
  rintro k st ⟨i, hi, rfl⟩
  have hao := jdOut_at n cd (outs := N2) (x := (s2, evOut N2 N1)) i
  have hao2 : (jdOut n cd N2 i (s2, evOut N2 N1)).1.1 ≤ 900100 := by
    have : i * (N2 + 1) ≤ 4 * 5 := Nat.mul_le_mul (by omega) (by omega)
    have hao' : (jdOut n cd N2 i (s2, evOut N2 N1)).1.1 ≤ s2.1 + i * (N2 + 1) := hao
    omega
  clear hao
  by_cases hin : i < N1
  · have en : jdOut n cd N2 (i + 1) (s2, evOut N2 N1) = (pkS n cd (jdIn n cd N2 i N2 ((jdOut n cd N2 i (s2, evOut N2 N1)).1, 16, (jdOut n cd N2 i (s2, evOut N2 N1)).2)).1 8, fun q => if q = 18 + i then prw (pkV n cd (jdIn n cd N2 i N2 ((jdOut n cd N2 i (s2, evOut N2 N1)).1, 16, (jdOut n cd N2 i (s2, evOut N2 N1)).2)).1 8) else (jdIn n cd N2 i N2 ((jdOut n cd N2 i (s2, evOut N2 N1)).1, 16, (jdOut n cd N2 i (s2, evOut N2 N1)).2)).2.2 q) := rfl
    obtain ⟨y, hy⟩ : ∃ y : DS × Int × (Nat → Nat), y = ((jdOut n cd N2 i (s2, evOut N2 N1)).1, 16, (jdOut n cd N2 i (s2, evOut N2 N1)).2) := ⟨_, rfl⟩
    have hy1 : y.1.1 ≤ 900100 := by rw [hy]; exact hao2
    have hy2 : 0 ≤ y.2.1 ∧ y.2.1 ≤ 16 := by rw [hy]; show (0 : Int) ≤ 16 ∧ (16 : Int) ≤ 16; omega
    have z1 : (jdOut n cd N2 i (s2, evOut N2 N1)).1 = y.1 := by rw [hy]
    have z2 : (jdOut n cd N2 i (s2, evOut N2 N1)).2 = y.2.2 := by rw [hy]
    have z3 : (16 : Int) = y.2.1 := by rw [hy]
    rw [← hy] at en
    rw [z1, z2]
    clear hy z1 z2
    repeat' (first | (refine d_AOs (h := ?_) ; first | refine o_move (h := ?_) | refine o_assign (h := ?_) | refine AOs.nil (h := ?_) | (refine d_bin (h := ?_) ; first | refine o_lss (h := ?_)) | refine o_load (h := ?_) | refine o_field (h := ?_)) | (refine d_AW (h := ?_) ; first | refine AW.seq (h := ?_) | refine AW.region (h := ?_) | (refine AW.cond (ht := (fun hc => ?_)) (hf := (fun hc => ?_)) <;> (try (with_reducible first | exact absurd hc Bool.false_ne_true | exact absurd hc.symm Bool.false_ne_true)) <;> (try simp only [decide_eq_true_eq, decide_eq_false_iff_not, Int.ofNat_inj, Bool.not_eq_true', Bool.not_eq_false', Int.not_lt, Int.not_le] at hc) <;> (try (exfalso; omega)) <;> (try (exact absurd hc (by decide)))) | refine AW.block (h := ?_) | refine AW.skip (h := ?_)) | (first | refine t_normal ?_) | fail)
    refine AW.loopN [0, 2, 3, 4, 5, 6] (fun k2 st => ∃ q : Nat, q + k2 = N2 ∧ st = ⟨57, [(0, .pointer (some ⟨j, 0, none⟩)), (2, .pointer (some ⟨M.length, 0, none⟩)), (3, .pointer (some ⟨M.length + 1, 0, none⟩)), (4, .int .i64 (i : Int)), (5, .int .i64 (jdIn n cd N2 i q y).2.1), (6, .int .i64 (q : Int))], M.set j (srcB a n cp (jdIn n cd N2 i q y).1) ++ [jnB 0 0 (fun _ => 0), jnB (N1 : Int) (N2 : Int) ((jdIn n cd N2 i q y).2.2)]⟩) N2 ⟨0, by omega, by show (_ : St) = ⟨57, [(0, .pointer (some ⟨j, 0, none⟩)), (2, .pointer (some ⟨M.length, 0, none⟩)), (3, .pointer (some ⟨M.length + 1, 0, none⟩)), (4, .int .i64 (i : Int)), (5, .int .i64 y.2.1), (6, .int .i64 ((0 : Nat) : Int))], M.set j (srcB a n cp y.1) ++ [jnB 0 0 (fun _ => 0), jnB (N1 : Int) (N2 : Int) (y.2.2)]⟩; rw [← z3]; rfl⟩ ?_
    rintro k2 st ⟨q, hq, rfl⟩
    obtain ⟨hbd, hat3⟩ := jdIn_bd n cd (outs := N2) (i := i) hy2 q
    have en2 : jdIn n cd N2 i (q + 1) y = (pkS n cd (jdIn n cd N2 i q y).1 ((jdIn n cd N2 i q y).2.1 + 1), (jdIn n cd N2 i q y).2.1 - (if q + 1 = N2 then (jdIn n cd N2 i q y).2.1 else pkV n cd (jdIn n cd N2 i q y).1 ((jdIn n cd N2 i q y).2.1 + 1)), fun x => if x = 2 + i * 4 + q then shw (if q + 1 = N2 then (jdIn n cd N2 i q y).2.1 else pkV n cd (jdIn n cd N2 i q y).1 ((jdIn n cd N2 i q y).2.1 + 1)) else (jdIn n cd N2 i q y).2.2 x) := rfl
    by_cases hqn : q < N2
    · generalize jdIn n cd N2 i q y = w at *
      have bw := pkV_bd (n := n) (cd := cd) w.1 (m := w.2.1 + 1) (by omega)
      have p3 := fun M' h1 h2 => spick a n cp cd hcd hn w.1 (w.2.1 + 1) (by omega) j M' (by omega) h1 h2
      generalize pkV n cd w.1 (w.2.1 + 1) = v at *
      have hx : 2 + i * 4 + q < 22 := by omega
      by_cases hl : q + 1 = N2
      · rw [if_pos hl] at en2
        repeat' (first | (refine d_AOs (h := ?_) ; first | refine o_move (h := ?_) | refine o_assign (h := ?_) | refine AOs.nil (h := ?_) | (refine d_bin (h := ?_) ; first | refine o_addS (h := ?_) | refine o_lss (h := ?_) | refine o_eqi (h := ?_) | refine o_subS (h := ?_) | refine o_fdiv (h := ?_)) | refine o_callM (hc := (p3 _ (mem_set1 hjl) (hSi _ _))) (h := ?_) | refine o_store (hcs := by exact (st_tab1 (by omega)).trans (jn_put (by omega))) (h := ?_) | refine o_load (h := ?_) | refine o_at (h := ?_) | refine o_field (h := ?_) | refine o_fofInt (h := ?_)) | (refine d_AW (h := ?_) ; first | refine AW.seq (h := ?_) | refine AW.region (h := ?_) | (refine AW.cond (ht := (fun hc => ?_)) (hf := (fun hc => ?_)) <;> (try (with_reducible first | exact absurd hc Bool.false_ne_true | exact absurd hc.symm Bool.false_ne_true)) <;> (try simp only [decide_eq_true_eq, decide_eq_false_iff_not, Int.ofNat_inj, Bool.not_eq_true', Bool.not_eq_false', Int.not_lt, Int.not_le] at hc) <;> (try (exfalso; omega)) <;> (try (exact absurd hc (by decide)))) | refine AW.block (h := ?_) | refine AW.skip (h := ?_)) | (first | refine t_normal ?_ | refine b_normal ?_) | fail)
        all_goals first | (exfalso; omega) | exact ⟨k2 - 1, by omega, q + 1, by omega, by rw [en2]; rfl⟩
      · rw [if_neg hl] at en2
        repeat' (first | (refine d_AOs (h := ?_) ; first | refine o_move (h := ?_) | refine o_assign (h := ?_) | refine AOs.nil (h := ?_) | (refine d_bin (h := ?_) ; first | refine o_addS (h := ?_) | refine o_lss (h := ?_) | refine o_eqi (h := ?_) | refine o_subS (h := ?_) | refine o_fdiv (h := ?_)) | refine o_callM (hc := (p3 _ (mem_set1 hjl) (hSi _ _))) (h := ?_) | refine o_store (hcs := by exact (st_tab1 (by omega)).trans (jn_put (by omega))) (h := ?_) | refine o_load (h := ?_) | refine o_at (h := ?_) | refine o_field (h := ?_) | refine o_fofInt (h := ?_)) | (refine d_AW (h := ?_) ; first | refine AW.seq (h := ?_) | refine AW.region (h := ?_) | (refine AW.cond (ht := (fun hc => ?_)) (hf := (fun hc => ?_)) <;> (try (with_reducible first | exact absurd hc Bool.false_ne_true | exact absurd hc.symm Bool.false_ne_true)) <;> (try simp only [decide_eq_true_eq, decide_eq_false_iff_not, Int.ofNat_inj, Bool.not_eq_true', Bool.not_eq_false', Int.not_lt, Int.not_le] at hc) <;> (try (exfalso; omega)) <;> (try (exact absurd hc (by decide)))) | refine AW.block (h := ?_) | refine AW.skip (h := ?_)) | (first | refine t_normal ?_ | refine b_normal ?_) | fail)
        all_goals first | (exfalso; omega) | exact ⟨k2 - 1, by omega, q + 1, by omega, by rw [en2]; rfl⟩
    · obtain rfl : q = N2 := by omega
      clear en2
      generalize jdIn n cd q i q y = w at *
      have bw := pkV_bd (n := n) (cd := cd) w.1 (m := 8) (by omega)
      have p3 := fun M' h1 h2 => spick a n cp cd hcd hn w.1 8 (by omega) j M' (by omega) h1 h2
      generalize pkV n cd w.1 8 = v at *
      have hx : 18 + i < 22 := by omega
      repeat' (first | (refine d_AOs (h := ?_) ; first | refine o_move (h := ?_) | refine o_assign (h := ?_) | refine AOs.nil (h := ?_) | (refine d_bin (h := ?_) ; first | refine o_addS (h := ?_) | refine o_lss (h := ?_) | refine o_fdiv (h := ?_)) | refine o_callM (hc := (p3 _ (mem_set1 hjl) (hSi _ _))) (h := ?_) | refine o_store (hcs := by exact (st_tab1 (by omega)).trans (jn_put (by omega))) (h := ?_) | refine o_load (h := ?_) | refine o_at (h := ?_) | refine o_field (h := ?_) | refine o_fofInt (h := ?_)) | (refine d_AW (h := ?_) ; first | refine AW.seq (h := ?_) | refine AW.region (h := ?_) | (refine AW.cond (ht := (fun hc => ?_)) (hf := (fun hc => ?_)) <;> (try (with_reducible first | exact absurd hc Bool.false_ne_true | exact absurd hc.symm Bool.false_ne_true)) <;> (try simp only [decide_eq_true_eq, decide_eq_false_iff_not, Int.ofNat_inj, Bool.not_eq_true', Bool.not_eq_false', Int.not_lt, Int.not_le] at hc) <;> (try (exfalso; omega)) <;> (try (exact absurd hc (by decide)))) | refine AW.exit (h := ?_)) | (first | refine t_normal ?_ | refine t_exit ?_ | refine b_normal ?_ | refine b_exit ?_) | fail)
      all_goals exact ⟨k - 1, by omega, i + 1, by omega, by rw [en]; rfl⟩
  · obtain rfl : i = N1 := by omega
    repeat' (first | (refine d_AOs (h := ?_) ; first | refine o_move (h := ?_) | refine AOs.nil (h := ?_) | (refine d_bin (h := ?_) ; first | refine o_lss (h := ?_)) | refine o_store (hw := by exact whole_tab (fun i => jn_one i)) (hcs := by exact st_all (by rfl)) (h := ?_) | refine o_load (h := ?_) | refine o_field (h := ?_)) | (refine d_AW (h := ?_) ; first | refine AW.seq (h := ?_) | refine AW.region (h := ?_) | (refine AW.cond (ht := (fun hc => ?_)) (hf := (fun hc => ?_)) <;> (try (with_reducible first | exact absurd hc Bool.false_ne_true | exact absurd hc.symm Bool.false_ne_true)) <;> (try simp only [decide_eq_true_eq, decide_eq_false_iff_not, Int.ofNat_inj, Bool.not_eq_true', Bool.not_eq_false', Int.not_lt, Int.not_le] at hc) <;> (try (exfalso; omega)) <;> (try (exact absurd hc (by decide)))) | refine AW.ret (h := ?_) | refine AW.exit (h := ?_)) | (first | refine t_normal ?_ | refine t_exit ?_ | refine b_exit ?_) | (refine d_post (h := ?_) ; first | refine p_cell1 rfl (h := ?_)) | fail)
    all_goals rfl
theorem sP6Junction (hcd : ∀ q, 0 ≤ cd q ∧ cd q ≤ 255) (hn : n ≤ 1048576) (M : Mem) (hS : SlAt M a n (tab n fun q => .int .u8 (cd q))) :
    Pure Try.prog 5 [.slice a n cp] M (jnV (jdA n cd (0, 0) : Int) (jdB n cd (0, 0) : Int) (jdX n cd (0, 0)).2) := by
  refine pure_of Try.func5 Try.ntmps5 rfl rfl (flat_agg jn_flat) ?_
  have hp := fun j M' h1 h2 => sl03Drawn a n cp cd hcd hn (0, 0) j M' (by simp) h1 h2
  generalize (jdX n cd (0, 0)).2 = h at *
  generalize jdA n cd (0, 0) = N1 at *
  generalize jdB n cd (0, 0) = N2 at *
  simp only [envOf, Nat.zero_add, Nat.reduceAdd]
  repeat' (first | (refine d_AOs (h := ?_) ; first | refine o_move (h := ?_) | refine AOs.nil (h := ?_) | refine o_callA (hc := (sfrom a n cp _)) (h := ?_) | refine o_callM (hc := (hp _ _ (by first | (simp only [mem_tail, mem_tail0, List.getElem?_cons_zero, List.getElem?_cons_succ]; first | done | rfl) | exact mem_head (by assumption) | assumption | (simp only [mem_tailS, mem_tailS0, List.getElem?_cons_zero, List.getElem?_cons_succ]; first | done | rfl) | exact mem_set1 (by assumption) | exact mem_set0 (by assumption) | exact mem_setN1 (by assumption) (by assumption) | exact mem_setN (by assumption) (by assumption)) (by first | exact hS | exact hS.append))) (h := ?_) | refine o_store (hw := by exact whole_tab (fun i => jn_one i)) (hcs := by exact st_all (by rfl)) (h := ?_) | refine o_alloc (h := ?_)) | (refine d_AW (h := ?_) ; first | refine AW.seq (h := ?_) | refine AW.region (h := ?_) | refine AW.ret (h := ?_)) | (first | refine t_normal ?_) | (refine d_post (h := ?_) ; first | refine p_cell1 rfl (h := ?_)) | fail)
  all_goals rfl
end
end Go.Proofs.Ytjghdagcmombnaa

/- Shares. -/
namespace Go.Proofs.Ytjghdagcmombnaa
open Go.RowKit
attribute [local irreducible] AW AOs AO AQ AQW thenA inBlockA postA ACalls Pure
set_option linter.unusedSimpArgs false
set_option linter.unusedVariables false
set_option linter.unusedSectionVars false

set_option maxHeartbeats 1000000 in
theorem iIsShare (a : Nat) (M : Mem) : Pure Try.prog 54 [.float .f32 a] M (.bool (isSh a)) := by
  refine pure_of Try.func54 Try.ntmps54 rfl rfl (by repeat' (first | exact Flat.bool _ | exact Flat.int _ _ | exact Flat.float _ _ | exact Flat.string _ | exact flat_nil | exact flat_tabL (fun _ => Flat.bool _) | exact flat_tabL (fun _ => Flat.int _ _) | exact flat_tabL (fun _ => Flat.float _ _) | refine flat_tuple ?_ | refine flat_agg ?_ | refine flat_cons ?_ ?_ | refine flat_append ?_ ?_)) ?_
  unfold isSh
  cases h : isAm a
  all_goals have hA := fun M' => iIsAmount a M'
  all_goals rw [h] at hA
  all_goals simp only [envOf, Nat.zero_add, Nat.reduceAdd]
  all_goals repeat' (first | (refine d_AOs (h := ?_) ; first | refine o_move (h := ?_) | refine o_assign (h := ?_) | refine AOs.nil (h := ?_) | (refine d_bin (h := ?_) ; first | refine o_leq (h := ?_) | refine o_fle (h := ?_) ) | (refine d_grd (h := ?_) ; first | refine g_yes (h := ?_) | refine g_no (h := ?_) | refine g_undef (h := ?_) | (refine g_true (h1 := (fun hg => ?_)) (h0 := (fun hg => ?_)) <;> (try rw [hg]) <;> (try simp only [decide_eq_true_eq, decide_eq_false_iff_not, Int.ofNat_inj, Bool.not_eq_true', Bool.not_eq_false', Int.not_lt, Int.not_le] at hg) <;> (try (exfalso; omega)) <;> (try (exact absurd hg (by decide)))) | (refine g_false (h1 := (fun hg => ?_)) (h0 := (fun hg => ?_)) <;> (try rw [hg]) <;> (try simp only [decide_eq_true_eq, decide_eq_false_iff_not, Int.ofNat_inj, Bool.not_eq_true', Bool.not_eq_false', Int.not_lt, Int.not_le] at hg) <;> (try (exfalso; omega)) <;> (try (exact absurd hg (by decide))))) | refine o_call (hc := (hA _)) (h := ?_) | refine o_at (h := ?_) | refine o_pick (h := ?_) ) | (refine d_AW (h := ?_) ; first | refine AW.seq (h := ?_) | refine AW.region (h := ?_) | (refine AW.cond (ht := (fun hc => ?_)) (hf := (fun hc => ?_)) <;> (try (with_reducible first | exact absurd hc Bool.false_ne_true | exact absurd hc.symm Bool.false_ne_true)) <;> (try simp only [decide_eq_true_eq, decide_eq_false_iff_not, Int.ofNat_inj, Bool.not_eq_true', Bool.not_eq_false', Int.not_lt, Int.not_le] at hc) <;> (try (exfalso; omega)) <;> (try (exact absurd hc (by decide)))) | refine AW.block (h := ?_) | refine AW.ret (h := ?_) | refine AW.skip (h := ?_) | refine AW.exit (h := ?_) ) | (first | refine t_normal ?_ | refine t_ret ?_ | refine t_exit ?_ | refine b_normal ?_ | refine b_exit ?_ | refine b_exit' (by decide) ?_ | refine b_ret ?_) | (refine d_post (h := ?_) ; first | refine p_ret1 rfl (h := ?_) | refine p_end1 rfl (h := ?_) | refine p_cell1 rfl (h := ?_) ))
  all_goals first | rfl | (simp_all; done)
set_option maxHeartbeats 1000000 in
theorem sl01Share (a : Nat) (M : Mem) : Pure Try.prog 49 [.float .f32 a] M (.bool (isSh a)) := by
  refine pure_of Try.func49 Try.ntmps49 rfl rfl (by repeat' (first | exact Flat.bool _ | exact Flat.int _ _ | exact Flat.float _ _ | exact Flat.string _ | exact flat_nil | exact flat_tabL (fun _ => Flat.bool _) | exact flat_tabL (fun _ => Flat.int _ _) | exact flat_tabL (fun _ => Flat.float _ _) | refine flat_tuple ?_ | refine flat_agg ?_ | refine flat_cons ?_ ?_ | refine flat_append ?_ ?_)) ?_
  unfold isSh
  cases h : isAm a
  all_goals have hA := fun M' => sl01Amount a M'
  all_goals rw [h] at hA
  all_goals simp only [envOf, Nat.zero_add, Nat.reduceAdd]
  all_goals repeat' (first | (refine d_AOs (h := ?_) ; first | refine o_move (h := ?_) | refine o_assign (h := ?_) | refine AOs.nil (h := ?_) | (refine d_bin (h := ?_) ; first | refine o_leq (h := ?_) | refine o_fle (h := ?_) ) | (refine d_grd (h := ?_) ; first | refine g_yes (h := ?_) | refine g_no (h := ?_) | refine g_undef (h := ?_) | (refine g_true (h1 := (fun hg => ?_)) (h0 := (fun hg => ?_)) <;> (try rw [hg]) <;> (try simp only [decide_eq_true_eq, decide_eq_false_iff_not, Int.ofNat_inj, Bool.not_eq_true', Bool.not_eq_false', Int.not_lt, Int.not_le] at hg) <;> (try (exfalso; omega)) <;> (try (exact absurd hg (by decide)))) | (refine g_false (h1 := (fun hg => ?_)) (h0 := (fun hg => ?_)) <;> (try rw [hg]) <;> (try simp only [decide_eq_true_eq, decide_eq_false_iff_not, Int.ofNat_inj, Bool.not_eq_true', Bool.not_eq_false', Int.not_lt, Int.not_le] at hg) <;> (try (exfalso; omega)) <;> (try (exact absurd hg (by decide))))) | refine o_call (hc := (hA _)) (h := ?_) | refine o_at (h := ?_) | refine o_pick (h := ?_) ) | (refine d_AW (h := ?_) ; first | refine AW.seq (h := ?_) | refine AW.region (h := ?_) | (refine AW.cond (ht := (fun hc => ?_)) (hf := (fun hc => ?_)) <;> (try (with_reducible first | exact absurd hc Bool.false_ne_true | exact absurd hc.symm Bool.false_ne_true)) <;> (try simp only [decide_eq_true_eq, decide_eq_false_iff_not, Int.ofNat_inj, Bool.not_eq_true', Bool.not_eq_false', Int.not_lt, Int.not_le] at hc) <;> (try (exfalso; omega)) <;> (try (exact absurd hc (by decide)))) | refine AW.block (h := ?_) | refine AW.ret (h := ?_) | refine AW.skip (h := ?_) | refine AW.exit (h := ?_) ) | (first | refine t_normal ?_ | refine t_ret ?_ | refine t_exit ?_ | refine b_normal ?_ | refine b_exit ?_ | refine b_exit' (by decide) ?_ | refine b_ret ?_) | (refine d_post (h := ?_) ; first | refine p_ret1 rfl (h := ?_) | refine p_end1 rfl (h := ?_) | refine p_cell1 rfl (h := ?_) ))
  all_goals first | rfl | (simp_all; done)
end Go.Proofs.Ytjghdagcmombnaa

/- Numbers that are not negative: more of them. -/
namespace Go.Proofs.Ytjghdagcmombnaa
open Go.RowKit
attribute [local irreducible] AW AOs AO AQ AQW thenA inBlockA postA ACalls Pure
set_option linter.unusedSimpArgs false
set_option linter.unusedVariables false
set_option linter.unusedSectionVars false

theorem nn_zero : nn 0 := ⟨by decide, by decide⟩
theorem nn_eq {a b : Nat} (ha : nn a) (hb : nn b) (h : fv a = fv b) : a = b := by
  by_cases h0 : fv a = 0
  · obtain ⟨_, _, _, _, h1⟩ := nn_form ha
    obtain ⟨_, _, _, _, h2⟩ := nn_form hb
    rw [h1 h0, h2 (by omega)]
  · exact fv_inj ha.1 hb.1 h h0 (by have := ha.2; omega) (by have := hb.2; omega)
theorem add_zero32 {a : Nat} (ha : nn a) (h1 : fv a ≤ 2 ^ 160) : fadd .f32 a 0 = a := by
  obtain ⟨h2, h3⟩ := nn_add ha nn_zero (by rw [fv_zero]; omega)
  rw [fv_zero, Int.add_zero] at h3
  refine nn_eq h2 ha (Int.le_antisymm (h3.le_of ha.1 (by simp)) (h3.ge_of ha.1 (by simp)))
theorem less_le {a b : Nat} (ha : nn a) (hb : nn b) : nn (less a b) ∧ fv (less a b) ≤ fv a ∧ fv (less a b) ≤ fv b := by
  have := (less_fv ha.1 hb.1).2
  exact ⟨nn_less ha hb, by omega, by omega⟩
/-- A small number: what is meant by nearly. -/
theorem eps_fv : fin32 953267991 = true ∧ 953267991 < 2147483648 ∧ 2 ^ 135 ≤ fv 953267991 ∧ fv 953267991 ≤ 2 ^ 136 := by decide +kernel
end Go.Proofs.Ytjghdagcmombnaa

/- A slice of an array that lies in memory. No program in sight. -/
namespace Go.Proofs.Ytjghdagcmombnaa
open Go.RowKit
set_option linter.unusedSimpArgs false
set_option linter.unusedVariables false

section
variable {P : Program} {ops l : List Oper} {K : St → Prop} {n : Nat} {t : Env} {m : Mem} {d ty : Nat} {pos : String} {af : Array Edge}
theorem o_slArr {at_ len k e : Nat} [ha : ArrT P at_ len k e] {x : Operand} {j o : Nat} (hx : evalA t x = .pointer (some ⟨j, o, none⟩) := by (conv => (lhs; whnf)); first | done | rfl) (hl : len ≠ 0 := by decide) (hd : Nat.blt d n = true := by rfl)
    (h : AOs P ops l K ⟨n, (d, .slice (some ⟨j, o, none⟩) len len) :: t, m⟩) : AOs P ops (⟨some d, .slice at_ x none none none, ty, pos, af, none⟩ :: l) K ⟨n, t, m⟩ :=
  AOs.val (v := .slice (some ⟨j, o, none⟩) len len) rfl hd (fun B0 w0 r a w hs => by
    have hx1 := hs.eval x
    rw [hx] at hx1
    obtain ⟨c, z, he, hr⟩ := hx1.ptr_inv
    obtain ⟨hu, hsz⟩ := arr_facts (P := P) (at_ := at_)
    refine ⟨.slice (some ⟨c, zo none z + o, none⟩) len len, ?_, .base ⟨c, z, len, rfl, hr, .inl ⟨rfl, rfl⟩⟩⟩
    simp [execOp, he, Instr.sliceAt, Instr.sureAddr, Instr.sliceBounds, Instr.sliceBound, run_underlying hu, hsz, addr_add, hl]) h
end
end Go.Proofs.Ytjghdagcmombnaa
