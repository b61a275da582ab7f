/- The fewest phases: what both give. -/
import Derived.Test.YtehmdidkhbmkmaaFw
namespace Go.Proofs.Ytehmdidkhbmkmaa
open Go.RowKit
attribute [local irreducible] AW AOs AO AQ AQW thenA inBlockA postA ACalls Pure
set_option linter.unusedSimpArgs false

theorem coverEndS {fn : Func} {n : Nat} {t : Env} {m : Mem} (M : Mem) (r : List Nat) (x : Nat) {k k2 : Nat} {P : Program} {B : Blk} (hr : fn.results = #[.tmp k, .tmp k2])
    (hv : look t k = .slice (some ⟨M.length + 1, 0, some (1 + r.length)⟩) (1 + r.length) (1 + r.length)) (hv2 : look t k2 = .bool true)
    (hm : m = M ++ [B, ⟨(tab 8 fun i => .bool (nP x i)) ++ phRows r.length (fun q => r.getD q 0), some (1 + r.length), true⟩]) :
    postA P fn (RelA M [1] (.tuple [slL M.length (x :: r), .bool true].toArray) [phL (x :: r)]) .ret ⟨n, t, m⟩ := by
  have e : (x :: r).length = 1 + r.length := by simp; omega
  unfold slL phL phRows
  rw [e, rowsL_cons (fun x : Nat => tab 8 fun i => .bool (nP x i)) 0 r x]
  exact p_allocT hr hv hv2 (Flat.bool _) rfl hm rfl (flat_append (flat_tabs fun i => Flat.bool _) flat_phRows)
theorem coverEndE {fn : Func} {n : Nat} {t : Env} {m : Mem} (M : Mem) {b : Bool} {q : Nat} {G : Mem} {k k2 : Nat} {P : Program} (hr : fn.results = #[.tmp k, .tmp k2])
    (hv : look t k = .slice (some ⟨M.length + q, 0, some 0⟩) 0 0) (hv2 : look t k2 = .bool b) (hm : m = M ++ G) (hq : G[q]? = some ⟨[], some 0, true⟩) :
    postA P fn (RelA M [q] (.tuple [slL M.length [], .bool b].toArray) [phL []]) .ret ⟨n, t, m⟩ :=
  p_allocT hr hv hv2 (Flat.bool _) rfl hm hq flat_phRows

def covR (x : Option (List Nat)) : List Nat := x.getD []
section
variable (f : Nat → Nat) (N : Nat)
set_option maxHeartbeats 4000000 in
theorem scover (hf : ∀ q, q < N → f q < 256) (hN : N ≤ 256) : ∀ (k from_ w j cp : Nat) (tg : Option Nat) (rw' : Bool) (M : Mem), k ≤ 5 → from_ ≤ N → w < 256 → M[j]? = some ⟨phRows N f, tg, rw'⟩ →
    (∀ x, csF f N k (N - from_) w = x → Alloc Try.prog 85 [.slice (some ⟨j, 0, tg⟩) N cp, .int .i64 (w : Int), .int .i64 (from_ : Int), .int .i64 (k : Int)] M (.tuple [slL M.length (covR x), .bool x.isSome].toArray) [phL (covR x)])
  | 0, from_, w, j, cp, tg, rw', M, _, hfr, hw, hb => by
    intro x hx
    simp only [csF] at hx
    by_cases hw0 : w = 0
    · rw [if_pos hw0] at hx
      subst hx
      refine alloc_of [0] Try.func85 Try.ntmps85 rfl rfl rfl (by decide) ?_
      simp only [envOf, Nat.zero_add, Nat.reduceAdd]
      repeat' (first | (refine d_AOs (h := ?_) ; first | refine o_move (h := ?_) | refine o_assign (h := ?_) | refine AOs.nil (h := ?_) | (refine d_bin (h := ?_) ; first | refine o_eqNil (h := ?_) | refine o_addS (h := ?_) | refine o_add (h := ?_) | refine o_lss (h := ?_) | refine o_eqi (h := ?_) | refine o_eqB (h := ?_) | refine o_subS (h := ?_) | refine o_sub (h := ?_) | refine o_bits (h := ?_) )  | refine o_load (h := ?_) | refine o_at (h := ?_) | refine o_len (h := ?_) | refine o_lenS (h := ?_) | refine o_ixS (h := ?_) | refine o_buildS0 (h := ?_) | refine o_buildS (h := ?_) | refine o_app (h := ?_) | refine o_appN (h := ?_) | refine o_app0 (h := ?_) | refine o_ix (h := ?_) | refine o_extract (h := ?_) ) | (refine d_AW (h := ?_) ; first | refine AW.seq (h := ?_) | refine AW.region (h := ?_) | (refine AW.cond (ht := (fun hc => ?_)) (hf := (fun hc => ?_)) <;> (try (with_reducible first | exact absurd hc Bool.false_ne_true | exact absurd hc.symm Bool.false_ne_true)) <;> (try simp only [decide_eq_true_eq, decide_eq_false_iff_not, Int.ofNat_inj, Bool.not_eq_true', Bool.not_eq_false', Int.not_lt, Int.not_le] at hc) <;> (try (exfalso; omega)) <;> (try (exact absurd hc (by decide)))) | refine AW.block (h := ?_) | refine AW.ret (h := ?_) | refine AW.skip (h := ?_) | refine AW.exit (h := ?_) ) | (first | refine t_normal ?_ | refine t_ret ?_ | refine t_exit ?_ | refine b_normal ?_ | refine b_exit ?_ | refine b_exit' (by decide) ?_ | refine b_ret ?_) | (refine d_post (h := ?_) ; first | refine p_ret2 rfl (h := ?_) ))
      exact coverEndE M rfl (by rfl) (by rfl) rfl rfl
    · rw [if_neg hw0] at hx
      subst hx
      refine alloc_of [0] Try.func85 Try.ntmps85 rfl rfl rfl (by decide) ?_
      simp only [envOf, Nat.zero_add, Nat.reduceAdd]
      repeat' (first | (refine d_AOs (h := ?_) ; first | refine o_move (h := ?_) | refine o_assign (h := ?_) | refine AOs.nil (h := ?_) | (refine d_bin (h := ?_) ; first | refine o_eqNil (h := ?_) | refine o_addS (h := ?_) | refine o_add (h := ?_) | refine o_lss (h := ?_) | refine o_eqi (h := ?_) | refine o_eqB (h := ?_) | refine o_subS (h := ?_) | refine o_sub (h := ?_) | refine o_bits (h := ?_) )  | refine o_load (h := ?_) | refine o_at (h := ?_) | refine o_len (h := ?_) | refine o_lenS (h := ?_) | refine o_ixS (h := ?_) | refine o_buildS0 (h := ?_) | refine o_buildS (h := ?_) | refine o_app (h := ?_) | refine o_appN (h := ?_) | refine o_app0 (h := ?_) | refine o_ix (h := ?_) | refine o_extract (h := ?_) ) | (refine d_AW (h := ?_) ; first | refine AW.seq (h := ?_) | refine AW.region (h := ?_) | (refine AW.cond (ht := (fun hc => ?_)) (hf := (fun hc => ?_)) <;> (try (with_reducible first | exact absurd hc Bool.false_ne_true | exact absurd hc.symm Bool.false_ne_true)) <;> (try simp only [decide_eq_true_eq, decide_eq_false_iff_not, Int.ofNat_inj, Bool.not_eq_true', Bool.not_eq_false', Int.not_lt, Int.not_le] at hc) <;> (try (exfalso; omega)) <;> (try (exact absurd hc (by decide)))) | refine AW.block (h := ?_) | refine AW.ret (h := ?_) | refine AW.skip (h := ?_) | refine AW.exit (h := ?_) ) | (first | refine t_normal ?_ | refine t_ret ?_ | refine t_exit ?_ | refine b_normal ?_ | refine b_exit ?_ | refine b_exit' (by decide) ?_ | refine b_ret ?_) | (refine d_post (h := ?_) ; first | refine p_ret2 rfl (h := ?_) ))
      exact coverEndE M rfl (by rfl) (by rfl) rfl rfl
  | k + 1, from_, w, j, cp, tg, rw', M, hk, hfr, hw, hb => by
    have IH := scover hf hN k
    intro x hx
    refine Alloc.closed fun hM => ?_
    have hjl := (List.getElem?_eq_some_iff.1 hb).1
    by_cases hw0 : w = 0
    · simp only [csF] at hx
      rw [if_pos hw0] at hx
      subst hx
      refine alloc_of [0] Try.func85 Try.ntmps85 rfl rfl rfl (by decide) ?_
      simp only [envOf, Nat.zero_add, Nat.reduceAdd]
      repeat' (first | (refine d_AOs (h := ?_) ; first | refine o_move (h := ?_) | refine o_assign (h := ?_) | refine AOs.nil (h := ?_) | (refine d_bin (h := ?_) ; first | refine o_eqNil (h := ?_) | refine o_addS (h := ?_) | refine o_add (h := ?_) | refine o_lss (h := ?_) | refine o_eqi (h := ?_) | refine o_eqB (h := ?_) | refine o_subS (h := ?_) | refine o_sub (h := ?_) | refine o_bits (h := ?_) )  | refine o_load (h := ?_) | refine o_at (h := ?_) | refine o_len (h := ?_) | refine o_lenS (h := ?_) | refine o_ixS (h := ?_) | refine o_buildS0 (h := ?_) | refine o_buildS (h := ?_) | refine o_app (h := ?_) | refine o_appN (h := ?_) | refine o_app0 (h := ?_) | refine o_ix (h := ?_) | refine o_extract (h := ?_) ) | (refine d_AW (h := ?_) ; first | refine AW.seq (h := ?_) | refine AW.region (h := ?_) | (refine AW.cond (ht := (fun hc => ?_)) (hf := (fun hc => ?_)) <;> (try (with_reducible first | exact absurd hc Bool.false_ne_true | exact absurd hc.symm Bool.false_ne_true)) <;> (try simp only [decide_eq_true_eq, decide_eq_false_iff_not, Int.ofNat_inj, Bool.not_eq_true', Bool.not_eq_false', Int.not_lt, Int.not_le] at hc) <;> (try (exfalso; omega)) <;> (try (exact absurd hc (by decide)))) | refine AW.block (h := ?_) | refine AW.ret (h := ?_) | refine AW.skip (h := ?_) | refine AW.exit (h := ?_) ) | (first | refine t_normal ?_ | refine t_ret ?_ | refine t_exit ?_ | refine b_normal ?_ | refine b_exit ?_ | refine b_exit' (by decide) ?_ | refine b_ret ?_) | (refine d_post (h := ?_) ; first | refine p_ret2 rfl (h := ?_) ))
      exact coverEndE M rfl (by rfl) (by rfl) rfl rfl
    · simp only [csF] at hx
      rw [if_neg hw0] at hx
      by_cases hsome : x = none
      · subst hsome
        refine alloc_of [0] Try.func85 Try.ntmps85 rfl rfl rfl (by decide) ?_
        simp only [envOf, Nat.zero_add, Nat.reduceAdd]
        repeat' (first | (refine d_AOs (h := ?_) ; first | refine o_move (h := ?_) | refine o_assign (h := ?_) | refine AOs.nil (h := ?_) | (refine d_bin (h := ?_) ; first | refine o_eqNil (h := ?_) | refine o_addS (h := ?_) | refine o_add (h := ?_) | refine o_lss (h := ?_) | refine o_eqi (h := ?_) | refine o_eqB (h := ?_) | refine o_subS (h := ?_) | refine o_sub (h := ?_) | refine o_bits (h := ?_) )  | refine o_load (h := ?_) | refine o_at (h := ?_) | refine o_len (h := ?_) | refine o_lenS (h := ?_) | refine o_ixS (h := ?_) | refine o_buildS0 (h := ?_) | refine o_buildS (h := ?_) | refine o_app (h := ?_) | refine o_appN (h := ?_) | refine o_app0 (h := ?_) | refine o_ix (h := ?_) | refine o_extract (h := ?_) ) | (refine d_AW (h := ?_) ; first | refine AW.seq (h := ?_) | refine AW.region (h := ?_) | (refine AW.cond (ht := (fun hc => ?_)) (hf := (fun hc => ?_)) <;> (try (with_reducible first | exact absurd hc Bool.false_ne_true | exact absurd hc.symm Bool.false_ne_true)) <;> (try simp only [decide_eq_true_eq, decide_eq_false_iff_not, Int.ofNat_inj, Bool.not_eq_true', Bool.not_eq_false', Int.not_lt, Int.not_le] at hc) <;> (try (exfalso; omega)) <;> (try (exact absurd hc (by decide)))) | refine AW.block (h := ?_) | refine AW.ret (h := ?_) | refine AW.skip (h := ?_) | refine AW.exit (h := ?_) ) | (first | refine t_normal ?_ | refine t_ret ?_ | refine t_exit ?_ | refine b_normal ?_ | refine b_exit ?_ | refine b_exit' (by decide) ?_ | refine b_ret ?_) | (refine d_post (h := ?_) ; first | refine p_ret2 rfl (h := ?_) ))
        refine AW.loopG [0, 1, 3, 10] (fun kk s => ∃ (i : Nat), i + kk = N ∧ ciL (csF f N k) f N w kk = none ∧ s = ⟨51, [(0, .slice (some ⟨j, 0, tg⟩) N cp), (1, .int .i64 (w : Int)), (3, .int .i64 ((k : Int) + 1)), (10, .int .i64 (i : Int))], M⟩) (N - from_) ⟨from_, by omega, hx, rfl⟩ ?_
        rintro kk s ⟨i, hi, hR, rfl⟩
        by_cases hin : i < N
        · obtain ⟨k2, rfl⟩ : ∃ k2, kk = k2 + 1 := ⟨kk - 1, by omega⟩
          have hfi := hf i hin
          have han := and_not hw hfi
          have hal := andN_lt w (f i)
          obtain ⟨hg, hR2⟩ := ciL_none hR
          rw [show N - (k2 + 1) = i by omega] at hg
          have hnp := fun M' => sNumberOfPhase (nP (f i)) M'
          rw [numP_nP hfi] at hnp
          unfold bools at hnp
          have hcall := fun cp' M' h' => IH (i + 1) (andN w (f i)) j cp' tg rw' M' (by omega) (by omega) hal h' none (by rw [show N - (i + 1) = k2 by omega]; exact hg)
          simp only [Option.isSome_none, covR, Option.getD_none] at hcall
          rw [← han, show (k : Int) = (k : Int) + 1 - 1 by omega] at hcall
          repeat' (first | (refine d_AOs (h := ?_) ; first | refine o_move (h := ?_) | refine o_assign (h := ?_) | refine AOs.nil (h := ?_) | (refine d_bin (h := ?_) ; first | refine o_eqNil (h := ?_) | refine o_addS (h := ?_) | refine o_add (h := ?_) | refine o_lss (h := ?_) | refine o_eqi (h := ?_) | refine o_eqB (h := ?_) | refine o_subS (h := ?_) | refine o_sub (h := ?_) | refine o_bits (h := ?_) )  | refine o_call (hc := (hnp _)) (h := ?_) | refine o_callA (hc := (hcall _ _ (by first | (simp only [mem_tail, mem_tail0, List.getElem?_cons_zero, List.getElem?_cons_succ]; first | done | rfl) | exact mem_head (by assumption) | assumption | (simp only [mem_tailS, mem_tailS0, List.getElem?_cons_zero, List.getElem?_cons_succ]; first | done | rfl) | exact mem_set1 (by assumption) | exact mem_set0 (by assumption) | exact mem_setN1 (by assumption) (by assumption) | exact mem_setN (by assumption) (by assumption)))) (h := ?_) | refine o_load (h := ?_) | refine o_at (h := ?_) | refine o_len (h := ?_) | refine o_lenS (h := ?_) | refine o_ixS (h := ?_) | refine o_buildS0 (h := ?_) | refine o_buildS (h := ?_) | refine o_app (h := ?_) | refine o_appN (h := ?_) | refine o_app0 (h := ?_) | refine o_ix (h := ?_) | refine o_extract (h := ?_) ) | (refine d_AW (h := ?_) ; first | refine AW.seq (h := ?_) | refine AW.region (h := ?_) | (refine AW.cond (ht := (fun hc => ?_)) (hf := (fun hc => ?_)) <;> (try (with_reducible first | exact absurd hc Bool.false_ne_true | exact absurd hc.symm Bool.false_ne_true)) <;> (try simp only [decide_eq_true_eq, decide_eq_false_iff_not, Int.ofNat_inj, Bool.not_eq_true', Bool.not_eq_false', Int.not_lt, Int.not_le] at hc) <;> (try (exfalso; omega)) <;> (try (exact absurd hc (by decide)))) | refine AW.block (h := ?_) | refine AW.ret (h := ?_) | refine AW.skip (h := ?_) | refine AW.exit (h := ?_) ) | (first | refine t_normal ?_ | refine t_ret ?_ | refine t_exit ?_ | refine b_normal ?_ | refine b_exit ?_ | refine b_exit' (by decide) ?_ | refine b_ret ?_) | (refine d_post (h := ?_) ; first | refine p_ret2 rfl (h := ?_) ))
          exact ⟨k2, M, _, by omega, rfl, Nat.le_refl _, hM, (by repeat' (first | exact True.intro | refine And.intro ?_ ?_ | exact Bel.flat (Flat.int _ _) | exact Bel.flat (Flat.bool _) | exact Bel.flat (Flat.float _ _) | exact Bel.flat (Flat.string _) | refine Bel.sl ?_ | refine Bel.ptr ?_ | (first | assumption | omega | exact (List.getElem?_eq_some_iff.1 (by assumption)).1 | (simp only [List.length_append, List.length_cons, List.length_nil]; omega)))), i + 1, by omega, hR2, rfl⟩
        · repeat' (first | (refine d_AOs (h := ?_) ; first | refine o_move (h := ?_) | refine o_assign (h := ?_) | refine AOs.nil (h := ?_) | (refine d_bin (h := ?_) ; first | refine o_eqNil (h := ?_) | refine o_addS (h := ?_) | refine o_add (h := ?_) | refine o_lss (h := ?_) | refine o_eqi (h := ?_) | refine o_eqB (h := ?_) | refine o_subS (h := ?_) | refine o_sub (h := ?_) | refine o_bits (h := ?_) )  | refine o_load (h := ?_) | refine o_at (h := ?_) | refine o_len (h := ?_) | refine o_lenS (h := ?_) | refine o_ixS (h := ?_) | refine o_buildS0 (h := ?_) | refine o_buildS (h := ?_) | refine o_app (h := ?_) | refine o_appN (h := ?_) | refine o_app0 (h := ?_) | refine o_ix (h := ?_) | refine o_extract (h := ?_) ) | (refine d_AW (h := ?_) ; first | refine AW.seq (h := ?_) | refine AW.region (h := ?_) | (refine AW.cond (ht := (fun hc => ?_)) (hf := (fun hc => ?_)) <;> (try (with_reducible first | exact absurd hc Bool.false_ne_true | exact absurd hc.symm Bool.false_ne_true)) <;> (try simp only [decide_eq_true_eq, decide_eq_false_iff_not, Int.ofNat_inj, Bool.not_eq_true', Bool.not_eq_false', Int.not_lt, Int.not_le] at hc) <;> (try (exfalso; omega)) <;> (try (exact absurd hc (by decide)))) | refine AW.block (h := ?_) | refine AW.ret (h := ?_) | refine AW.skip (h := ?_) | refine AW.exit (h := ?_) ) | (first | refine t_normal ?_ | refine t_ret ?_ | refine t_exit ?_ | refine b_normal ?_ | refine b_exit ?_ | refine b_exit' (by decide) ?_ | refine b_ret ?_) | (refine d_post (h := ?_) ; first | refine p_ret2 rfl (h := ?_) ))
          exact coverEndE M rfl (by rfl) (by rfl) rfl rfl
      · obtain ⟨r, rfl⟩ : ∃ r, x = some r := by cases x with | none => exact (hsome rfl).elim | some r => exact ⟨r, rfl⟩
        refine alloc_of [1] Try.func85 Try.ntmps85 rfl rfl rfl (by decide) ?_
        simp only [envOf, Nat.zero_add, Nat.reduceAdd]
        repeat' (first | (refine d_AOs (h := ?_) ; first | refine o_move (h := ?_) | refine o_assign (h := ?_) | refine AOs.nil (h := ?_) | (refine d_bin (h := ?_) ; first | refine o_eqNil (h := ?_) | refine o_addS (h := ?_) | refine o_add (h := ?_) | refine o_lss (h := ?_) | refine o_eqi (h := ?_) | refine o_eqB (h := ?_) | refine o_subS (h := ?_) | refine o_sub (h := ?_) | refine o_bits (h := ?_) )  | refine o_load (h := ?_) | refine o_at (h := ?_) | refine o_len (h := ?_) | refine o_lenS (h := ?_) | refine o_ixS (h := ?_) | refine o_buildS0 (h := ?_) | refine o_buildS (h := ?_) | refine o_app (h := ?_) | refine o_appN (h := ?_) | refine o_app0 (h := ?_) | refine o_ix (h := ?_) | refine o_extract (h := ?_) ) | (refine d_AW (h := ?_) ; first | refine AW.seq (h := ?_) | refine AW.region (h := ?_) | (refine AW.cond (ht := (fun hc => ?_)) (hf := (fun hc => ?_)) <;> (try (with_reducible first | exact absurd hc Bool.false_ne_true | exact absurd hc.symm Bool.false_ne_true)) <;> (try simp only [decide_eq_true_eq, decide_eq_false_iff_not, Int.ofNat_inj, Bool.not_eq_true', Bool.not_eq_false', Int.not_lt, Int.not_le] at hc) <;> (try (exfalso; omega)) <;> (try (exact absurd hc (by decide)))) | refine AW.block (h := ?_) | refine AW.ret (h := ?_) | refine AW.skip (h := ?_) | refine AW.exit (h := ?_) ) | (first | refine t_normal ?_ | refine t_ret ?_ | refine t_exit ?_ | refine b_normal ?_ | refine b_exit ?_ | refine b_exit' (by decide) ?_ | refine b_ret ?_) | (refine d_post (h := ?_) ; first | refine p_ret2 rfl (h := ?_) ))
        refine AW.loopG [0, 1, 3, 10] (fun kk s => ∃ (i : Nat), i + kk = N ∧ ciL (csF f N k) f N w kk = some r ∧ s = ⟨51, [(0, .slice (some ⟨j, 0, tg⟩) N cp), (1, .int .i64 (w : Int)), (3, .int .i64 ((k : Int) + 1)), (10, .int .i64 (i : Int))], M⟩) (N - from_) ⟨from_, by omega, hx, rfl⟩ ?_
        rintro kk s ⟨i, hi, hR, rfl⟩
        by_cases hin : i < N
        · obtain ⟨k2, rfl⟩ : ∃ k2, kk = k2 + 1 := ⟨kk - 1, by omega⟩
          have hfi := hf i hin
          have han := and_not hw hfi
          have hal := andN_lt w (f i)
          simp only [ciL, show N - (k2 + 1) = i by omega] at hR
          have hnp := fun M' => sNumberOfPhase (nP (f i)) M'
          rw [numP_nP hfi] at hnp
          unfold bools at hnp
          cases hg : csF f N k k2 (andN w (f i)) with
          | none =>
            rw [hg] at hR
            have hcall := fun cp' M' h' => IH (i + 1) (andN w (f i)) j cp' tg rw' M' (by omega) (by omega) hal h' none (by rw [show N - (i + 1) = k2 by omega]; exact hg)
            simp only [Option.isSome_none, covR, Option.getD_none] at hcall
            rw [← han, show (k : Int) = (k : Int) + 1 - 1 by omega] at hcall
            repeat' (first | (refine d_AOs (h := ?_) ; first | refine o_move (h := ?_) | refine o_assign (h := ?_) | refine AOs.nil (h := ?_) | (refine d_bin (h := ?_) ; first | refine o_eqNil (h := ?_) | refine o_addS (h := ?_) | refine o_add (h := ?_) | refine o_lss (h := ?_) | refine o_eqi (h := ?_) | refine o_eqB (h := ?_) | refine o_subS (h := ?_) | refine o_sub (h := ?_) | refine o_bits (h := ?_) )  | refine o_call (hc := (hnp _)) (h := ?_) | refine o_callA (hc := (hcall _ _ (by first | (simp only [mem_tail, mem_tail0, List.getElem?_cons_zero, List.getElem?_cons_succ]; first | done | rfl) | exact mem_head (by assumption) | assumption | (simp only [mem_tailS, mem_tailS0, List.getElem?_cons_zero, List.getElem?_cons_succ]; first | done | rfl) | exact mem_set1 (by assumption) | exact mem_set0 (by assumption) | exact mem_setN1 (by assumption) (by assumption) | exact mem_setN (by assumption) (by assumption)))) (h := ?_) | refine o_load (h := ?_) | refine o_at (h := ?_) | refine o_len (h := ?_) | refine o_lenS (h := ?_) | refine o_ixS (h := ?_) | refine o_buildS0 (h := ?_) | refine o_buildS (h := ?_) | refine o_app (h := ?_) | refine o_appN (h := ?_) | refine o_app0 (h := ?_) | refine o_ix (h := ?_) | refine o_extract (h := ?_) ) | (refine d_AW (h := ?_) ; first | refine AW.seq (h := ?_) | refine AW.region (h := ?_) | (refine AW.cond (ht := (fun hc => ?_)) (hf := (fun hc => ?_)) <;> (try (with_reducible first | exact absurd hc Bool.false_ne_true | exact absurd hc.symm Bool.false_ne_true)) <;> (try simp only [decide_eq_true_eq, decide_eq_false_iff_not, Int.ofNat_inj, Bool.not_eq_true', Bool.not_eq_false', Int.not_lt, Int.not_le] at hc) <;> (try (exfalso; omega)) <;> (try (exact absurd hc (by decide)))) | refine AW.block (h := ?_) | refine AW.ret (h := ?_) | refine AW.skip (h := ?_) | refine AW.exit (h := ?_) ) | (first | refine t_normal ?_ | refine t_ret ?_ | refine t_exit ?_ | refine b_normal ?_ | refine b_exit ?_ | refine b_exit' (by decide) ?_ | refine b_ret ?_) | (refine d_post (h := ?_) ; first | refine p_ret2 rfl (h := ?_) ))
            exact ⟨k2, M, _, by omega, rfl, Nat.le_refl _, hM, (by repeat' (first | exact True.intro | refine And.intro ?_ ?_ | exact Bel.flat (Flat.int _ _) | exact Bel.flat (Flat.bool _) | exact Bel.flat (Flat.float _ _) | exact Bel.flat (Flat.string _) | refine Bel.sl ?_ | refine Bel.ptr ?_ | (first | assumption | omega | exact (List.getElem?_eq_some_iff.1 (by assumption)).1 | (simp only [List.length_append, List.length_cons, List.length_nil]; omega)))), i + 1, by omega, hR, rfl⟩
          | some r' =>
            rw [hg] at hR
            obtain rfl : f i :: r' = r := by simpa using hR
            have hcall := fun cp' M' h' => IH (i + 1) (andN w (f i)) j cp' tg rw' M' (by omega) (by omega) hal h' (some r') (by rw [show N - (i + 1) = k2 by omega]; exact hg)
            simp only [Option.isSome_some, covR, Option.getD_some] at hcall
            rw [← han, show (k : Int) = (k : Int) + 1 - 1 by omega] at hcall
            have hrl := (csF_mem f N k _ _ r' (by omega) hg).1
            have hcl : (tab 8 fun q => Value.bool (nP (f i) q)).length = 1 * 8 := tab_len _ _
            have hrr : (phRows r'.length (fun q => r'.getD q 0)).length = r'.length * 8 := rows_len fun q _ => tab_len _ _
            have hro : (phRows r'.length (fun q => r'.getD q 0)).all one = true := rows_one fun q => tab_one fun _ => rfl
            have hwi : ((phRows r'.length (fun q => r'.getD q 0)).drop 0).take (r'.length * 8) = phRows r'.length (fun q => r'.getD q 0) := by
              rw [List.drop_zero, List.take_of_length_le (by rw [hrr]; exact Nat.le_refl _)]
            repeat' (first | (refine d_AOs (h := ?_) ; first | refine o_move (h := ?_) | refine o_assign (h := ?_) | refine AOs.nil (h := ?_) | (refine d_bin (h := ?_) ; first | refine o_eqNil (h := ?_) | refine o_addS (h := ?_) | refine o_add (h := ?_) | refine o_lss (h := ?_) | refine o_eqi (h := ?_) | refine o_eqB (h := ?_) | refine o_subS (h := ?_) | refine o_sub (h := ?_) | refine o_bits (h := ?_) )  | refine o_call (hc := (hnp _)) (h := ?_) | refine o_callA (hc := (hcall _ _ (by first | (simp only [mem_tail, mem_tail0, List.getElem?_cons_zero, List.getElem?_cons_succ]; first | done | rfl) | exact mem_head (by assumption) | assumption | (simp only [mem_tailS, mem_tailS0, List.getElem?_cons_zero, List.getElem?_cons_succ]; first | done | rfl) | exact mem_set1 (by assumption) | exact mem_set0 (by assumption) | exact mem_setN1 (by assumption) (by assumption) | exact mem_setN (by assumption) (by assumption)))) (h := ?_) | refine o_buildS1M (h := ?_) | refine o_app (hys := by exact hwi) (hlc := by exact hcl) (hly := by exact hrr) (hone := by exact hro) (h := ?_) | refine o_load (h := ?_) | refine o_at (h := ?_) | refine o_len (h := ?_) | refine o_lenS (h := ?_) | refine o_ixS (h := ?_) | refine o_buildS0 (h := ?_) | refine o_buildS (h := ?_) | refine o_app (h := ?_) | refine o_appN (h := ?_) | refine o_app0 (h := ?_) | refine o_ix (h := ?_) | refine o_extract (h := ?_) ) | (refine d_AW (h := ?_) ; first | refine AW.seq (h := ?_) | refine AW.region (h := ?_) | (refine AW.cond (ht := (fun hc => ?_)) (hf := (fun hc => ?_)) <;> (try (with_reducible first | exact absurd hc Bool.false_ne_true | exact absurd hc.symm Bool.false_ne_true)) <;> (try simp only [decide_eq_true_eq, decide_eq_false_iff_not, Int.ofNat_inj, Bool.not_eq_true', Bool.not_eq_false', Int.not_lt, Int.not_le] at hc) <;> (try (exfalso; omega)) <;> (try (exact absurd hc (by decide)))) | refine AW.block (h := ?_) | refine AW.ret (h := ?_) | refine AW.skip (h := ?_) | refine AW.exit (h := ?_) ) | (first | refine t_normal ?_ | refine t_ret ?_ | refine t_exit ?_ | refine b_normal ?_ | refine b_exit ?_ | refine b_exit' (by decide) ?_ | refine b_ret ?_) | (refine d_post (h := ?_) ; first | refine p_ret2 rfl (h := ?_) ))
            exact coverEndS M r' (f i) rfl (by rfl) (by rfl) rfl
        · obtain rfl : kk = 0 := by omega
          simp [ciL] at hR
end

/-! ### The whole search -/
abbrev fewI (c p : Nat → Bool) : Option (List Nat) := fewR (fun k => ciF (gF c) (gL c 256).length k (gL c 256).length (numP p 8)) 5 0
abbrev fewS (c p : Nat → Bool) : Option (List Nat) := fewR (fun k => csF (gF c) (gL c 256).length k (gL c 256).length (numP p 8)) 5 0
theorem few_eq (c p : Nat → Bool) : fewI c p = fewS c p := few_same _ _ _ 5 0 (.inl rfl)
theorem few_mem {g : Nat → Option (List Nat)} {Q : List Nat → Prop} (hg : ∀ k r, g k = some r → k ≤ 4 → Q r) : ∀ (n k : Nat) (r : List Nat), k + n ≤ 5 → fewR g n k = some r → Q r
  | 0, k, r, _, h => by simp [fewR] at h
  | n + 1, k, r, hk, h => by
    simp only [fewR] at h
    cases hc : g k with
    | none => rw [hc] at h; exact few_mem hg n (k + 1) r (by omega) h
    | some x => rw [hc] at h; obtain rfl : x = r := by simpa using h
                exact hg k x hc (by omega)
theorem fewI_ok {c p : Nat → Bool} {r : List Nat} (h : fewI c p = some r) : r.length ≤ 4 ∧ ∀ x ∈ r, x < 256 := by
  refine few_mem (Q := fun r => r.length ≤ 4 ∧ ∀ x ∈ r, x < 256) (fun k r hk hk4 => ?_) 5 0 r (by omega) h
  obtain ⟨h1, h2⟩ := ciF_mem (gF c) (gL c 256).length k _ _ r (Nat.le_refl _) hk
  refine ⟨by omega, fun x hx => ?_⟩
  obtain ⟨q, hq, rfl⟩ := h2 x hx
  exact gL_lt hq
theorem getD_lt {r : List Nat} (h : ∀ x ∈ r, x < 256) (q : Nat) (hq : q < r.length) : r.getD q 0 < 256 := by
  rw [List.getD_eq_getElem?_getD, List.getElem?_eq_getElem hq]
  exact h _ (List.getElem_mem hq)

section
variable (c p : Nat → Bool)
set_option maxHeartbeats 4000000 in
theorem iFewNone (M : Mem) (hv : tabOk c = true) (hR : fewI c p = none) : Pure Try.prog 24 [.agg (tab 64 fun i => .bool (c i)).toArray, .agg (tab 8 fun i => .bool (p i)).toArray] M (.tuple [.slice none 0 0, .int .i64 3].toArray) := by
  refine pure_of Try.func24 Try.ntmps24 rfl rfl (flat_tuple (flat_cons (Flat.nilSlice _ _) (flat_cons (Flat.int _ _) flat_nil))) ?_
  have hV := fun M => iValidTable c M
  rw [hv] at hV
  have hL := gL_len c 256
  have hw := numP_le p (i := 8) (by omega)
  have hN := fun M => iNumberOfPhase p M
  have hGr := fun M => igreatest c M
  unfold fewI at hR
  unfold bools at hN
  have hflt : ∀ q, q < (gL c 256).length → gF c q < 256 := fun q hq => gL_lt hq
  have hcov := icover (gF c) (gL c 256).length hflt hL
  generalize numP p 8 = w at *
  generalize hLe : (gL c 256).length = L at *
  generalize hfe : gF c = f at *
  have hGr2 : ∀ M, Alloc Try.prog 88 [.agg (tab 64 fun i => .bool (c i)).toArray] M (.slice (some ⟨M.length, 0, some L⟩) L L) [(⟨tab L (fun q => .int .i64 ((f q : Nat) : Int)), some L, true⟩ : Blk)] := by
    intro M'
    rw [← hfe]; exact hGr M'
  simp only [envOf, Nat.zero_add, Nat.reduceAdd]
  repeat' (first | (refine d_AOs (h := ?_) ; first | refine o_move (h := ?_) | refine o_assign (h := ?_) | refine AOs.nil (h := ?_) | (refine d_bin (h := ?_) ; first | refine o_addS (h := ?_) | refine o_add (h := ?_) | refine o_lss (h := ?_) )  | refine o_call (hc := (hV _)) (h := ?_) | refine o_callA (hc := (hGr2 _)) (h := ?_) | refine o_load (h := ?_) | refine o_at (h := ?_) | refine o_not (h := ?_) | refine o_box (h := ?_) | refine o_extract (h := ?_) ) | (refine d_AW (h := ?_) ; first | refine AW.seq (h := ?_) | refine AW.region (h := ?_) | (refine AW.cond (ht := (fun hc => ?_)) (hf := (fun hc => ?_)) <;> (try (with_reducible first | exact absurd hc Bool.false_ne_true | exact absurd hc.symm Bool.false_ne_true)) <;> (try simp only [decide_eq_true_eq, decide_eq_false_iff_not, Int.ofNat_inj, Bool.not_eq_true', Bool.not_eq_false', Int.not_lt, Int.not_le] at hc) <;> (try (exfalso; omega)) <;> (try (exact absurd hc (by decide)))) | refine AW.block (h := ?_) | refine AW.ret (h := ?_) | refine AW.skip (h := ?_) | refine AW.exit (h := ?_) ) | (first | refine t_normal ?_ | refine t_ret ?_ | refine t_exit ?_ | refine b_normal ?_ | refine b_exit ?_ | refine b_exit' (by decide) ?_ | refine b_ret ?_) | (refine d_post (h := ?_) ; first | refine p_ret2 rfl (h := ?_) ))
  refine AW.loopN [3, 6, 15] (fun k s => ∃ (i : Nat), i + k = 5 ∧ fewR (fun k => ciF f L k L w) k i = none ∧ s = ⟨30, [(3, .pointer (some ⟨M.length + 1, 0, none⟩)), (6, .slice (some ⟨M.length + 2, 0, some L⟩) L L), (15, .int .i64 (i : Int))], M ++ [⟨tab 64 fun i => .bool (c i), none, true⟩, ⟨tab 8 fun i => .bool (p i), none, true⟩, ⟨tab L (fun q => .int .i64 ((f q : Nat) : Int)), some L, true⟩]⟩) 5 ⟨0, by omega, hR, rfl⟩ ?_
  rintro k s ⟨i, hi, hT, rfl⟩
  by_cases hin : i < 5
  · obtain ⟨k', rfl⟩ : ∃ k', k = k' + 1 := ⟨k - 1, by omega⟩
    simp only [fewR] at hT
    cases hg : ciF f L i L w with
    | some r => rw [hg] at hT; cases hT
    | none =>
      rw [hg] at hT
      have hcall := fun a M' h' => (hcov i a L w M' (by omega) (Nat.le_refl _) hw h').1 hg
      repeat' (first | (refine d_AOs (h := ?_) ; first | refine o_move (h := ?_) | refine o_assign (h := ?_) | refine AOs.nil (h := ?_) | (refine d_bin (h := ?_) ; first | refine o_addS (h := ?_) | refine o_add (h := ?_) | refine o_lss (h := ?_) )  | refine o_call (hc := (hN _)) (h := ?_) | refine o_call (hc := (hcall _ _ (fun _ => ⟨_, _, _, _, rfl, by omega, (by first | (simp only [mem_tail, mem_tail0, List.getElem?_cons_zero, List.getElem?_cons_succ]; first | done | rfl) | exact mem_head (by assumption) | assumption | (simp only [mem_tailS, mem_tailS0, List.getElem?_cons_zero, List.getElem?_cons_succ]; first | done | rfl) | exact mem_set1 (by assumption) | exact mem_set0 (by assumption) | exact mem_setN1 (by assumption) (by assumption) | exact mem_setN (by assumption) (by assumption))⟩))) (h := ?_) | refine o_load (h := ?_) | refine o_at (h := ?_) | refine o_not (h := ?_) | refine o_box (h := ?_) | refine o_extract (h := ?_) ) | (refine d_AW (h := ?_) ; first | refine AW.seq (h := ?_) | refine AW.region (h := ?_) | (refine AW.cond (ht := (fun hc => ?_)) (hf := (fun hc => ?_)) <;> (try (with_reducible first | exact absurd hc Bool.false_ne_true | exact absurd hc.symm Bool.false_ne_true)) <;> (try simp only [decide_eq_true_eq, decide_eq_false_iff_not, Int.ofNat_inj, Bool.not_eq_true', Bool.not_eq_false', Int.not_lt, Int.not_le] at hc) <;> (try (exfalso; omega)) <;> (try (exact absurd hc (by decide)))) | refine AW.block (h := ?_) | refine AW.ret (h := ?_) | refine AW.skip (h := ?_) | refine AW.exit (h := ?_) ) | (first | refine t_normal ?_ | refine t_ret ?_ | refine t_exit ?_ | refine b_normal ?_ | refine b_exit ?_ | refine b_exit' (by decide) ?_ | refine b_ret ?_) | (refine d_post (h := ?_) ; first | refine p_ret2 rfl (h := ?_) ))
      exact ⟨k', by omega, i + 1, by omega, hT, rfl⟩
  · repeat' (first | (refine d_AOs (h := ?_) ; first | refine o_move (h := ?_) | refine o_assign (h := ?_) | refine AOs.nil (h := ?_) | (refine d_bin (h := ?_) ; first | refine o_addS (h := ?_) | refine o_add (h := ?_) | refine o_lss (h := ?_) )  | refine o_load (h := ?_) | refine o_at (h := ?_) | refine o_not (h := ?_) | refine o_box (h := ?_) | refine o_extract (h := ?_) ) | (refine d_AW (h := ?_) ; first | refine AW.seq (h := ?_) | refine AW.region (h := ?_) | (refine AW.cond (ht := (fun hc => ?_)) (hf := (fun hc => ?_)) <;> (try (with_reducible first | exact absurd hc Bool.false_ne_true | exact absurd hc.symm Bool.false_ne_true)) <;> (try simp only [decide_eq_true_eq, decide_eq_false_iff_not, Int.ofNat_inj, Bool.not_eq_true', Bool.not_eq_false', Int.not_lt, Int.not_le] at hc) <;> (try (exfalso; omega)) <;> (try (exact absurd hc (by decide)))) | refine AW.block (h := ?_) | refine AW.ret (h := ?_) | refine AW.skip (h := ?_) | refine AW.exit (h := ?_) ) | (first | refine t_normal ?_ | refine t_ret ?_ | refine t_exit ?_ | refine b_normal ?_ | refine b_exit ?_ | refine b_exit' (by decide) ?_ | refine b_ret ?_) | (refine d_post (h := ?_) ; first | refine p_ret2 rfl (h := ?_) ))
    all_goals rfl
set_option maxHeartbeats 4000000 in
theorem iFewSome (M : Mem) (hv : tabOk c = true) (r : List Nat) (hR : fewI c p = some r) : Alloc Try.prog 24 [.agg (tab 64 fun i => .bool (c i)).toArray, .agg (tab 8 fun i => .bool (p i)).toArray] M (.tuple [slL M.length r, .int .i64 0].toArray) [phL r] := by
  refine alloc_of [4] Try.func24 Try.ntmps24 rfl rfl rfl (by decide) ?_
  have hV := fun M => iValidTable c M
  rw [hv] at hV
  have hL := gL_len c 256
  have hw := numP_le p (i := 8) (by omega)
  have hN := fun M => iNumberOfPhase p M
  have hGr := fun M => igreatest c M
  obtain ⟨hr1, hr2⟩ := fewI_ok hR
  have hP := fun a cp M h => iphasesOf a r.length cp (fun q => r.getD q 0) (fun q hq => getD_lt hr2 q hq) M (by omega) h
  unfold fewI at hR
  unfold bools at hN
  have hflt : ∀ q, q < (gL c 256).length → gF c q < 256 := fun q hq => gL_lt hq
  have hcov := icover (gF c) (gL c 256).length hflt hL
  generalize numP p 8 = w at *
  generalize hLe : (gL c 256).length = L at *
  generalize hfe : gF c = f at *
  have hGr2 : ∀ M, Alloc Try.prog 88 [.agg (tab 64 fun i => .bool (c i)).toArray] M (.slice (some ⟨M.length, 0, some L⟩) L L) [(⟨tab L (fun q => .int .i64 ((f q : Nat) : Int)), some L, true⟩ : Blk)] := by
    intro M'
    rw [← hfe]; exact hGr M'
  simp only [envOf, Nat.zero_add, Nat.reduceAdd]
  repeat' (first | (refine d_AOs (h := ?_) ; first | refine o_move (h := ?_) | refine o_assign (h := ?_) | refine AOs.nil (h := ?_) | (refine d_bin (h := ?_) ; first | refine o_addS (h := ?_) | refine o_add (h := ?_) | refine o_lss (h := ?_) )  | refine o_call (hc := (hV _)) (h := ?_) | refine o_callA (hc := (hGr2 _)) (h := ?_) | refine o_load (h := ?_) | refine o_at (h := ?_) | refine o_not (h := ?_) | refine o_box (h := ?_) | refine o_extract (h := ?_) ) | (refine d_AW (h := ?_) ; first | refine AW.seq (h := ?_) | refine AW.region (h := ?_) | (refine AW.cond (ht := (fun hc => ?_)) (hf := (fun hc => ?_)) <;> (try (with_reducible first | exact absurd hc Bool.false_ne_true | exact absurd hc.symm Bool.false_ne_true)) <;> (try simp only [decide_eq_true_eq, decide_eq_false_iff_not, Int.ofNat_inj, Bool.not_eq_true', Bool.not_eq_false', Int.not_lt, Int.not_le] at hc) <;> (try (exfalso; omega)) <;> (try (exact absurd hc (by decide)))) | refine AW.block (h := ?_) | refine AW.ret (h := ?_) | refine AW.skip (h := ?_) | refine AW.exit (h := ?_) ) | (first | refine t_normal ?_ | refine t_ret ?_ | refine t_exit ?_ | refine b_normal ?_ | refine b_exit ?_ | refine b_exit' (by decide) ?_ | refine b_ret ?_) | (refine d_post (h := ?_) ; first | refine p_ret2 rfl (h := ?_) ))
  refine AW.loopN [3, 6, 15] (fun k s => ∃ (i : Nat), i + k = 5 ∧ fewR (fun k => ciF f L k L w) k i = some r ∧ s = ⟨30, [(3, .pointer (some ⟨M.length + 1, 0, none⟩)), (6, .slice (some ⟨M.length + 2, 0, some L⟩) L L), (15, .int .i64 (i : Int))], M ++ [⟨tab 64 fun i => .bool (c i), none, true⟩, ⟨tab 8 fun i => .bool (p i), none, true⟩, ⟨tab L (fun q => .int .i64 ((f q : Nat) : Int)), some L, true⟩]⟩) 5 ⟨0, by omega, hR, rfl⟩ ?_
  rintro k s ⟨i, hi, hT, rfl⟩
  by_cases hin : i < 5
  · obtain ⟨k', rfl⟩ : ∃ k', k = k' + 1 := ⟨k - 1, by omega⟩
    simp only [fewR] at hT
    cases hg : ciF f L i L w with
    | none =>
      rw [hg] at hT
      have hcall := fun a M' h' => (hcov i a L w M' (by omega) (Nat.le_refl _) hw h').1 hg
      repeat' (first | (refine d_AOs (h := ?_) ; first | refine o_move (h := ?_) | refine o_assign (h := ?_) | refine AOs.nil (h := ?_) | (refine d_bin (h := ?_) ; first | refine o_addS (h := ?_) | refine o_add (h := ?_) | refine o_lss (h := ?_) )  | refine o_call (hc := (hN _)) (h := ?_) | refine o_call (hc := (hcall _ _ (fun _ => ⟨_, _, _, _, rfl, by omega, (by first | (simp only [mem_tail, mem_tail0, List.getElem?_cons_zero, List.getElem?_cons_succ]; first | done | rfl) | exact mem_head (by assumption) | assumption | (simp only [mem_tailS, mem_tailS0, List.getElem?_cons_zero, List.getElem?_cons_succ]; first | done | rfl) | exact mem_set1 (by assumption) | exact mem_set0 (by assumption) | exact mem_setN1 (by assumption) (by assumption) | exact mem_setN (by assumption) (by assumption))⟩))) (h := ?_) | refine o_load (h := ?_) | refine o_at (h := ?_) | refine o_not (h := ?_) | refine o_box (h := ?_) | refine o_extract (h := ?_) ) | (refine d_AW (h := ?_) ; first | refine AW.seq (h := ?_) | refine AW.region (h := ?_) | (refine AW.cond (ht := (fun hc => ?_)) (hf := (fun hc => ?_)) <;> (try (with_reducible first | exact absurd hc Bool.false_ne_true | exact absurd hc.symm Bool.false_ne_true)) <;> (try simp only [decide_eq_true_eq, decide_eq_false_iff_not, Int.ofNat_inj, Bool.not_eq_true', Bool.not_eq_false', Int.not_lt, Int.not_le] at hc) <;> (try (exfalso; omega)) <;> (try (exact absurd hc (by decide)))) | refine AW.block (h := ?_) | refine AW.ret (h := ?_) | refine AW.skip (h := ?_) | refine AW.exit (h := ?_) ) | (first | refine t_normal ?_ | refine t_ret ?_ | refine t_exit ?_ | refine b_normal ?_ | refine b_exit ?_ | refine b_exit' (by decide) ?_ | refine b_ret ?_) | (refine d_post (h := ?_) ; first | refine p_ret2 rfl (h := ?_) ))
      exact ⟨k', by omega, i + 1, by omega, hT, rfl⟩
    | some r' =>
      rw [hg] at hT
      obtain rfl : r' = r := by simpa using hT
      have hcall := fun a M' h' => (hcov i a L w M' (by omega) (Nat.le_refl _) hw h').2 r' hg
      repeat' (first | (refine d_AOs (h := ?_) ; first | refine o_move (h := ?_) | refine o_assign (h := ?_) | refine AOs.nil (h := ?_) | (refine d_bin (h := ?_) ; first | refine o_addS (h := ?_) | refine o_add (h := ?_) | refine o_lss (h := ?_) )  | refine o_call (hc := (hN _)) (h := ?_) | refine o_callA (hc := (hcall _ _ (fun _ => ⟨_, _, _, _, rfl, by omega, (by first | (simp only [mem_tail, mem_tail0, List.getElem?_cons_zero, List.getElem?_cons_succ]; first | done | rfl) | exact mem_head (by assumption) | assumption | (simp only [mem_tailS, mem_tailS0, List.getElem?_cons_zero, List.getElem?_cons_succ]; first | done | rfl) | exact mem_set1 (by assumption) | exact mem_set0 (by assumption) | exact mem_setN1 (by assumption) (by assumption) | exact mem_setN (by assumption) (by assumption))⟩))) (h := ?_) | refine o_callA (hc := (hP _ _ _ (SlAt.of (by first | (simp only [mem_tail, mem_tail0, List.getElem?_cons_zero, List.getElem?_cons_succ]; first | done | rfl) | exact mem_head (by assumption) | assumption | (simp only [mem_tailS, mem_tailS0, List.getElem?_cons_zero, List.getElem?_cons_succ]; first | done | rfl) | exact mem_set1 (by assumption) | exact mem_set0 (by assumption) | exact mem_setN1 (by assumption) (by assumption) | exact mem_setN (by assumption) (by assumption))))) (h := ?_) | refine o_load (h := ?_) | refine o_at (h := ?_) | refine o_not (h := ?_) | refine o_box (h := ?_) | refine o_extract (h := ?_) ) | (refine d_AW (h := ?_) ; first | refine AW.seq (h := ?_) | refine AW.region (h := ?_) | (refine AW.cond (ht := (fun hc => ?_)) (hf := (fun hc => ?_)) <;> (try (with_reducible first | exact absurd hc Bool.false_ne_true | exact absurd hc.symm Bool.false_ne_true)) <;> (try simp only [decide_eq_true_eq, decide_eq_false_iff_not, Int.ofNat_inj, Bool.not_eq_true', Bool.not_eq_false', Int.not_lt, Int.not_le] at hc) <;> (try (exfalso; omega)) <;> (try (exact absurd hc (by decide)))) | refine AW.block (h := ?_) | refine AW.ret (h := ?_) | refine AW.skip (h := ?_) | refine AW.exit (h := ?_) ) | (first | refine t_normal ?_ | refine t_ret ?_ | refine t_exit ?_ | refine b_normal ?_ | refine b_exit ?_ | refine b_exit' (by decide) ?_ | refine b_ret ?_) | (refine d_post (h := ?_) ; first | refine p_ret2 rfl (h := ?_) ))
      exact p_allocT rfl (by rfl) (by rfl) (by repeat' (first | exact Flat.bool _ | exact Flat.int _ _ | exact Flat.float _ _ | exact Flat.string _ | exact flat_nil | exact flat_tabL (fun _ => Flat.bool _) | exact flat_tabL (fun _ => Flat.int _ _) | exact flat_tabL (fun _ => Flat.float _ _) | refine flat_tuple ?_ | refine flat_agg ?_ | refine flat_cons ?_ ?_ | refine flat_append ?_ ?_)) (by rfl) rfl rfl flat_phRows
  · obtain rfl : k = 0 := by omega
    simp [fewR] at hT
theorem iFewNil (M : Mem) (hv : tabOk c = false) : Pure Try.prog 24 [.agg (tab 64 fun i => .bool (c i)).toArray, .agg (tab 8 fun i => .bool (p i)).toArray] M (.tuple [.slice none 0 0, .int .i64 1].toArray) := by
  refine pure_of Try.func24 Try.ntmps24 rfl rfl (flat_tuple (flat_cons (Flat.nilSlice _ _) (flat_cons (Flat.int _ _) flat_nil))) ?_
  have hV := fun M => iValidTable c M
  rw [hv] at hV
  simp only [envOf, Nat.zero_add, Nat.reduceAdd]
  repeat' (first | (refine d_AOs (h := ?_) ; first | refine o_move (h := ?_) | refine o_assign (h := ?_) | refine AOs.nil (h := ?_) | (refine d_bin (h := ?_) ; first | refine o_addS (h := ?_) | refine o_add (h := ?_) | refine o_lss (h := ?_) )  | refine o_call (hc := (hV _)) (h := ?_) | refine o_load (h := ?_) | refine o_at (h := ?_) | refine o_not (h := ?_) | refine o_box (h := ?_) | refine o_extract (h := ?_) ) | (refine d_AW (h := ?_) ; first | refine AW.seq (h := ?_) | refine AW.region (h := ?_) | (refine AW.cond (ht := (fun hc => ?_)) (hf := (fun hc => ?_)) <;> (try (with_reducible first | exact absurd hc Bool.false_ne_true | exact absurd hc.symm Bool.false_ne_true)) <;> (try simp only [decide_eq_true_eq, decide_eq_false_iff_not, Int.ofNat_inj, Bool.not_eq_true', Bool.not_eq_false', Int.not_lt, Int.not_le] at hc) <;> (try (exfalso; omega)) <;> (try (exact absurd hc (by decide)))) | refine AW.block (h := ?_) | refine AW.ret (h := ?_) | refine AW.skip (h := ?_) | refine AW.exit (h := ?_) ) | (first | refine t_normal ?_ | refine t_ret ?_ | refine t_exit ?_ | refine b_normal ?_ | refine b_exit ?_ | refine b_exit' (by decide) ?_ | refine b_ret ?_) | (refine d_post (h := ?_) ; first | refine p_ret2 rfl (h := ?_) ))
  all_goals rfl
theorem sFewNil (M : Mem) (hv : tabOk c = false) : Alloc Try.prog 21 [.agg (tab 64 fun i => .bool (c i)).toArray, .agg (tab 8 fun i => .bool (p i)).toArray] M (.tuple [slL M.length [], .int .i64 1].toArray) [phL []] := by
  refine alloc_of [2] Try.func21 Try.ntmps21 rfl rfl rfl (by decide) ?_
  have hV := fun M b rw h => sl04Table c M b rw h
  rw [tabOk_eq, hv] at hV
  simp only [envOf, Nat.zero_add, Nat.reduceAdd]
  repeat' (first | (refine d_AOs (h := ?_) ; first | refine o_move (h := ?_) | refine o_assign (h := ?_) | refine AOs.nil (h := ?_) | (refine d_bin (h := ?_) ; first | refine o_addS (h := ?_) | refine o_add (h := ?_) | refine o_leq (h := ?_) )  | refine o_call (hc := (hV _ _ _ (by first | (simp only [mem_tail, mem_tail0, List.getElem?_cons_zero, List.getElem?_cons_succ]; first | done | rfl) | exact mem_head (by assumption) | assumption | (simp only [mem_tailS, mem_tailS0, List.getElem?_cons_zero, List.getElem?_cons_succ]; first | done | rfl) | exact mem_set1 (by assumption) | exact mem_set0 (by assumption) | exact mem_setN1 (by assumption) (by assumption) | exact mem_setN (by assumption) (by assumption)))) (h := ?_) | refine o_load (h := ?_) | refine o_at (h := ?_) | refine o_not (h := ?_) | refine o_buildS0 (h := ?_) | refine o_buildS (h := ?_) | refine o_box (h := ?_) | refine o_extract (h := ?_) ) | (refine d_AW (h := ?_) ; first | refine AW.seq (h := ?_) | refine AW.region (h := ?_) | (refine AW.cond (ht := (fun hc => ?_)) (hf := (fun hc => ?_)) <;> (try (with_reducible first | exact absurd hc Bool.false_ne_true | exact absurd hc.symm Bool.false_ne_true)) <;> (try simp only [decide_eq_true_eq, decide_eq_false_iff_not, Int.ofNat_inj, Bool.not_eq_true', Bool.not_eq_false', Int.not_lt, Int.not_le] at hc) <;> (try (exfalso; omega)) <;> (try (exact absurd hc (by decide)))) | refine AW.block (h := ?_) | refine AW.ret (h := ?_) | refine AW.skip (h := ?_) | refine AW.exit (h := ?_) ) | (first | refine t_normal ?_ | refine t_ret ?_ | refine t_exit ?_ | refine b_normal ?_ | refine b_exit ?_ | refine b_exit' (by decide) ?_ | refine b_ret ?_) | (refine d_post (h := ?_) ; first | refine p_ret2 rfl (h := ?_) ))
  exact p_allocT rfl (by rfl) (by rfl) (by repeat' (first | exact Flat.bool _ | exact Flat.int _ _ | exact Flat.float _ _ | exact Flat.string _ | exact flat_nil | exact flat_tabL (fun _ => Flat.bool _) | exact flat_tabL (fun _ => Flat.int _ _) | exact flat_tabL (fun _ => Flat.float _ _) | refine flat_tuple ?_ | refine flat_agg ?_ | refine flat_cons ?_ ?_ | refine flat_append ?_ ?_)) (by rfl) rfl rfl flat_phRows
set_option maxHeartbeats 4000000 in
theorem sFew (M : Mem) (hv : tabOk c = true) (x : Option (List Nat)) (hR : fewS c p = x) : Alloc Try.prog 21 [.agg (tab 64 fun i => .bool (c i)).toArray, .agg (tab 8 fun i => .bool (p i)).toArray] M (.tuple [slL M.length (covR x), .int .i64 (if x.isSome then 0 else 3)].toArray) [phL (covR x)] := by
  refine Alloc.closed fun hM => ?_
  refine alloc_of [3] Try.func21 Try.ntmps21 rfl rfl rfl (by decide) ?_
  have hV := fun M b rw h => sl04Table c M b rw h
  rw [tabOk_eq, hv] at hV
  have hL := gL_len c 256
  have hw := numP_le p (i := 8) (by omega)
  have hN := fun M => sNumberOfPhase p M
  have hGr := fun M j rw' h => sl04Greatest c M j rw' h
  unfold fewS at hR
  unfold bools at hN
  have hflt : ∀ q, q < (gL c 256).length → gF c q < 256 := fun q hq => gL_lt hq
  have hcov := scover (gF c) (gL c 256).length hflt hL
  generalize numP p 8 = w at *
  generalize hLe : (gL c 256).length = L at *
  generalize hfe : gF c = f at *
  simp only [envOf, Nat.zero_add, Nat.reduceAdd]
  repeat' (first | (refine d_AOs (h := ?_) ; first | refine o_move (h := ?_) | refine o_assign (h := ?_) | refine AOs.nil (h := ?_) | (refine d_bin (h := ?_) ; first | refine o_addS (h := ?_) | refine o_add (h := ?_) | refine o_leq (h := ?_) )  | refine o_call (hc := (hV _ _ _ (by first | (simp only [mem_tail, mem_tail0, List.getElem?_cons_zero, List.getElem?_cons_succ]; first | done | rfl) | exact mem_head (by assumption) | assumption | (simp only [mem_tailS, mem_tailS0, List.getElem?_cons_zero, List.getElem?_cons_succ]; first | done | rfl) | exact mem_set1 (by assumption) | exact mem_set0 (by assumption) | exact mem_setN1 (by assumption) (by assumption) | exact mem_setN (by assumption) (by assumption)))) (h := ?_) | refine o_callA (hc := (hGr _ _ _ (by first | (simp only [mem_tail, mem_tail0, List.getElem?_cons_zero, List.getElem?_cons_succ]; first | done | rfl) | exact mem_head (by assumption) | assumption | (simp only [mem_tailS, mem_tailS0, List.getElem?_cons_zero, List.getElem?_cons_succ]; first | done | rfl) | exact mem_set1 (by assumption) | exact mem_set0 (by assumption) | exact mem_setN1 (by assumption) (by assumption) | exact mem_setN (by assumption) (by assumption)))) (h := ?_) | refine o_load (h := ?_) | refine o_at (h := ?_) | refine o_not (h := ?_) | refine o_buildS0 (h := ?_) | refine o_buildS (h := ?_) | refine o_box (h := ?_) | refine o_extract (h := ?_) ) | (refine d_AW (h := ?_) ; first | refine AW.seq (h := ?_) | refine AW.region (h := ?_) | (refine AW.cond (ht := (fun hc => ?_)) (hf := (fun hc => ?_)) <;> (try (with_reducible first | exact absurd hc Bool.false_ne_true | exact absurd hc.symm Bool.false_ne_true)) <;> (try simp only [decide_eq_true_eq, decide_eq_false_iff_not, Int.ofNat_inj, Bool.not_eq_true', Bool.not_eq_false', Int.not_lt, Int.not_le] at hc) <;> (try (exfalso; omega)) <;> (try (exact absurd hc (by decide)))) | refine AW.block (h := ?_) | refine AW.ret (h := ?_) | refine AW.skip (h := ?_) | refine AW.exit (h := ?_) ) | (first | refine t_normal ?_ | refine t_ret ?_ | refine t_exit ?_ | refine b_normal ?_ | refine b_exit ?_ | refine b_exit' (by decide) ?_ | refine b_ret ?_) | (refine d_post (h := ?_) ; first | refine p_ret2 rfl (h := ?_) ))
  refine AW.loopG [3, 6, 7] (fun k s => ∃ (i : Nat), i + k = 5 ∧ fewR (fun k => csF f L k L w) k i = x ∧ s = ⟨29, [(3, .pointer (some ⟨M.length + 1, 0, none⟩)), (6, .slice (some ⟨M.length + 2, 0, some L⟩) L L), (7, .int .i64 (i : Int))], M ++ [⟨tab 64 fun i => .bool (c i), none, true⟩, ⟨tab 8 fun i => .bool (p i), none, true⟩, ⟨phRows L f, some L, true⟩]⟩) 5 ⟨0, by omega, hR, rfl⟩ ?_
  rintro k s ⟨i, hi, hT, rfl⟩
  by_cases hin : i < 5
  · obtain ⟨k', rfl⟩ : ∃ k', k = k' + 1 := ⟨k - 1, by omega⟩
    simp only [fewR] at hT
    cases hg : csF f L i L w with
    | none =>
      rw [hg] at hT
      have hcall := fun j cp tg rw' M' h' => hcov i 0 w j cp tg rw' M' (by omega) (by omega) hw h' none hg
      simp only [Option.isSome_none, covR, Option.getD_none] at hcall
      repeat' (first | (refine d_AOs (h := ?_) ; first | refine o_move (h := ?_) | refine o_assign (h := ?_) | refine AOs.nil (h := ?_) | (refine d_bin (h := ?_) ; first | refine o_addS (h := ?_) | refine o_add (h := ?_) | refine o_leq (h := ?_) )  | refine o_call (hc := (hN _)) (h := ?_) | refine o_callA (hc := (hcall _ _ _ _ _ (by first | (simp only [mem_tail, mem_tail0, List.getElem?_cons_zero, List.getElem?_cons_succ]; first | done | rfl) | exact mem_head (by assumption) | assumption | (simp only [mem_tailS, mem_tailS0, List.getElem?_cons_zero, List.getElem?_cons_succ]; first | done | rfl) | exact mem_set1 (by assumption) | exact mem_set0 (by assumption) | exact mem_setN1 (by assumption) (by assumption) | exact mem_setN (by assumption) (by assumption)))) (h := ?_) | refine o_load (h := ?_) | refine o_at (h := ?_) | refine o_not (h := ?_) | refine o_buildS0 (h := ?_) | refine o_buildS (h := ?_) | refine o_box (h := ?_) | refine o_extract (h := ?_) ) | (refine d_AW (h := ?_) ; first | refine AW.seq (h := ?_) | refine AW.region (h := ?_) | (refine AW.cond (ht := (fun hc => ?_)) (hf := (fun hc => ?_)) <;> (try (with_reducible first | exact absurd hc Bool.false_ne_true | exact absurd hc.symm Bool.false_ne_true)) <;> (try simp only [decide_eq_true_eq, decide_eq_false_iff_not, Int.ofNat_inj, Bool.not_eq_true', Bool.not_eq_false', Int.not_lt, Int.not_le] at hc) <;> (try (exfalso; omega)) <;> (try (exact absurd hc (by decide)))) | refine AW.block (h := ?_) | refine AW.ret (h := ?_) | refine AW.skip (h := ?_) | refine AW.exit (h := ?_) ) | (first | refine t_normal ?_ | refine t_ret ?_ | refine t_exit ?_ | refine b_normal ?_ | refine b_exit ?_ | refine b_exit' (by decide) ?_ | refine b_ret ?_) | (refine d_post (h := ?_) ; first | refine p_ret2 rfl (h := ?_) ))
      refine ⟨k', _, _, by omega, next_three rfl, by simp, ((hM.one (by repeat' (first | exact Flat.bool _ | exact Flat.int _ _ | exact Flat.float _ _ | exact Flat.string _ | exact flat_nil | exact flat_tabL (fun _ => Flat.bool _) | exact flat_tabL (fun _ => Flat.int _ _) | exact flat_tabL (fun _ => Flat.float _ _) | refine flat_tuple ?_ | refine flat_agg ?_ | refine flat_cons ?_ ?_ | refine flat_append ?_ ?_))).one (by repeat' (first | exact Flat.bool _ | exact Flat.int _ _ | exact Flat.float _ _ | exact Flat.string _ | exact flat_nil | exact flat_tabL (fun _ => Flat.bool _) | exact flat_tabL (fun _ => Flat.int _ _) | exact flat_tabL (fun _ => Flat.float _ _) | refine flat_tuple ?_ | refine flat_agg ?_ | refine flat_cons ?_ ?_ | refine flat_append ?_ ?_))).one flat_phRows, (by repeat' (first | exact True.intro | refine And.intro ?_ ?_ | exact Bel.flat (Flat.int _ _) | exact Bel.flat (Flat.bool _) | exact Bel.flat (Flat.float _ _) | exact Bel.flat (Flat.string _) | refine Bel.sl ?_ | refine Bel.ptr ?_ | (first | assumption | omega | exact (List.getElem?_eq_some_iff.1 (by assumption)).1 | (simp only [List.length_append, List.length_cons, List.length_nil]; omega)))), i + 1, by omega, hT, ?_⟩
      simp only [List.append_assoc]; rfl
    | some r' =>
      rw [hg] at hT
      subst hT
      have hcall := fun j cp tg rw' M' h' => hcov i 0 w j cp tg rw' M' (by omega) (by omega) hw h' (some r') hg
      simp only [Option.isSome_some, covR, Option.getD_some] at hcall
      repeat' (first | (refine d_AOs (h := ?_) ; first | refine o_move (h := ?_) | refine o_assign (h := ?_) | refine AOs.nil (h := ?_) | (refine d_bin (h := ?_) ; first | refine o_addS (h := ?_) | refine o_add (h := ?_) | refine o_leq (h := ?_) )  | refine o_call (hc := (hN _)) (h := ?_) | refine o_callA (hc := (hcall _ _ _ _ _ (by first | (simp only [mem_tail, mem_tail0, List.getElem?_cons_zero, List.getElem?_cons_succ]; first | done | rfl) | exact mem_head (by assumption) | assumption | (simp only [mem_tailS, mem_tailS0, List.getElem?_cons_zero, List.getElem?_cons_succ]; first | done | rfl) | exact mem_set1 (by assumption) | exact mem_set0 (by assumption) | exact mem_setN1 (by assumption) (by assumption) | exact mem_setN (by assumption) (by assumption)))) (h := ?_) | refine o_load (h := ?_) | refine o_at (h := ?_) | refine o_not (h := ?_) | refine o_buildS0 (h := ?_) | refine o_buildS (h := ?_) | refine o_box (h := ?_) | refine o_extract (h := ?_) ) | (refine d_AW (h := ?_) ; first | refine AW.seq (h := ?_) | refine AW.region (h := ?_) | (refine AW.cond (ht := (fun hc => ?_)) (hf := (fun hc => ?_)) <;> (try (with_reducible first | exact absurd hc Bool.false_ne_true | exact absurd hc.symm Bool.false_ne_true)) <;> (try simp only [decide_eq_true_eq, decide_eq_false_iff_not, Int.ofNat_inj, Bool.not_eq_true', Bool.not_eq_false', Int.not_lt, Int.not_le] at hc) <;> (try (exfalso; omega)) <;> (try (exact absurd hc (by decide)))) | refine AW.block (h := ?_) | refine AW.ret (h := ?_) | refine AW.skip (h := ?_) | refine AW.exit (h := ?_) ) | (first | refine t_normal ?_ | refine t_ret ?_ | refine t_exit ?_ | refine b_normal ?_ | refine b_exit ?_ | refine b_exit' (by decide) ?_ | refine b_ret ?_) | (refine d_post (h := ?_) ; first | refine p_ret2 rfl (h := ?_) ))
      exact p_allocT rfl (by rfl) (by rfl) (by repeat' (first | exact Flat.bool _ | exact Flat.int _ _ | exact Flat.float _ _ | exact Flat.string _ | exact flat_nil | exact flat_tabL (fun _ => Flat.bool _) | exact flat_tabL (fun _ => Flat.int _ _) | exact flat_tabL (fun _ => Flat.float _ _) | refine flat_tuple ?_ | refine flat_agg ?_ | refine flat_cons ?_ ?_ | refine flat_append ?_ ?_)) (by rfl) rfl rfl flat_phRows
  · obtain rfl : k = 0 := by omega
    simp only [fewR] at hT
    subst hT
    repeat' (first | (refine d_AOs (h := ?_) ; first | refine o_move (h := ?_) | refine o_assign (h := ?_) | refine AOs.nil (h := ?_) | (refine d_bin (h := ?_) ; first | refine o_addS (h := ?_) | refine o_add (h := ?_) | refine o_leq (h := ?_) )  | refine o_load (h := ?_) | refine o_at (h := ?_) | refine o_not (h := ?_) | refine o_buildS0 (h := ?_) | refine o_buildS (h := ?_) | refine o_box (h := ?_) | refine o_extract (h := ?_) ) | (refine d_AW (h := ?_) ; first | refine AW.seq (h := ?_) | refine AW.region (h := ?_) | (refine AW.cond (ht := (fun hc => ?_)) (hf := (fun hc => ?_)) <;> (try (with_reducible first | exact absurd hc Bool.false_ne_true | exact absurd hc.symm Bool.false_ne_true)) <;> (try simp only [decide_eq_true_eq, decide_eq_false_iff_not, Int.ofNat_inj, Bool.not_eq_true', Bool.not_eq_false', Int.not_lt, Int.not_le] at hc) <;> (try (exfalso; omega)) <;> (try (exact absurd hc (by decide)))) | refine AW.block (h := ?_) | refine AW.ret (h := ?_) | refine AW.skip (h := ?_) | refine AW.exit (h := ?_) ) | (first | refine t_normal ?_ | refine t_ret ?_ | refine t_exit ?_ | refine b_normal ?_ | refine b_exit ?_ | refine b_exit' (by decide) ?_ | refine b_ret ?_) | (refine d_post (h := ?_) ; first | refine p_ret2 rfl (h := ?_) ))
    exact p_allocT rfl (by rfl) (by rfl) (by repeat' (first | exact Flat.bool _ | exact Flat.int _ _ | exact Flat.float _ _ | exact Flat.string _ | exact flat_nil | exact flat_tabL (fun _ => Flat.bool _) | exact flat_tabL (fun _ => Flat.int _ _) | exact flat_tabL (fun _ => Flat.float _ _) | refine flat_tuple ?_ | refine flat_agg ?_ | refine flat_cons ?_ ?_ | refine flat_append ?_ ?_)) (by rfl) rfl rfl flat_phRows
end
end Go.Proofs.Ytehmdidkhbmkmaa
