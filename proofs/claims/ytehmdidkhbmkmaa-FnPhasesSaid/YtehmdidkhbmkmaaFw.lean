/- The fewest phases: the search, in plain Lean and in both texts. -/
import Derived.Test.YtehmdidkhbmkmaaGp2
import Derived.Test.YtehmdidkhbmkmaaMk
import Derived.Test.YtehmdidkhbmkmaaCp
namespace Go.Proofs.Ytehmdidkhbmkmaa
open Go.RowKit
attribute [local irreducible] AW AOs AO AQ AQW thenA inBlockA postA ACalls Pure
set_option linter.unusedSimpArgs false

/-! ### The search -/
def andN (w n : Nat) : Nat := numP (fun i => nP w i && !nP n i) 8
theorem andN_lt (w n : Nat) : andN w n < 256 := numP_le _ (by omega)
theorem numP_nP {w : Nat} (h : w < 256) : numP (nP w) 8 = w := Nat.eq_of_testBit_eq fun i => by
  rw [numP_testBit]
  by_cases hi : i < 8
  · rw [decide_eq_true hi, Bool.true_and]
  · have h2 : 2 ^ 8 ≤ 2 ^ i := Nat.pow_le_pow_right (by omega) (by omega)
    rw [decide_eq_false hi, Bool.false_and, Nat.testBit_lt_two_pow (by omega)]
theorem and_not {w n : Nat} (hw : w < 256) (hn : n < 256) : bits .andNot .i64 (w : Int) (n : Int) = ((andN w n : Nat) : Int) := by
  have h := andNotP (nP w) (nP n)
  rwa [numP_nP hw, numP_nP hn] at h
def ciL (g : Nat → Nat → Option (List Nat)) (f : Nat → Nat) (N w : Nat) : Nat → Option (List Nat)
  | 0 => none
  | ln + 1 => match g ln (andN w (f (N - (ln + 1)))) with
    | some r => some (f (N - (ln + 1)) :: r)
    | none => ciL g f N w ln
/-- With exactly so many. -/
def ciF (f : Nat → Nat) (N : Nat) : Nat → Nat → Nat → Option (List Nat)
  | 0, _, w => if w = 0 then some [] else none
  | k + 1, ln, w => ciL (ciF f N k) f N w ln
/-- With at most so many. -/
def csF (f : Nat → Nat) (N : Nat) : Nat → Nat → Nat → Option (List Nat)
  | 0, _, w => if w = 0 then some [] else none
  | k + 1, ln, w => if w = 0 then some [] else ciL (csF f N k) f N w ln
theorem csF_w {f : Nat → Nat} {N k ln w : Nat} (h : csF f N k ln w = none) : w ≠ 0 := by
  intro e
  cases k <;> simp [csF, e] at h
theorem ciL_none {g : Nat → Nat → Option (List Nat)} {f : Nat → Nat} {N w ln : Nat} (h : ciL g f N w (ln + 1) = none) : g ln (andN w (f (N - (ln + 1)))) = none ∧ ciL g f N w ln = none := by
  simp only [ciL] at h
  cases hg : g ln (andN w (f (N - (ln + 1)))) with
  | none => rw [hg] at h; exact ⟨rfl, h⟩
  | some r => rw [hg] at h; cases h
theorem ciL_same (f : Nat → Nat) (N : Nat) : ∀ k ln w, csF f N k ln w = none → ciL (ciF f N k) f N w ln = ciL (csF f N k) f N w ln
  | 0, ln, w, _ => rfl
  | k + 1, 0, w, _ => rfl
  | k + 1, ln + 1, w, h => by
    have hw := csF_w h
    have h1 : ciL (csF f N k) f N w (ln + 1) = none := by simpa [csF, hw] using h
    obtain ⟨h2, h3⟩ := ciL_none h1
    have h4 : csF f N (k + 1) ln w = none := by simp [csF, hw, h3]
    have e1 := ciL_same f N k ln (andN w (f (N - (ln + 1)))) h2
    have e2 := ciL_same f N (k + 1) ln w h4
    have hw' := csF_w h2
    have e3 : ciF f N (k + 1) ln (andN w (f (N - (ln + 1)))) = csF f N (k + 1) ln (andN w (f (N - (ln + 1)))) := by
      show ciL (ciF f N k) f N _ ln = if _ = 0 then some [] else ciL (csF f N k) f N _ ln
      rw [if_neg hw', e1]
    simp only [ciL]
    rw [e3, e2]
theorem ciF_same {f : Nat → Nat} {N k ln w : Nat} (h : csF f N k ln w = none) : ciF f N (k + 1) ln w = csF f N (k + 1) ln w := by
  show ciL (ciF f N k) f N w ln = if w = 0 then some [] else ciL (csF f N k) f N w ln
  rw [if_neg (csF_w h), ciL_same f N k ln w h]
def fewR (g : Nat → Option (List Nat)) : Nat → Nat → Option (List Nat)
  | 0, _ => none
  | r + 1, k => match g k with
    | some x => some x
    | none => fewR g r (k + 1)
theorem few_same (f : Nat → Nat) (N w : Nat) : ∀ r k, (k = 0 ∨ ∃ q, k = q + 1 ∧ csF f N q N w = none) → fewR (fun k => ciF f N k N w) r k = fewR (fun k => csF f N k N w) r k
  | 0, _, _ => rfl
  | r + 1, k, h => by
    have e : ciF f N k N w = csF f N k N w := by
      rcases h with rfl | ⟨q, rfl, h⟩
      · rfl
      · exact ciF_same h
    simp only [fewR]
    rw [e]
    cases hc : csF f N k N w with
    | some x => rfl
    | none => exact few_same f N w r (k + 1) (.inr ⟨k, rfl, hc⟩)
theorem ciL_mem {g : Nat → Nat → Option (List Nat)} {f : Nat → Nat} {N w B : Nat} (hg : ∀ ln w r, ln ≤ N → g ln w = some r → r.length ≤ B ∧ ∀ x ∈ r, ∃ q, q < N ∧ x = f q) : ∀ {ln : Nat} {r : List Nat}, ln ≤ N → ciL g f N w ln = some r → r.length ≤ B + 1 ∧ ∀ x ∈ r, ∃ q, q < N ∧ x = f q
  | 0, r, _, h => by simp [ciL] at h
  | ln + 1, r, hl, h => by
    simp only [ciL] at h
    cases hc : g ln (andN w (f (N - (ln + 1)))) with
    | none => rw [hc] at h; exact ciL_mem hg (by omega) h
    | some r' =>
      rw [hc] at h
      obtain rfl : f (N - (ln + 1)) :: r' = r := by simpa using h
      obtain ⟨h1, h2⟩ := hg ln _ r' (by omega) hc
      refine ⟨by simpa using h1, fun x hx => ?_⟩
      rcases List.mem_cons.1 hx with rfl | hx
      · exact ⟨_, by omega, rfl⟩
      · exact h2 x hx
theorem csF_mem (f : Nat → Nat) (N : Nat) : ∀ k ln w r, ln ≤ N → csF f N k ln w = some r → r.length ≤ k ∧ ∀ x ∈ r, ∃ q, q < N ∧ x = f q
  | 0, ln, w, r, _, h => by
    simp only [csF] at h
    split at h
    · obtain rfl : [] = r := by simpa using h
      exact ⟨Nat.le_refl _, by simp⟩
    · cases h
  | k + 1, ln, w, r, hl, h => by
    simp only [csF] at h
    split at h
    · obtain rfl : [] = r := by simpa using h
      exact ⟨by simp, by simp⟩
    · exact ciL_mem (csF_mem f N k) hl h
theorem ciF_mem (f : Nat → Nat) (N : Nat) : ∀ k ln w r, ln ≤ N → ciF f N k ln w = some r → r.length ≤ k ∧ ∀ x ∈ r, ∃ q, q < N ∧ x = f q
  | 0, ln, w, r, _, h => by
    simp only [ciF] at h
    split at h
    · obtain rfl : [] = r := by simpa using h
      exact ⟨Nat.le_refl _, by simp⟩
    · cases h
  | k + 1, ln, w, r, hl, h => ciL_mem (ciF_mem f N k) hl h

theorem rowsL_cons {α : Type} (F : α → List Value) (d : α) (l : List α) (n : α) : rows (1 + l.length) (fun q => F ((n :: l).getD q d)) = F n ++ rows l.length (fun q => F (l.getD q d)) := by
  rw [rows_add 1 l.length]
  congr 1
  · simp [rows, List.range_succ]
  · refine rows_congr fun q _ => ?_
    rw [show 1 + q = q + 1 by omega]; rfl
theorem tabL_cons {α : Type} (F : α → Value) (d : α) (l : List α) (n : α) : tab (1 + l.length) (fun q => F ((n :: l).getD q d)) = [F n] ++ tab l.length (fun q => F (l.getD q d)) := by
  have := rowsL_cons (fun x => [F x]) d l n
  rwa [rows_tab, rows_tab] at this

/-- What lies behind an index of the list of numbers. -/
def SlO (M : Mem) (a : Option Addr) (ln N : Nat) (f : Nat → Nat) : Prop := 0 < ln → ∃ j o tg rw', a = some ⟨j, o, tg⟩ ∧ o + ln = N ∧ M[j]? = some ⟨tab N (fun q => .int .i64 ((f q : Nat) : Int)), tg, rw'⟩
abbrev numL (r : List Nat) : Blk := ⟨tab r.length (fun q => .int .i64 ((r.getD q 0 : Nat) : Int)), some r.length, true⟩
abbrev phL (r : List Nat) : Blk := ⟨phRows r.length (fun q => r.getD q 0), some r.length, true⟩
abbrev slL (L : Nat) (r : List Nat) : Value := .slice (some ⟨L, 0, some r.length⟩) r.length r.length

theorem coverEnd {fn : Func} {n : Nat} {t : Env} {m : Mem} (f : Nat → Nat) (M : Mem) (r : List Nat) (x : Nat) {k k2 : Nat} {P : Program} (hr : fn.results = #[.tmp k, .tmp k2])
    (hv : look t k = .slice (some ⟨M.length + 1, 0, some (1 + r.length)⟩) (1 + r.length) (1 + r.length)) (hv2 : look t k2 = .bool true)
    (hm : m = M ++ [numL r, ⟨[.int .i64 (x : Int)] ++ tab r.length (fun q => .int .i64 ((r.getD q 0 : Nat) : Int)), some (1 + r.length), true⟩]) :
    postA P fn (RelA M [1] (.tuple [slL M.length (x :: r), .bool true].toArray) [numL (x :: r)]) .ret ⟨n, t, m⟩ := by
  have e : (x :: r).length = 1 + r.length := by simp; omega
  unfold slL numL
  rw [e, tabL_cons (fun x : Nat => .int .i64 (x : Int)) 0 r x]
  exact p_allocT hr hv hv2 (Flat.bool _) rfl hm rfl (flat_append (flat_cons (Flat.int _ _) flat_nil) (flat_tabs fun i => Flat.int _ _))

section
variable (f : Nat → Nat) (N : Nat)
set_option maxHeartbeats 4000000 in
theorem icover (hf : ∀ q, q < N → f q < 256) (hN : N ≤ 256) : ∀ (k : Nat) (a : Option Addr) (ln w : Nat) (M : Mem), k ≤ 5 → ln ≤ N → w < 256 → SlO M a ln N f →
    (ciF f N k ln w = none → Pure Try.prog 89 [.slice a ln ln, .int .i64 (w : Int), .int .i64 (k : Int)] M (.tuple [.slice none 0 0, .bool false].toArray)) ∧
    (∀ r, ciF f N k ln w = some r → Alloc Try.prog 89 [.slice a ln ln, .int .i64 (w : Int), .int .i64 (k : Int)] M (.tuple [slL M.length r, .bool true].toArray) [numL r])
  | 0, a, ln, w, M, _, hln, hw, hS => by
    refine ⟨fun h => ?_, fun r h => ?_⟩
    · have hw0 : w ≠ 0 := fun e => by simp [ciF, e] at h
      refine pure_of Try.func89 Try.ntmps89 rfl rfl (flat_tuple (flat_cons (Flat.nilSlice _ _) (flat_cons (Flat.bool _) flat_nil))) ?_
      simp only [envOf, Nat.zero_add, Nat.reduceAdd]
      repeat' (first | (refine d_AOs (h := ?_) ; first | refine o_move (h := ?_) | refine o_assign (h := ?_) | refine AOs.nil (h := ?_) | (refine d_bin (h := ?_) ; first | refine o_eqNil (h := ?_) | refine o_addS (h := ?_) | refine o_add (h := ?_) | refine o_lss (h := ?_) | refine o_eqi (h := ?_) | refine o_eqB (h := ?_) | refine o_subS (h := ?_) | refine o_sub (h := ?_) | refine o_bits (h := ?_) ) | (refine d_grd (h := ?_) ; first | refine g_yes (h := ?_) | refine g_no (h := ?_) | refine g_undef (h := ?_) | (refine g_true (h1 := (fun hg => ?_)) (h0 := (fun hg => ?_)) <;> (try rw [hg]) <;> (try simp only [decide_eq_true_eq, decide_eq_false_iff_not, Int.ofNat_inj, Bool.not_eq_true', Bool.not_eq_false', Int.not_lt, Int.not_le] at hg) <;> (try (exfalso; omega)) <;> (try (exact absurd hg (by decide)))) | (refine g_false (h1 := (fun hg => ?_)) (h0 := (fun hg => ?_)) <;> (try rw [hg]) <;> (try simp only [decide_eq_true_eq, decide_eq_false_iff_not, Int.ofNat_inj, Bool.not_eq_true', Bool.not_eq_false', Int.not_lt, Int.not_le] at hg) <;> (try (exfalso; omega)) <;> (try (exact absurd hg (by decide))))) | refine o_load (h := ?_) | refine o_at (h := ?_) | refine o_pick (h := ?_) | refine o_len (h := ?_) | refine o_lenS (h := ?_) | refine o_ixS (h := ?_) | refine o_buildS0 (h := ?_) | refine o_buildS (h := ?_) | refine o_app (h := ?_) | refine o_appN (h := ?_) | refine o_app0 (h := ?_) | refine o_slHi (h := ?_) | refine o_slLo (h := ?_) | refine o_slLH (h := ?_) | refine o_ix (h := ?_) | refine o_extract (h := ?_) ) | (refine d_AW (h := ?_) ; first | refine AW.seq (h := ?_) | refine AW.region (h := ?_) | (refine AW.cond (ht := (fun hc => ?_)) (hf := (fun hc => ?_)) <;> (try (with_reducible first | exact absurd hc Bool.false_ne_true | exact absurd hc.symm Bool.false_ne_true)) <;> (try simp only [decide_eq_true_eq, decide_eq_false_iff_not, Int.ofNat_inj, Bool.not_eq_true', Bool.not_eq_false', Int.not_lt, Int.not_le] at hc) <;> (try (exfalso; omega)) <;> (try (exact absurd hc (by decide)))) | refine AW.block (h := ?_) | refine AW.ret (h := ?_) | refine AW.skip (h := ?_) | refine AW.exit (h := ?_) ) | (first | refine t_normal ?_ | refine t_ret ?_ | refine t_exit ?_ | refine b_normal ?_ | refine b_exit ?_ | refine b_exit' (by decide) ?_ | refine b_ret ?_) | (refine d_post (h := ?_) ; first | refine p_ret2 rfl (h := ?_) ))
      all_goals rfl
    · simp only [ciF] at h
      split at h
      · rename_i hw0
        obtain rfl : [] = r := by simpa using h
        subst hw0
        refine alloc_of [0] Try.func89 Try.ntmps89 rfl rfl rfl (by decide) ?_
        simp only [envOf, Nat.zero_add, Nat.reduceAdd]
        repeat' (first | (refine d_AOs (h := ?_) ; first | refine o_move (h := ?_) | refine o_assign (h := ?_) | refine AOs.nil (h := ?_) | (refine d_bin (h := ?_) ; first | refine o_eqNil (h := ?_) | refine o_addS (h := ?_) | refine o_add (h := ?_) | refine o_lss (h := ?_) | refine o_eqi (h := ?_) | refine o_eqB (h := ?_) | refine o_subS (h := ?_) | refine o_sub (h := ?_) | refine o_bits (h := ?_) ) | (refine d_grd (h := ?_) ; first | refine g_yes (h := ?_) | refine g_no (h := ?_) | refine g_undef (h := ?_) | (refine g_true (h1 := (fun hg => ?_)) (h0 := (fun hg => ?_)) <;> (try rw [hg]) <;> (try simp only [decide_eq_true_eq, decide_eq_false_iff_not, Int.ofNat_inj, Bool.not_eq_true', Bool.not_eq_false', Int.not_lt, Int.not_le] at hg) <;> (try (exfalso; omega)) <;> (try (exact absurd hg (by decide)))) | (refine g_false (h1 := (fun hg => ?_)) (h0 := (fun hg => ?_)) <;> (try rw [hg]) <;> (try simp only [decide_eq_true_eq, decide_eq_false_iff_not, Int.ofNat_inj, Bool.not_eq_true', Bool.not_eq_false', Int.not_lt, Int.not_le] at hg) <;> (try (exfalso; omega)) <;> (try (exact absurd hg (by decide))))) | refine o_load (h := ?_) | refine o_at (h := ?_) | refine o_pick (h := ?_) | refine o_len (h := ?_) | refine o_lenS (h := ?_) | refine o_ixS (h := ?_) | refine o_buildS0 (h := ?_) | refine o_buildS (h := ?_) | refine o_app (h := ?_) | refine o_appN (h := ?_) | refine o_app0 (h := ?_) | refine o_slHi (h := ?_) | refine o_slLo (h := ?_) | refine o_slLH (h := ?_) | refine o_ix (h := ?_) | refine o_extract (h := ?_) ) | (refine d_AW (h := ?_) ; first | refine AW.seq (h := ?_) | refine AW.region (h := ?_) | (refine AW.cond (ht := (fun hc => ?_)) (hf := (fun hc => ?_)) <;> (try (with_reducible first | exact absurd hc Bool.false_ne_true | exact absurd hc.symm Bool.false_ne_true)) <;> (try simp only [decide_eq_true_eq, decide_eq_false_iff_not, Int.ofNat_inj, Bool.not_eq_true', Bool.not_eq_false', Int.not_lt, Int.not_le] at hc) <;> (try (exfalso; omega)) <;> (try (exact absurd hc (by decide)))) | refine AW.block (h := ?_) | refine AW.ret (h := ?_) | refine AW.skip (h := ?_) | refine AW.exit (h := ?_) ) | (first | refine t_normal ?_ | refine t_ret ?_ | refine t_exit ?_ | refine b_normal ?_ | refine b_exit ?_ | refine b_exit' (by decide) ?_ | refine b_ret ?_) | (refine d_post (h := ?_) ; first | refine p_ret2 rfl (h := ?_) ))
        exact p_allocT rfl (by rfl) (by rfl) (by repeat' (first | exact Flat.bool _ | exact Flat.int _ _ | exact Flat.float _ _ | exact Flat.string _ | exact flat_nil | exact flat_tabL (fun _ => Flat.bool _) | exact flat_tabL (fun _ => Flat.int _ _) | exact flat_tabL (fun _ => Flat.float _ _) | refine flat_tuple ?_ | refine flat_agg ?_ | refine flat_cons ?_ ?_ | refine flat_append ?_ ?_)) (by rfl) rfl rfl (flat_tabs fun i => Flat.int _ _)
      · cases h
  | k + 1, a, ln, w, M, hk, hln, hw, hS => by
    have IH := icover hf hN k
    refine ⟨fun h => ?_, fun r h => ?_⟩
    · refine pure_of Try.func89 Try.ntmps89 rfl rfl (flat_tuple (flat_cons (Flat.nilSlice _ _) (flat_cons (Flat.bool _) flat_nil))) ?_
      by_cases hw0 : w = 0
      all_goals (
        simp only [envOf, Nat.zero_add, Nat.reduceAdd]
        repeat' (first | (refine d_AOs (h := ?_) ; first | refine o_move (h := ?_) | refine o_assign (h := ?_) | refine AOs.nil (h := ?_) | (refine d_bin (h := ?_) ; first | refine o_eqNil (h := ?_) | refine o_addS (h := ?_) | refine o_add (h := ?_) | refine o_lss (h := ?_) | refine o_eqi (h := ?_) | refine o_eqB (h := ?_) | refine o_subS (h := ?_) | refine o_sub (h := ?_) | refine o_bits (h := ?_) ) | (refine d_grd (h := ?_) ; first | refine g_yes (h := ?_) | refine g_no (h := ?_) | refine g_undef (h := ?_) | (refine g_true (h1 := (fun hg => ?_)) (h0 := (fun hg => ?_)) <;> (try rw [hg]) <;> (try simp only [decide_eq_true_eq, decide_eq_false_iff_not, Int.ofNat_inj, Bool.not_eq_true', Bool.not_eq_false', Int.not_lt, Int.not_le] at hg) <;> (try (exfalso; omega)) <;> (try (exact absurd hg (by decide)))) | (refine g_false (h1 := (fun hg => ?_)) (h0 := (fun hg => ?_)) <;> (try rw [hg]) <;> (try simp only [decide_eq_true_eq, decide_eq_false_iff_not, Int.ofNat_inj, Bool.not_eq_true', Bool.not_eq_false', Int.not_lt, Int.not_le] at hg) <;> (try (exfalso; omega)) <;> (try (exact absurd hg (by decide))))) | refine o_load (h := ?_) | refine o_at (h := ?_) | refine o_pick (h := ?_) | refine o_len (h := ?_) | refine o_lenS (h := ?_) | refine o_ixS (h := ?_) | refine o_buildS0 (h := ?_) | refine o_buildS (h := ?_) | refine o_app (h := ?_) | refine o_appN (h := ?_) | refine o_app0 (h := ?_) | refine o_slHi (h := ?_) | refine o_slLo (h := ?_) | refine o_slLH (h := ?_) | refine o_ix (h := ?_) | refine o_extract (h := ?_) ) | (refine d_AW (h := ?_) ; first | refine AW.seq (h := ?_) | refine AW.region (h := ?_) | (refine AW.cond (ht := (fun hc => ?_)) (hf := (fun hc => ?_)) <;> (try (with_reducible first | exact absurd hc Bool.false_ne_true | exact absurd hc.symm Bool.false_ne_true)) <;> (try simp only [decide_eq_true_eq, decide_eq_false_iff_not, Int.ofNat_inj, Bool.not_eq_true', Bool.not_eq_false', Int.not_lt, Int.not_le] at hc) <;> (try (exfalso; omega)) <;> (try (exact absurd hc (by decide)))) | refine AW.block (h := ?_) | refine AW.ret (h := ?_) | refine AW.skip (h := ?_) | refine AW.exit (h := ?_) ) | (first | refine t_normal ?_ | refine t_ret ?_ | refine t_exit ?_ | refine b_normal ?_ | refine b_exit ?_ | refine b_exit' (by decide) ?_ | refine b_ret ?_) | (refine d_post (h := ?_) ; first | refine p_ret2 rfl (h := ?_) ))
        refine AW.loopN [0, 1, 2, 21, 22, 23] (fun kk s => ∃ (i : Nat), i + kk = ln ∧ ciL (ciF f N k) f N w kk = none ∧ s = ⟨47, [(0, .slice a ln ln), (1, .int .i64 (w : Int)), (2, .int .i64 ((k : Int) + 1)), (21, .slice a ln ln), (22, .int .i64 (ln : Int)), (23, .int .i64 (i : Int))], M⟩) ln ⟨0, by omega, h, rfl⟩ ?_
        rintro kk s ⟨i, hi, hR, rfl⟩
        by_cases hin : i < ln
        · obtain ⟨j, o, tg, rw', rfl, ho, hb⟩ := hS (by omega)
          obtain ⟨k2, rfl⟩ : ∃ k2, kk = k2 + 1 := ⟨kk - 1, by omega⟩
          obtain rfl : k2 = ln - (i + 1) := by omega
          have hfi := hf (o + i) (by omega)
          have han := and_not hw hfi
          have hal := andN_lt w (f (o + i))
          simp only [ciL, show N - (ln - (i + 1) + 1) = o + i by omega] at hR
          have hS2 : SlO M (some ⟨j, o + (i + 1), tg⟩) (ln - (i + 1)) N f := fun h0 => ⟨j, o + (i + 1), tg, rw', rfl, by omega, hb⟩
          have hS3 : ∀ o2, ln - (i + 1) = 0 → SlO M (some ⟨j, o2, tg⟩) (ln - (i + 1)) N f := fun o2 h0 h1 => by omega
          cases hg : ciF f N k (ln - (i + 1)) (andN w (f (o + i))) with
          | some r => rw [hg] at hR; cases hR
          | none =>
            have hcall := fun a' h' => (IH a' (ln - (i + 1)) (andN w (f (o + i))) M (by omega) (by omega) hal h').1 hg
            rw [← han, show (k : Int) = (k : Int) + 1 - 1 by omega] at hcall
            rw [hg] at hR
            by_cases hlast : i + 1 < ln
            · repeat' (first | (refine d_AOs (h := ?_) ; first | refine o_move (h := ?_) | refine o_assign (h := ?_) | refine AOs.nil (h := ?_) | (refine d_bin (h := ?_) ; first | refine o_eqNil (h := ?_) | refine o_addS (h := ?_) | refine o_add (h := ?_) | refine o_lss (h := ?_) | refine o_eqi (h := ?_) | refine o_eqB (h := ?_) | refine o_subS (h := ?_) | refine o_sub (h := ?_) | refine o_bits (h := ?_) ) | (refine d_grd (h := ?_) ; first | refine g_yes (h := ?_) | refine g_no (h := ?_) | refine g_undef (h := ?_) | (refine g_true (h1 := (fun hg => ?_)) (h0 := (fun hg => ?_)) <;> (try rw [hg]) <;> (try simp only [decide_eq_true_eq, decide_eq_false_iff_not, Int.ofNat_inj, Bool.not_eq_true', Bool.not_eq_false', Int.not_lt, Int.not_le] at hg) <;> (try (exfalso; omega)) <;> (try (exact absurd hg (by decide)))) | (refine g_false (h1 := (fun hg => ?_)) (h0 := (fun hg => ?_)) <;> (try rw [hg]) <;> (try simp only [decide_eq_true_eq, decide_eq_false_iff_not, Int.ofNat_inj, Bool.not_eq_true', Bool.not_eq_false', Int.not_lt, Int.not_le] at hg) <;> (try (exfalso; omega)) <;> (try (exact absurd hg (by decide))))) | refine o_slLo (q := i + 1) (h := ?_) | refine o_call (hc := (hcall _ hS2)) (h := ?_) | refine o_load (h := ?_) | refine o_at (h := ?_) | refine o_pick (h := ?_) | refine o_len (h := ?_) | refine o_lenS (h := ?_) | refine o_ixS (h := ?_) | refine o_buildS0 (h := ?_) | refine o_buildS (h := ?_) | refine o_app (h := ?_) | refine o_appN (h := ?_) | refine o_app0 (h := ?_) | refine o_slHi (h := ?_) | refine o_slLo (h := ?_) | refine o_slLH (h := ?_) | refine o_ix (h := ?_) | refine o_extract (h := ?_) ) | (refine d_AW (h := ?_) ; first | refine AW.seq (h := ?_) | refine AW.region (h := ?_) | (refine AW.cond (ht := (fun hc => ?_)) (hf := (fun hc => ?_)) <;> (try (with_reducible first | exact absurd hc Bool.false_ne_true | exact absurd hc.symm Bool.false_ne_true)) <;> (try simp only [decide_eq_true_eq, decide_eq_false_iff_not, Int.ofNat_inj, Bool.not_eq_true', Bool.not_eq_false', Int.not_lt, Int.not_le] at hc) <;> (try (exfalso; omega)) <;> (try (exact absurd hc (by decide)))) | refine AW.block (h := ?_) | refine AW.ret (h := ?_) | refine AW.skip (h := ?_) | refine AW.exit (h := ?_) ) | (first | refine t_normal ?_ | refine t_ret ?_ | refine t_exit ?_ | refine b_normal ?_ | refine b_exit ?_ | refine b_exit' (by decide) ?_ | refine b_ret ?_) | (refine d_post (h := ?_) ; first | refine p_ret2 rfl (h := ?_) ))
              exact ⟨ln - (i + 1), by omega, i + 1, by omega, hR, rfl⟩
            · have e0 : ln - (i + 1) = 0 := by omega
              rw [e0] at hcall hS3
              repeat' (first | (refine d_AOs (h := ?_) ; first | refine o_move (h := ?_) | refine o_assign (h := ?_) | refine AOs.nil (h := ?_) | (refine d_bin (h := ?_) ; first | refine o_eqNil (h := ?_) | refine o_addS (h := ?_) | refine o_add (h := ?_) | refine o_lss (h := ?_) | refine o_eqi (h := ?_) | refine o_eqB (h := ?_) | refine o_subS (h := ?_) | refine o_sub (h := ?_) | refine o_bits (h := ?_) ) | (refine d_grd (h := ?_) ; first | refine g_yes (h := ?_) | refine g_no (h := ?_) | refine g_undef (h := ?_) | (refine g_true (h1 := (fun hg => ?_)) (h0 := (fun hg => ?_)) <;> (try rw [hg]) <;> (try simp only [decide_eq_true_eq, decide_eq_false_iff_not, Int.ofNat_inj, Bool.not_eq_true', Bool.not_eq_false', Int.not_lt, Int.not_le] at hg) <;> (try (exfalso; omega)) <;> (try (exact absurd hg (by decide)))) | (refine g_false (h1 := (fun hg => ?_)) (h0 := (fun hg => ?_)) <;> (try rw [hg]) <;> (try simp only [decide_eq_true_eq, decide_eq_false_iff_not, Int.ofNat_inj, Bool.not_eq_true', Bool.not_eq_false', Int.not_lt, Int.not_le] at hg) <;> (try (exfalso; omega)) <;> (try (exact absurd hg (by decide))))) | refine o_slLoE (q := i + 1) (h := fun o2 => ?_) | refine o_call (hc := (hcall _ (hS3 _ rfl))) (h := ?_) | refine o_load (h := ?_) | refine o_at (h := ?_) | refine o_pick (h := ?_) | refine o_len (h := ?_) | refine o_lenS (h := ?_) | refine o_ixS (h := ?_) | refine o_buildS0 (h := ?_) | refine o_buildS (h := ?_) | refine o_app (h := ?_) | refine o_appN (h := ?_) | refine o_app0 (h := ?_) | refine o_slHi (h := ?_) | refine o_slLo (h := ?_) | refine o_slLH (h := ?_) | refine o_ix (h := ?_) | refine o_extract (h := ?_) ) | (refine d_AW (h := ?_) ; first | refine AW.seq (h := ?_) | refine AW.region (h := ?_) | (refine AW.cond (ht := (fun hc => ?_)) (hf := (fun hc => ?_)) <;> (try (with_reducible first | exact absurd hc Bool.false_ne_true | exact absurd hc.symm Bool.false_ne_true)) <;> (try simp only [decide_eq_true_eq, decide_eq_false_iff_not, Int.ofNat_inj, Bool.not_eq_true', Bool.not_eq_false', Int.not_lt, Int.not_le] at hc) <;> (try (exfalso; omega)) <;> (try (exact absurd hc (by decide)))) | refine AW.block (h := ?_) | refine AW.ret (h := ?_) | refine AW.skip (h := ?_) | refine AW.exit (h := ?_) ) | (first | refine t_normal ?_ | refine t_ret ?_ | refine t_exit ?_ | refine b_normal ?_ | refine b_exit ?_ | refine b_exit' (by decide) ?_ | refine b_ret ?_) | (refine d_post (h := ?_) ; first | refine p_ret2 rfl (h := ?_) ))
              exact ⟨ln - (i + 1), by omega, i + 1, by omega, hR, rfl⟩
        · repeat' (first | (refine d_AOs (h := ?_) ; first | refine o_move (h := ?_) | refine o_assign (h := ?_) | refine AOs.nil (h := ?_) | (refine d_bin (h := ?_) ; first | refine o_eqNil (h := ?_) | refine o_addS (h := ?_) | refine o_add (h := ?_) | refine o_lss (h := ?_) | refine o_eqi (h := ?_) | refine o_eqB (h := ?_) | refine o_subS (h := ?_) | refine o_sub (h := ?_) | refine o_bits (h := ?_) ) | (refine d_grd (h := ?_) ; first | refine g_yes (h := ?_) | refine g_no (h := ?_) | refine g_undef (h := ?_) | (refine g_true (h1 := (fun hg => ?_)) (h0 := (fun hg => ?_)) <;> (try rw [hg]) <;> (try simp only [decide_eq_true_eq, decide_eq_false_iff_not, Int.ofNat_inj, Bool.not_eq_true', Bool.not_eq_false', Int.not_lt, Int.not_le] at hg) <;> (try (exfalso; omega)) <;> (try (exact absurd hg (by decide)))) | (refine g_false (h1 := (fun hg => ?_)) (h0 := (fun hg => ?_)) <;> (try rw [hg]) <;> (try simp only [decide_eq_true_eq, decide_eq_false_iff_not, Int.ofNat_inj, Bool.not_eq_true', Bool.not_eq_false', Int.not_lt, Int.not_le] at hg) <;> (try (exfalso; omega)) <;> (try (exact absurd hg (by decide))))) | refine o_load (h := ?_) | refine o_at (h := ?_) | refine o_pick (h := ?_) | refine o_len (h := ?_) | refine o_lenS (h := ?_) | refine o_ixS (h := ?_) | refine o_buildS0 (h := ?_) | refine o_buildS (h := ?_) | refine o_app (h := ?_) | refine o_appN (h := ?_) | refine o_app0 (h := ?_) | refine o_slHi (h := ?_) | refine o_slLo (h := ?_) | refine o_slLH (h := ?_) | refine o_ix (h := ?_) | refine o_extract (h := ?_) ) | (refine d_AW (h := ?_) ; first | refine AW.seq (h := ?_) | refine AW.region (h := ?_) | (refine AW.cond (ht := (fun hc => ?_)) (hf := (fun hc => ?_)) <;> (try (with_reducible first | exact absurd hc Bool.false_ne_true | exact absurd hc.symm Bool.false_ne_true)) <;> (try simp only [decide_eq_true_eq, decide_eq_false_iff_not, Int.ofNat_inj, Bool.not_eq_true', Bool.not_eq_false', Int.not_lt, Int.not_le] at hc) <;> (try (exfalso; omega)) <;> (try (exact absurd hc (by decide)))) | refine AW.block (h := ?_) | refine AW.ret (h := ?_) | refine AW.skip (h := ?_) | refine AW.exit (h := ?_) ) | (first | refine t_normal ?_ | refine t_ret ?_ | refine t_exit ?_ | refine b_normal ?_ | refine b_exit ?_ | refine b_exit' (by decide) ?_ | refine b_ret ?_) | (refine d_post (h := ?_) ; first | refine p_ret2 rfl (h := ?_) ))
          obtain rfl : kk = 0 := by omega
          rfl)
    · refine alloc_of [1] Try.func89 Try.ntmps89 rfl rfl rfl (by decide) ?_
      by_cases hw0 : w = 0
      all_goals (
        simp only [envOf, Nat.zero_add, Nat.reduceAdd]
        repeat' (first | (refine d_AOs (h := ?_) ; first | refine o_move (h := ?_) | refine o_assign (h := ?_) | refine AOs.nil (h := ?_) | (refine d_bin (h := ?_) ; first | refine o_eqNil (h := ?_) | refine o_addS (h := ?_) | refine o_add (h := ?_) | refine o_lss (h := ?_) | refine o_eqi (h := ?_) | refine o_eqB (h := ?_) | refine o_subS (h := ?_) | refine o_sub (h := ?_) | refine o_bits (h := ?_) ) | (refine d_grd (h := ?_) ; first | refine g_yes (h := ?_) | refine g_no (h := ?_) | refine g_undef (h := ?_) | (refine g_true (h1 := (fun hg => ?_)) (h0 := (fun hg => ?_)) <;> (try rw [hg]) <;> (try simp only [decide_eq_true_eq, decide_eq_false_iff_not, Int.ofNat_inj, Bool.not_eq_true', Bool.not_eq_false', Int.not_lt, Int.not_le] at hg) <;> (try (exfalso; omega)) <;> (try (exact absurd hg (by decide)))) | (refine g_false (h1 := (fun hg => ?_)) (h0 := (fun hg => ?_)) <;> (try rw [hg]) <;> (try simp only [decide_eq_true_eq, decide_eq_false_iff_not, Int.ofNat_inj, Bool.not_eq_true', Bool.not_eq_false', Int.not_lt, Int.not_le] at hg) <;> (try (exfalso; omega)) <;> (try (exact absurd hg (by decide))))) | refine o_load (h := ?_) | refine o_at (h := ?_) | refine o_pick (h := ?_) | refine o_len (h := ?_) | refine o_lenS (h := ?_) | refine o_ixS (h := ?_) | refine o_buildS0 (h := ?_) | refine o_buildS (h := ?_) | refine o_app (h := ?_) | refine o_appN (h := ?_) | refine o_app0 (h := ?_) | refine o_slHi (h := ?_) | refine o_slLo (h := ?_) | refine o_slLH (h := ?_) | refine o_ix (h := ?_) | refine o_extract (h := ?_) ) | (refine d_AW (h := ?_) ; first | refine AW.seq (h := ?_) | refine AW.region (h := ?_) | (refine AW.cond (ht := (fun hc => ?_)) (hf := (fun hc => ?_)) <;> (try (with_reducible first | exact absurd hc Bool.false_ne_true | exact absurd hc.symm Bool.false_ne_true)) <;> (try simp only [decide_eq_true_eq, decide_eq_false_iff_not, Int.ofNat_inj, Bool.not_eq_true', Bool.not_eq_false', Int.not_lt, Int.not_le] at hc) <;> (try (exfalso; omega)) <;> (try (exact absurd hc (by decide)))) | refine AW.block (h := ?_) | refine AW.ret (h := ?_) | refine AW.skip (h := ?_) | refine AW.exit (h := ?_) ) | (first | refine t_normal ?_ | refine t_ret ?_ | refine t_exit ?_ | refine b_normal ?_ | refine b_exit ?_ | refine b_exit' (by decide) ?_ | refine b_ret ?_) | (refine d_post (h := ?_) ; first | refine p_ret2 rfl (h := ?_) ))
        refine AW.loopN [0, 1, 2, 21, 22, 23] (fun kk s => ∃ (i : Nat), i + kk = ln ∧ ciL (ciF f N k) f N w kk = some r ∧ s = ⟨47, [(0, .slice a ln ln), (1, .int .i64 (w : Int)), (2, .int .i64 ((k : Int) + 1)), (21, .slice a ln ln), (22, .int .i64 (ln : Int)), (23, .int .i64 (i : Int))], M⟩) ln ⟨0, by omega, h, rfl⟩ ?_
        rintro kk s ⟨i, hi, hR, rfl⟩
        by_cases hin : i < ln
        · obtain ⟨j, o, tg, rw', rfl, ho, hb⟩ := hS (by omega)
          obtain ⟨k2, rfl⟩ : ∃ k2, kk = k2 + 1 := ⟨kk - 1, by omega⟩
          obtain rfl : k2 = ln - (i + 1) := by omega
          have hfi := hf (o + i) (by omega)
          have han := and_not hw hfi
          have hal := andN_lt w (f (o + i))
          simp only [ciL, show N - (ln - (i + 1) + 1) = o + i by omega] at hR
          have hS2 : SlO M (some ⟨j, o + (i + 1), tg⟩) (ln - (i + 1)) N f := fun h0 => ⟨j, o + (i + 1), tg, rw', rfl, by omega, hb⟩
          have hS3 : ∀ o2, ln - (i + 1) = 0 → SlO M (some ⟨j, o2, tg⟩) (ln - (i + 1)) N f := fun o2 h0 h1 => by omega
          cases hg : ciF f N k (ln - (i + 1)) (andN w (f (o + i))) with
          | none =>
            have hcall := fun a' h' => (IH a' (ln - (i + 1)) (andN w (f (o + i))) M (by omega) (by omega) hal h').1 hg
            rw [← han, show (k : Int) = (k : Int) + 1 - 1 by omega] at hcall
            rw [hg] at hR
            by_cases hlast : i + 1 < ln
            · repeat' (first | (refine d_AOs (h := ?_) ; first | refine o_move (h := ?_) | refine o_assign (h := ?_) | refine AOs.nil (h := ?_) | (refine d_bin (h := ?_) ; first | refine o_eqNil (h := ?_) | refine o_addS (h := ?_) | refine o_add (h := ?_) | refine o_lss (h := ?_) | refine o_eqi (h := ?_) | refine o_eqB (h := ?_) | refine o_subS (h := ?_) | refine o_sub (h := ?_) | refine o_bits (h := ?_) ) | (refine d_grd (h := ?_) ; first | refine g_yes (h := ?_) | refine g_no (h := ?_) | refine g_undef (h := ?_) | (refine g_true (h1 := (fun hg => ?_)) (h0 := (fun hg => ?_)) <;> (try rw [hg]) <;> (try simp only [decide_eq_true_eq, decide_eq_false_iff_not, Int.ofNat_inj, Bool.not_eq_true', Bool.not_eq_false', Int.not_lt, Int.not_le] at hg) <;> (try (exfalso; omega)) <;> (try (exact absurd hg (by decide)))) | (refine g_false (h1 := (fun hg => ?_)) (h0 := (fun hg => ?_)) <;> (try rw [hg]) <;> (try simp only [decide_eq_true_eq, decide_eq_false_iff_not, Int.ofNat_inj, Bool.not_eq_true', Bool.not_eq_false', Int.not_lt, Int.not_le] at hg) <;> (try (exfalso; omega)) <;> (try (exact absurd hg (by decide))))) | refine o_slLo (q := i + 1) (h := ?_) | refine o_call (hc := (hcall _ hS2)) (h := ?_) | refine o_load (h := ?_) | refine o_at (h := ?_) | refine o_pick (h := ?_) | refine o_len (h := ?_) | refine o_lenS (h := ?_) | refine o_ixS (h := ?_) | refine o_buildS0 (h := ?_) | refine o_buildS (h := ?_) | refine o_app (h := ?_) | refine o_appN (h := ?_) | refine o_app0 (h := ?_) | refine o_slHi (h := ?_) | refine o_slLo (h := ?_) | refine o_slLH (h := ?_) | refine o_ix (h := ?_) | refine o_extract (h := ?_) ) | (refine d_AW (h := ?_) ; first | refine AW.seq (h := ?_) | refine AW.region (h := ?_) | (refine AW.cond (ht := (fun hc => ?_)) (hf := (fun hc => ?_)) <;> (try (with_reducible first | exact absurd hc Bool.false_ne_true | exact absurd hc.symm Bool.false_ne_true)) <;> (try simp only [decide_eq_true_eq, decide_eq_false_iff_not, Int.ofNat_inj, Bool.not_eq_true', Bool.not_eq_false', Int.not_lt, Int.not_le] at hc) <;> (try (exfalso; omega)) <;> (try (exact absurd hc (by decide)))) | refine AW.block (h := ?_) | refine AW.ret (h := ?_) | refine AW.skip (h := ?_) | refine AW.exit (h := ?_) ) | (first | refine t_normal ?_ | refine t_ret ?_ | refine t_exit ?_ | refine b_normal ?_ | refine b_exit ?_ | refine b_exit' (by decide) ?_ | refine b_ret ?_) | (refine d_post (h := ?_) ; first | refine p_ret2 rfl (h := ?_) ))
              exact ⟨ln - (i + 1), by omega, i + 1, by omega, hR, rfl⟩
            · have e0 : ln - (i + 1) = 0 := by omega
              rw [e0] at hcall hS3
              repeat' (first | (refine d_AOs (h := ?_) ; first | refine o_move (h := ?_) | refine o_assign (h := ?_) | refine AOs.nil (h := ?_) | (refine d_bin (h := ?_) ; first | refine o_eqNil (h := ?_) | refine o_addS (h := ?_) | refine o_add (h := ?_) | refine o_lss (h := ?_) | refine o_eqi (h := ?_) | refine o_eqB (h := ?_) | refine o_subS (h := ?_) | refine o_sub (h := ?_) | refine o_bits (h := ?_) ) | (refine d_grd (h := ?_) ; first | refine g_yes (h := ?_) | refine g_no (h := ?_) | refine g_undef (h := ?_) | (refine g_true (h1 := (fun hg => ?_)) (h0 := (fun hg => ?_)) <;> (try rw [hg]) <;> (try simp only [decide_eq_true_eq, decide_eq_false_iff_not, Int.ofNat_inj, Bool.not_eq_true', Bool.not_eq_false', Int.not_lt, Int.not_le] at hg) <;> (try (exfalso; omega)) <;> (try (exact absurd hg (by decide)))) | (refine g_false (h1 := (fun hg => ?_)) (h0 := (fun hg => ?_)) <;> (try rw [hg]) <;> (try simp only [decide_eq_true_eq, decide_eq_false_iff_not, Int.ofNat_inj, Bool.not_eq_true', Bool.not_eq_false', Int.not_lt, Int.not_le] at hg) <;> (try (exfalso; omega)) <;> (try (exact absurd hg (by decide))))) | refine o_slLoE (q := i + 1) (h := fun o2 => ?_) | refine o_call (hc := (hcall _ (hS3 _ rfl))) (h := ?_) | refine o_load (h := ?_) | refine o_at (h := ?_) | refine o_pick (h := ?_) | refine o_len (h := ?_) | refine o_lenS (h := ?_) | refine o_ixS (h := ?_) | refine o_buildS0 (h := ?_) | refine o_buildS (h := ?_) | refine o_app (h := ?_) | refine o_appN (h := ?_) | refine o_app0 (h := ?_) | refine o_slHi (h := ?_) | refine o_slLo (h := ?_) | refine o_slLH (h := ?_) | refine o_ix (h := ?_) | refine o_extract (h := ?_) ) | (refine d_AW (h := ?_) ; first | refine AW.seq (h := ?_) | refine AW.region (h := ?_) | (refine AW.cond (ht := (fun hc => ?_)) (hf := (fun hc => ?_)) <;> (try (with_reducible first | exact absurd hc Bool.false_ne_true | exact absurd hc.symm Bool.false_ne_true)) <;> (try simp only [decide_eq_true_eq, decide_eq_false_iff_not, Int.ofNat_inj, Bool.not_eq_true', Bool.not_eq_false', Int.not_lt, Int.not_le] at hc) <;> (try (exfalso; omega)) <;> (try (exact absurd hc (by decide)))) | refine AW.block (h := ?_) | refine AW.ret (h := ?_) | refine AW.skip (h := ?_) | refine AW.exit (h := ?_) ) | (first | refine t_normal ?_ | refine t_ret ?_ | refine t_exit ?_ | refine b_normal ?_ | refine b_exit ?_ | refine b_exit' (by decide) ?_ | refine b_ret ?_) | (refine d_post (h := ?_) ; first | refine p_ret2 rfl (h := ?_) ))
              exact ⟨ln - (i + 1), by omega, i + 1, by omega, hR, rfl⟩
          | some r' =>
            have hcall := fun a' h' => (IH a' (ln - (i + 1)) (andN w (f (o + i))) M (by omega) (by omega) hal h').2 r' hg
            rw [← han, show (k : Int) = (k : Int) + 1 - 1 by omega] at hcall
            rw [hg] at hR
            obtain rfl : f (o + i) :: r' = r := by simpa using hR
            have hrl := (ciF_mem f N k _ _ r' (by omega) hg).1
            have hcl : ([.int .i64 ((f (o + i) : Nat) : Int)] : List Value).length = 1 * 1 := rfl
            have htl : (tab r'.length (fun q => Value.int .i64 ((r'.getD q 0 : Nat) : Int))).length = r'.length * 1 := by rw [tab_len, Nat.mul_one]
            have hto : (tab r'.length (fun q => Value.int .i64 ((r'.getD q 0 : Nat) : Int))).all one = true := tab_one fun _ => rfl
            have hwi : ((tab r'.length (fun q => Value.int .i64 ((r'.getD q 0 : Nat) : Int))).drop 0).take (r'.length * 1) = tab r'.length (fun q => Value.int .i64 ((r'.getD q 0 : Nat) : Int)) := by
              rw [List.drop_zero, List.take_of_length_le (by rw [htl]; exact Nat.le_refl _)]
            by_cases hlast : i + 1 < ln
            · repeat' (first | (refine d_AOs (h := ?_) ; first | refine o_move (h := ?_) | refine o_assign (h := ?_) | refine AOs.nil (h := ?_) | (refine d_bin (h := ?_) ; first | refine o_eqNil (h := ?_) | refine o_addS (h := ?_) | refine o_add (h := ?_) | refine o_lss (h := ?_) | refine o_eqi (h := ?_) | refine o_eqB (h := ?_) | refine o_subS (h := ?_) | refine o_sub (h := ?_) | refine o_bits (h := ?_) ) | (refine d_grd (h := ?_) ; first | refine g_yes (h := ?_) | refine g_no (h := ?_) | refine g_undef (h := ?_) | (refine g_true (h1 := (fun hg => ?_)) (h0 := (fun hg => ?_)) <;> (try rw [hg]) <;> (try simp only [decide_eq_true_eq, decide_eq_false_iff_not, Int.ofNat_inj, Bool.not_eq_true', Bool.not_eq_false', Int.not_lt, Int.not_le] at hg) <;> (try (exfalso; omega)) <;> (try (exact absurd hg (by decide)))) | (refine g_false (h1 := (fun hg => ?_)) (h0 := (fun hg => ?_)) <;> (try rw [hg]) <;> (try simp only [decide_eq_true_eq, decide_eq_false_iff_not, Int.ofNat_inj, Bool.not_eq_true', Bool.not_eq_false', Int.not_lt, Int.not_le] at hg) <;> (try (exfalso; omega)) <;> (try (exact absurd hg (by decide))))) | refine o_slLo (q := i + 1) (h := ?_) | refine o_callA (hc := (hcall _ hS2)) (h := ?_) | refine o_buildS1M (h := ?_) | refine o_app (hys := by exact hwi) (hlc := by exact hcl) (hly := by exact htl) (hone := by exact hto) (h := ?_) | refine o_load (h := ?_) | refine o_at (h := ?_) | refine o_pick (h := ?_) | refine o_len (h := ?_) | refine o_lenS (h := ?_) | refine o_ixS (h := ?_) | refine o_buildS0 (h := ?_) | refine o_buildS (h := ?_) | refine o_app (h := ?_) | refine o_appN (h := ?_) | refine o_app0 (h := ?_) | refine o_slHi (h := ?_) | refine o_slLo (h := ?_) | refine o_slLH (h := ?_) | refine o_ix (h := ?_) | refine o_extract (h := ?_) ) | (refine d_AW (h := ?_) ; first | refine AW.seq (h := ?_) | refine AW.region (h := ?_) | (refine AW.cond (ht := (fun hc => ?_)) (hf := (fun hc => ?_)) <;> (try (with_reducible first | exact absurd hc Bool.false_ne_true | exact absurd hc.symm Bool.false_ne_true)) <;> (try simp only [decide_eq_true_eq, decide_eq_false_iff_not, Int.ofNat_inj, Bool.not_eq_true', Bool.not_eq_false', Int.not_lt, Int.not_le] at hc) <;> (try (exfalso; omega)) <;> (try (exact absurd hc (by decide)))) | refine AW.block (h := ?_) | refine AW.ret (h := ?_) | refine AW.skip (h := ?_) | refine AW.exit (h := ?_) ) | (first | refine t_normal ?_ | refine t_ret ?_ | refine t_exit ?_ | refine b_normal ?_ | refine b_exit ?_ | refine b_exit' (by decide) ?_ | refine b_ret ?_) | (refine d_post (h := ?_) ; first | refine p_ret2 rfl (h := ?_) ))
              exact coverEnd f M r' (f (o + i)) rfl (by rfl) (by rfl) rfl
            · have e0 : ln - (i + 1) = 0 := by omega
              rw [e0] at hcall hS3
              repeat' (first | (refine d_AOs (h := ?_) ; first | refine o_move (h := ?_) | refine o_assign (h := ?_) | refine AOs.nil (h := ?_) | (refine d_bin (h := ?_) ; first | refine o_eqNil (h := ?_) | refine o_addS (h := ?_) | refine o_add (h := ?_) | refine o_lss (h := ?_) | refine o_eqi (h := ?_) | refine o_eqB (h := ?_) | refine o_subS (h := ?_) | refine o_sub (h := ?_) | refine o_bits (h := ?_) ) | (refine d_grd (h := ?_) ; first | refine g_yes (h := ?_) | refine g_no (h := ?_) | refine g_undef (h := ?_) | (refine g_true (h1 := (fun hg => ?_)) (h0 := (fun hg => ?_)) <;> (try rw [hg]) <;> (try simp only [decide_eq_true_eq, decide_eq_false_iff_not, Int.ofNat_inj, Bool.not_eq_true', Bool.not_eq_false', Int.not_lt, Int.not_le] at hg) <;> (try (exfalso; omega)) <;> (try (exact absurd hg (by decide)))) | (refine g_false (h1 := (fun hg => ?_)) (h0 := (fun hg => ?_)) <;> (try rw [hg]) <;> (try simp only [decide_eq_true_eq, decide_eq_false_iff_not, Int.ofNat_inj, Bool.not_eq_true', Bool.not_eq_false', Int.not_lt, Int.not_le] at hg) <;> (try (exfalso; omega)) <;> (try (exact absurd hg (by decide))))) | refine o_slLoE (q := i + 1) (h := fun o2 => ?_) | refine o_callA (hc := (hcall _ (hS3 _ rfl))) (h := ?_) | refine o_buildS1M (h := ?_) | refine o_app (hys := by exact hwi) (hlc := by exact hcl) (hly := by exact htl) (hone := by exact hto) (h := ?_) | refine o_load (h := ?_) | refine o_at (h := ?_) | refine o_pick (h := ?_) | refine o_len (h := ?_) | refine o_lenS (h := ?_) | refine o_ixS (h := ?_) | refine o_buildS0 (h := ?_) | refine o_buildS (h := ?_) | refine o_app (h := ?_) | refine o_appN (h := ?_) | refine o_app0 (h := ?_) | refine o_slHi (h := ?_) | refine o_slLo (h := ?_) | refine o_slLH (h := ?_) | refine o_ix (h := ?_) | refine o_extract (h := ?_) ) | (refine d_AW (h := ?_) ; first | refine AW.seq (h := ?_) | refine AW.region (h := ?_) | (refine AW.cond (ht := (fun hc => ?_)) (hf := (fun hc => ?_)) <;> (try (with_reducible first | exact absurd hc Bool.false_ne_true | exact absurd hc.symm Bool.false_ne_true)) <;> (try simp only [decide_eq_true_eq, decide_eq_false_iff_not, Int.ofNat_inj, Bool.not_eq_true', Bool.not_eq_false', Int.not_lt, Int.not_le] at hc) <;> (try (exfalso; omega)) <;> (try (exact absurd hc (by decide)))) | refine AW.block (h := ?_) | refine AW.ret (h := ?_) | refine AW.skip (h := ?_) | refine AW.exit (h := ?_) ) | (first | refine t_normal ?_ | refine t_ret ?_ | refine t_exit ?_ | refine b_normal ?_ | refine b_exit ?_ | refine b_exit' (by decide) ?_ | refine b_ret ?_) | (refine d_post (h := ?_) ; first | refine p_ret2 rfl (h := ?_) ))
              exact coverEnd f M r' (f (o + i)) rfl (by rfl) (by rfl) rfl
        · repeat' (first | (refine d_AOs (h := ?_) ; first | refine o_move (h := ?_) | refine o_assign (h := ?_) | refine AOs.nil (h := ?_) | (refine d_bin (h := ?_) ; first | refine o_eqNil (h := ?_) | refine o_addS (h := ?_) | refine o_add (h := ?_) | refine o_lss (h := ?_) | refine o_eqi (h := ?_) | refine o_eqB (h := ?_) | refine o_subS (h := ?_) | refine o_sub (h := ?_) | refine o_bits (h := ?_) ) | (refine d_grd (h := ?_) ; first | refine g_yes (h := ?_) | refine g_no (h := ?_) | refine g_undef (h := ?_) | (refine g_true (h1 := (fun hg => ?_)) (h0 := (fun hg => ?_)) <;> (try rw [hg]) <;> (try simp only [decide_eq_true_eq, decide_eq_false_iff_not, Int.ofNat_inj, Bool.not_eq_true', Bool.not_eq_false', Int.not_lt, Int.not_le] at hg) <;> (try (exfalso; omega)) <;> (try (exact absurd hg (by decide)))) | (refine g_false (h1 := (fun hg => ?_)) (h0 := (fun hg => ?_)) <;> (try rw [hg]) <;> (try simp only [decide_eq_true_eq, decide_eq_false_iff_not, Int.ofNat_inj, Bool.not_eq_true', Bool.not_eq_false', Int.not_lt, Int.not_le] at hg) <;> (try (exfalso; omega)) <;> (try (exact absurd hg (by decide))))) | refine o_load (h := ?_) | refine o_at (h := ?_) | refine o_pick (h := ?_) | refine o_len (h := ?_) | refine o_lenS (h := ?_) | refine o_ixS (h := ?_) | refine o_buildS0 (h := ?_) | refine o_buildS (h := ?_) | refine o_app (h := ?_) | refine o_appN (h := ?_) | refine o_app0 (h := ?_) | refine o_slHi (h := ?_) | refine o_slLo (h := ?_) | refine o_slLH (h := ?_) | refine o_ix (h := ?_) | refine o_extract (h := ?_) ) | (refine d_AW (h := ?_) ; first | refine AW.seq (h := ?_) | refine AW.region (h := ?_) | (refine AW.cond (ht := (fun hc => ?_)) (hf := (fun hc => ?_)) <;> (try (with_reducible first | exact absurd hc Bool.false_ne_true | exact absurd hc.symm Bool.false_ne_true)) <;> (try simp only [decide_eq_true_eq, decide_eq_false_iff_not, Int.ofNat_inj, Bool.not_eq_true', Bool.not_eq_false', Int.not_lt, Int.not_le] at hc) <;> (try (exfalso; omega)) <;> (try (exact absurd hc (by decide)))) | refine AW.block (h := ?_) | refine AW.ret (h := ?_) | refine AW.skip (h := ?_) | refine AW.exit (h := ?_) ) | (first | refine t_normal ?_ | refine t_ret ?_ | refine t_exit ?_ | refine b_normal ?_ | refine b_exit ?_ | refine b_exit' (by decide) ?_ | refine b_ret ?_) | (refine d_post (h := ?_) ; first | refine p_ret2 rfl (h := ?_) ))
          obtain rfl : kk = 0 := by omega
          simp [ciL] at hR)
end
end Go.Proofs.Ytehmdidkhbmkmaa
