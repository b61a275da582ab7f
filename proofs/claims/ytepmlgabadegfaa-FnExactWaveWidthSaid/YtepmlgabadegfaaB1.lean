/- What the small functions on numbers, phases and tables give. -/
import Derived.Test.YtepmlgabadegfaaTab
namespace Go.Proofs.Ytepmlgabadegfaa
open Go.RowKit
attribute [local irreducible] AW AOs AO AQ AQW thenA inBlockA postA ACalls Pure
set_option linter.unusedSimpArgs false
set_option linter.unusedVariables false
set_option linter.unusedSectionVars false

/-- Truth values side by side. -/
abbrev bools (n : Nat) (p : Nat → Bool) : List Value := tab n fun i => .bool (p i)

/-- All of n values from k on hold. -/
def okK (q : Nat → Bool) : Nat → Nat → Bool
  | 0, _ => true
  | n + 1, k => q k && okK q n (k + 1)
theorem okK_all {q : Nat → Bool} : ∀ n k, okK q n k = true ↔ ∀ i, k ≤ i → i < k + n → q i = true
  | 0, k => by simp [okK]; omega
  | n + 1, k => by
    simp only [okK, Bool.and_eq_true, okK_all n (k + 1)]
    refine ⟨fun ⟨h1, h2⟩ i hi hk => ?_, fun h => ⟨h k (by omega) (by omega), fun i hi hk => h i (by omega) (by omega)⟩⟩
    by_cases e : i = k
    · subst e; exact h1
    · exact h2 i (by omega) (by omega)

theorem okK_succ {q : Nat → Bool} {n k : Nat} (h : 0 < n) : okK q n k = (q k && okK q (n - 1) (k + 1)) := by
  obtain ⟨m, rfl⟩ : ∃ m, n = m + 1 := ⟨n - 1, by omega⟩
  rfl

theorem one_bool (p : Nat → Bool) : ∀ i, one ((fun i => Value.bool (p i)) i) = true := fun _ => rfl

/-- The number whose bits are the values below k. -/
def numP (p : Nat → Bool) : Nat → Nat
  | 0 => 0
  | k + 1 => numP p k + if p k then 2 ^ k else 0

theorem numP_lt (p : Nat → Bool) : ∀ k, numP p k < 2 ^ k
  | 0 => by simp [numP]
  | k + 1 => by have := numP_lt p k; simp only [numP]; split <;> (rw [Nat.pow_succ]; omega)

theorem numP_congr {p q : Nat → Bool} : ∀ k, (∀ i, i < k → p i = q i) → numP p k = numP q k
  | 0, _ => rfl
  | k + 1, h => by simp only [numP]; rw [numP_congr k (fun i hi => h i (by omega)), h k (by omega)]

theorem wrap_pow {i : Nat} (h : i < 8) : IntKind.i64.wrap (1 * 2 ^ min (i : Int).toNat IntKind.i64.bits) = ((2 ^ i : Nat) : Int) := by
  have : i = 0 ∨ i = 1 ∨ i = 2 ∨ i = 3 ∨ i = 4 ∨ i = 5 ∨ i = 6 ∨ i = 7 := by omega
  rcases this with rfl | rfl | rfl | rfl | rfl | rfl | rfl | rfl <;> rfl

theorem ofInt_nat (a : Nat) (ha : a < 9223372036854775808) : (BitVec.ofInt 64 (a : Int)).toNat = a := by
  rw [BitVec.ofInt_natCast, BitVec.toNat_ofNat]; exact Nat.mod_eq_of_lt (by omega)
theorem or_nat (a b : Nat) (ha : a < 9223372036854775808) (hb : b < 9223372036854775808) : bits .or .i64 (a : Int) (b : Int) = ((a ||| b : Nat) : Int) := by
  have hx : a ||| b < 2 ^ 63 := Nat.or_lt_two_pow (by omega) (by omega)
  show IntKind.i64.wrap ((BitVec.ofInt 64 (a : Int) ||| BitVec.ofInt 64 (b : Int)).toNat : Int) = _
  rw [BitVec.toNat_or, ofInt_nat a ha, ofInt_nat b hb, wrap64_id (by omega)]
theorem and_nat (a b : Nat) (ha : a < 9223372036854775808) (hb : b < 9223372036854775808) : bits .and .i64 (a : Int) (b : Int) = ((a &&& b : Nat) : Int) := by
  have hx : a &&& b < 2 ^ 63 := Nat.and_lt_two_pow _ (by omega)
  show IntKind.i64.wrap ((BitVec.ofInt 64 (a : Int) &&& BitVec.ofInt 64 (b : Int)).toNat : Int) = _
  rw [BitVec.toNat_and, ofInt_nat a ha, ofInt_nat b hb, wrap64_id (by omega)]

theorem or_pow {a i : Nat} (h : a < 2 ^ i) : a ||| 2 ^ i = a + 2 ^ i := by
  have := Nat.two_pow_add_eq_or_of_lt h 1
  rw [Nat.mul_one] at this
  rw [Nat.or_comm, ← this]; omega

theorem numP_le (p : Nat → Bool) {i : Nat} (h : i ≤ 8) : numP p i < 256 := by
  have := numP_lt p i
  have : 2 ^ i ≤ 2 ^ 8 := Nat.pow_le_pow_right (by omega) h
  omega

theorem numP_or (p : Nat → Bool) {i : Nat} (h : i < 8) (hp : p i = true) :
    bits .or .i64 (numP p i : Int) (IntKind.i64.wrap (1 * 2 ^ min (i : Int).toNat IntKind.i64.bits)) = (numP p (i + 1) : Nat) := by
  have h1 := numP_lt p i
  have h2 := numP_le p (i := i) (by omega)
  have h3 : 2 ^ i ≤ 2 ^ 7 := Nat.pow_le_pow_right (by omega) (by omega)
  rw [wrap_pow h, or_nat _ _ (by omega) (by omega), or_pow h1]
  simp [numP, hp]

/-- The phase with a number. -/
def phP (n : Int) (i : Nat) : Bool := decide (bits .and .i64 (n.fdiv (2 ^ min (i : Int).toNat IntKind.i64.bits)) 1 = 1)

theorem bools_upd {p : Nat → Bool} {i : Nat} {n : Nat} : tab n (fun j => if j = i then .bool (p i) else (fun j => .bool (if j < i then p j else false)) j) = tab n (fun j => .bool (if j < i + 1 then p j else false)) :=
  tab_congr fun j _ => by
    by_cases h : j = i
    · subst h; simp
    · rw [if_neg h]; by_cases h2 : j < i
      · simp [h2, show j < i + 1 by omega]
      · simp [h2, show ¬ j < i + 1 by omega]

theorem tab_full {p : Nat → Bool} {n i : Nat} (h : n ≤ i) : (tab n fun j => .bool (if j < i then p j else false)) = tab n fun j => .bool (p j) :=
  tab_congr fun j hj => by rw [if_pos (by omega)]

set_option maxHeartbeats 1000000 in
theorem ltoPhase (p : Nat → Bool) (M : Mem) : Pure Try.prog 50 [.agg (bools 8 p).toArray] M (.agg (bools 8 p).toArray) := by
  refine pure_of Try.func50 Try.ntmps50 rfl rfl (by repeat' (first | exact Flat.bool _ | exact Flat.int _ _ | exact Flat.float _ _ | exact Flat.string _ | exact flat_nil | exact flat_tabL (fun _ => Flat.bool _) | exact flat_tabL (fun _ => Flat.int _ _) | exact flat_tabL (fun _ => Flat.float _ _) | refine flat_tuple ?_ | refine flat_agg ?_ | refine flat_cons ?_ ?_ | refine flat_append ?_ ?_)) ?_
  unfold bools
  simp only [envOf, Nat.zero_add, Nat.reduceAdd]
  repeat' (first | (refine d_AOs (h := ?_) ; first | refine o_move (h := ?_) | refine o_assign (h := ?_) | refine AOs.nil (h := ?_) | (refine d_bin (h := ?_) ; first | refine o_addS (h := ?_) | refine o_add (h := ?_) | refine o_lss (h := ?_) )  | refine o_load (h := ?_) | refine o_at (h := ?_) | refine o_ixS (h := ?_) | refine o_store (h := ?_) | refine o_box (h := ?_) | refine o_alloc (h := ?_) | refine o_ix (h := ?_) ) | (refine d_AW (h := ?_) ; first | refine AW.seq (h := ?_) | refine AW.region (h := ?_) | (refine AW.cond (ht := (fun hc => ?_)) (hf := (fun hc => ?_)) <;> (try (with_reducible first | exact absurd hc Bool.false_ne_true | exact absurd hc.symm Bool.false_ne_true)) <;> (try simp only [decide_eq_true_eq, decide_eq_false_iff_not, Int.ofNat_inj, Bool.not_eq_true', Bool.not_eq_false', Int.not_lt, Int.not_le] at hc) <;> (try (exfalso; omega)) <;> (try (exact absurd hc (by decide)))) | refine AW.block (h := ?_) | refine AW.ret (h := ?_) | refine AW.skip (h := ?_) | refine AW.exit (h := ?_) ) | (first | refine t_normal ?_ | refine t_ret ?_ | refine t_exit ?_ | refine b_normal ?_ | refine b_exit ?_ | refine b_exit' (by decide) ?_ | refine b_ret ?_) | (refine d_post (h := ?_) ; first | refine p_ret1 rfl (h := ?_) | refine p_end1 rfl (h := ?_) | refine p_cell1 rfl (h := ?_) ))
  refine AW.loopN [1, 2, 3, 4] (fun k s => ∃ (i : Nat), i + k = 8 ∧ s = ⟨15, [(1, .pointer (some ⟨M.length, 0, none⟩)), (2, .pointer (some ⟨M.length + 1, 0, none⟩)), (3, .pointer (some ⟨M.length + 2, 0, none⟩)), (4, .int .i64 i)],
    M ++ [⟨tab 8 fun i => .bool (p i), none, true⟩, ⟨tab 8 fun _ => .bool false, none, true⟩, ⟨tab 8 fun j => .bool (if j < i then p j else false), none, true⟩]⟩) 8 ⟨0, rfl, rfl⟩ ?_
  rintro k s ⟨i, hi, rfl⟩
  repeat' (first | (refine d_AOs (h := ?_) ; first | refine o_move (h := ?_) | refine o_assign (h := ?_) | refine AOs.nil (h := ?_) | (refine d_bin (h := ?_) ; first | refine o_addS (h := ?_) | refine o_add (h := ?_) | refine o_lss (h := ?_) )  | refine o_load (h := ?_) | refine o_at (h := ?_) | refine o_ixS (h := ?_) | refine o_store (h := ?_) | refine o_box (h := ?_) | refine o_alloc (h := ?_) | refine o_ix (h := ?_) ) | (refine d_AW (h := ?_) ; first | refine AW.seq (h := ?_) | refine AW.region (h := ?_) | (refine AW.cond (ht := (fun hc => ?_)) (hf := (fun hc => ?_)) <;> (try (with_reducible first | exact absurd hc Bool.false_ne_true | exact absurd hc.symm Bool.false_ne_true)) <;> (try simp only [decide_eq_true_eq, decide_eq_false_iff_not, Int.ofNat_inj, Bool.not_eq_true', Bool.not_eq_false', Int.not_lt, Int.not_le] at hc) <;> (try (exfalso; omega)) <;> (try (exact absurd hc (by decide)))) | refine AW.block (h := ?_) | refine AW.ret (h := ?_) | refine AW.skip (h := ?_) | refine AW.exit (h := ?_) ) | (first | refine t_normal ?_ | refine t_ret ?_ | refine t_exit ?_ | refine b_normal ?_ | refine b_exit ?_ | refine b_exit' (by decide) ?_ | refine b_ret ?_) | (refine d_post (h := ?_) ; first | refine p_ret1 rfl (h := ?_) | refine p_end1 rfl (h := ?_) | refine p_cell1 rfl (h := ?_) ))
  · refine ⟨k - 1, by omega, i + 1, by omega, ?_⟩
    rw [← bools_upd]; rfl
  · rw [tab_full (by omega)]

theorem bools_updk {p : Nat → Bool} {i : Nat} {n : Nat} : tab n (fun j => if i * 8 ≤ j ∧ j < i * 8 + 8 then (fun q => Value.bool (p (i * 8 + q))) (j - i * 8) else (fun j => .bool (if j < i * 8 then p j else false)) j) = tab n (fun j => .bool (if j < (i + 1) * 8 then p j else false)) :=
  tab_congr fun j _ => by
    by_cases h : i * 8 ≤ j ∧ j < i * 8 + 8
    · show (if i * 8 ≤ j ∧ j < i * 8 + 8 then Value.bool (p (i * 8 + (j - i * 8))) else _) = _
      rw [if_pos h, if_pos (by omega), show i * 8 + (j - i * 8) = j by omega]
    · rw [if_neg h]; by_cases h2 : j < i * 8
      · simp only [h2, if_true]; rw [if_pos (by omega)]
      · simp only [h2, if_false]; rw [if_neg (by omega)]

set_option maxHeartbeats 1000000 in
theorem leqPhase (p : Nat → Bool) (M : Mem) : Pure Try.prog 52 [.agg (bools 8 p).toArray, .agg (bools 8 p).toArray] M (.bool true) := by
  refine pure_of Try.func52 Try.ntmps52 rfl rfl (by repeat' (first | exact Flat.bool _ | exact Flat.int _ _ | exact Flat.float _ _ | exact Flat.string _ | exact flat_nil | exact flat_tabL (fun _ => Flat.bool _) | exact flat_tabL (fun _ => Flat.int _ _) | exact flat_tabL (fun _ => Flat.float _ _) | refine flat_tuple ?_ | refine flat_agg ?_ | refine flat_cons ?_ ?_ | refine flat_append ?_ ?_)) ?_
  unfold bools
  simp only [envOf, Nat.zero_add, Nat.reduceAdd]
  repeat' (first | (refine d_AOs (h := ?_) ; first | refine o_move (h := ?_) | refine o_assign (h := ?_) | refine AOs.nil (h := ?_) | (refine d_bin (h := ?_) ; first | refine o_addS (h := ?_) | refine o_add (h := ?_) | refine o_lss (h := ?_) | refine o_neB (h := ?_) | refine o_nei (h := ?_) )  | refine o_load (h := ?_) | refine o_at (h := ?_) | refine o_ixS (h := ?_) | refine o_box (h := ?_) | refine o_ix (h := ?_) ) | (refine d_AW (h := ?_) ; first | refine AW.seq (h := ?_) | refine AW.region (h := ?_) | refine AW.open5 (h1 := ?_) (h2 := ?_) (h3 := ?_) | refine AW.open_ (h := ?_) | (refine AW.cond (ht := (fun hc => ?_)) (hf := (fun hc => ?_)) <;> (try (with_reducible first | exact absurd hc Bool.false_ne_true | exact absurd hc.symm Bool.false_ne_true)) <;> (try simp only [decide_eq_true_eq, decide_eq_false_iff_not, Int.ofNat_inj, Bool.not_eq_true', Bool.not_eq_false', Int.not_lt, Int.not_le] at hc) <;> (try (exfalso; omega)) <;> (try (exact absurd hc (by decide)))) | refine AW.block (h := ?_) | refine AW.ret (h := ?_) | refine AW.skip (h := ?_) | refine AW.exit (h := ?_) ) | (first | refine t_normal ?_ | refine t_ret ?_ | refine t_exit ?_ | refine b_normal ?_ | refine b_exit ?_ | refine b_exit' (by decide) ?_ | refine b_ret ?_) | (refine d_AQ (h := ?_) ; first | refine q_nil (h := ?_) | refine q_switchB (h2 := ?_) | refine q_step (h2 := ?_) | refine q_yes (h2 := ?_) | refine q_no (h2 := ?_) | refine q_undef (h2 := ?_) | (refine q_true (h2 := (fun hg => ?_)) (h0 := (fun hg => ?_)) <;> (try rw [hg]) <;> (try simp only [decide_eq_true_eq, decide_eq_false_iff_not, Int.ofNat_inj, Bool.not_eq_true', Bool.not_eq_false', Int.not_lt, Int.not_le] at hg) <;> (try (exfalso; omega)) <;> (try (exact absurd hg (by decide)))) | (refine q_false (h2 := (fun hg => ?_)) (h0 := (fun hg => ?_)) <;> (try rw [hg]) <;> (try simp only [decide_eq_true_eq, decide_eq_false_iff_not, Int.ofNat_inj, Bool.not_eq_true', Bool.not_eq_false', Int.not_lt, Int.not_le] at hg) <;> (try (exfalso; omega)) <;> (try (exact absurd hg (by decide)))) | refine q_switch (h2 := ?_)) | (refine d_post (h := ?_) ; first | refine p_ret1 rfl (h := ?_) | refine p_end1 rfl (h := ?_) | refine p_cell1 rfl (h := ?_) ))
  refine AW.loopN [2, 3, 5] (fun k s => ∃ (i : Nat), i + k = 8 ∧ s = ⟨17, [(2, .pointer (some ⟨M.length, 0, none⟩)), (3, .pointer (some ⟨M.length + 1, 0, none⟩)), (5, .int .i64 i)],
    M ++ [⟨tab 8 fun i => .bool (p i), none, true⟩, ⟨tab 8 fun i => .bool (p i), none, true⟩]⟩) 8 ⟨0, rfl, rfl⟩ ?_
  rintro k s ⟨i, hi, rfl⟩
  repeat' (first | (refine d_AOs (h := ?_) ; first | refine o_move (h := ?_) | refine o_assign (h := ?_) | refine AOs.nil (h := ?_) | (refine d_bin (h := ?_) ; first | refine o_addS (h := ?_) | refine o_add (h := ?_) | refine o_lss (h := ?_) | refine o_neB (h := ?_) | refine o_nei (h := ?_) )  | refine o_load (h := ?_) | refine o_at (h := ?_) | refine o_ixS (h := ?_) | refine o_box (h := ?_) | refine o_ix (h := ?_) ) | (refine d_AW (h := ?_) ; first | refine AW.seq (h := ?_) | refine AW.region (h := ?_) | refine AW.open5 (h1 := ?_) (h2 := ?_) (h3 := ?_) | refine AW.open_ (h := ?_) | (refine AW.cond (ht := (fun hc => ?_)) (hf := (fun hc => ?_)) <;> (try (with_reducible first | exact absurd hc Bool.false_ne_true | exact absurd hc.symm Bool.false_ne_true)) <;> (try simp only [decide_eq_true_eq, decide_eq_false_iff_not, Int.ofNat_inj, Bool.not_eq_true', Bool.not_eq_false', Int.not_lt, Int.not_le] at hc) <;> (try (exfalso; omega)) <;> (try (exact absurd hc (by decide)))) | refine AW.block (h := ?_) | refine AW.ret (h := ?_) | refine AW.skip (h := ?_) | refine AW.exit (h := ?_) ) | (first | refine t_normal ?_ | refine t_ret ?_ | refine t_exit ?_ | refine b_normal ?_ | refine b_exit ?_ | refine b_exit' (by decide) ?_ | refine b_ret ?_) | (refine d_AQ (h := ?_) ; first | refine q_nil (h := ?_) | refine q_switchB (h2 := ?_) | refine q_step (h2 := ?_) | refine q_yes (h2 := ?_) | refine q_no (h2 := ?_) | refine q_undef (h2 := ?_) | (refine q_true (h2 := (fun hg => ?_)) (h0 := (fun hg => ?_)) <;> (try rw [hg]) <;> (try simp only [decide_eq_true_eq, decide_eq_false_iff_not, Int.ofNat_inj, Bool.not_eq_true', Bool.not_eq_false', Int.not_lt, Int.not_le] at hg) <;> (try (exfalso; omega)) <;> (try (exact absurd hg (by decide)))) | (refine q_false (h2 := (fun hg => ?_)) (h0 := (fun hg => ?_)) <;> (try rw [hg]) <;> (try simp only [decide_eq_true_eq, decide_eq_false_iff_not, Int.ofNat_inj, Bool.not_eq_true', Bool.not_eq_false', Int.not_lt, Int.not_le] at hg) <;> (try (exfalso; omega)) <;> (try (exact absurd hg (by decide)))) | refine q_switch (h2 := ?_)) | (refine d_post (h := ?_) ; first | refine p_ret1 rfl (h := ?_) | refine p_end1 rfl (h := ?_) | refine p_cell1 rfl (h := ?_) ))
  all_goals first | rfl | (exfalso; simp at hc; done) | exact ⟨k - 1, by omega, i + 1, by omega, rfl⟩

theorem iinRange (a b c : Int) (M : Mem) : Pure Try.prog 30 [.int .i64 a, .int .i64 b, .int .i64 c] M (.bool (decide (b ≤ a ∧ a ≤ c))) := by
  refine pure_of Try.func30 Try.ntmps30 rfl rfl (by repeat' (first | exact Flat.bool _ | exact Flat.int _ _ | exact Flat.float _ _ | exact Flat.string _ | exact flat_nil | exact flat_tabL (fun _ => Flat.bool _) | exact flat_tabL (fun _ => Flat.int _ _) | exact flat_tabL (fun _ => Flat.float _ _) | refine flat_tuple ?_ | refine flat_agg ?_ | refine flat_cons ?_ ?_ | refine flat_append ?_ ?_)) ?_
  simp only [envOf, Nat.zero_add, Nat.reduceAdd]
  repeat' (first | (refine d_AOs (h := ?_) ; first | refine o_move (h := ?_) | refine o_assign (h := ?_) | refine AOs.nil (h := ?_) | (refine d_bin (h := ?_) ; first | refine o_leq (h := ?_) ) | (refine d_grd (h := ?_) ; first | refine g_yes (h := ?_) | refine g_no (h := ?_) | refine g_undef (h := ?_) | (refine g_true (h1 := (fun hg => ?_)) (h0 := (fun hg => ?_)) <;> (try rw [hg]) <;> (try simp only [decide_eq_true_eq, decide_eq_false_iff_not, Int.ofNat_inj, Bool.not_eq_true', Bool.not_eq_false', Int.not_lt, Int.not_le] at hg) <;> (try (exfalso; omega)) <;> (try (exact absurd hg (by decide)))) | (refine g_false (h1 := (fun hg => ?_)) (h0 := (fun hg => ?_)) <;> (try rw [hg]) <;> (try simp only [decide_eq_true_eq, decide_eq_false_iff_not, Int.ofNat_inj, Bool.not_eq_true', Bool.not_eq_false', Int.not_lt, Int.not_le] at hg) <;> (try (exfalso; omega)) <;> (try (exact absurd hg (by decide))))) | refine o_at (h := ?_) | refine o_pick (h := ?_) ) | (refine d_AW (h := ?_) ; first | refine AW.seq (h := ?_) | refine AW.region (h := ?_) | (refine AW.cond (ht := (fun hc => ?_)) (hf := (fun hc => ?_)) <;> (try (with_reducible first | exact absurd hc Bool.false_ne_true | exact absurd hc.symm Bool.false_ne_true)) <;> (try simp only [decide_eq_true_eq, decide_eq_false_iff_not, Int.ofNat_inj, Bool.not_eq_true', Bool.not_eq_false', Int.not_lt, Int.not_le] at hc) <;> (try (exfalso; omega)) <;> (try (exact absurd hc (by decide)))) | refine AW.block (h := ?_) | refine AW.ret (h := ?_) | refine AW.skip (h := ?_) | refine AW.exit (h := ?_) ) | (first | refine t_normal ?_ | refine t_ret ?_ | refine t_exit ?_ | refine b_normal ?_ | refine b_exit ?_ | refine b_exit' (by decide) ?_ | refine b_ret ?_) | (refine d_post (h := ?_) ; first | refine p_ret1 rfl (h := ?_) | refine p_end1 rfl (h := ?_) | refine p_cell1 rfl (h := ?_) ))
  all_goals simp [*]
  all_goals omega

theorem sl00In (a b c : Int) (M : Mem) : Pure Try.prog 23 [.int .i64 a, .int .i64 b, .int .i64 c] M (.bool (decide (b ≤ a ∧ a ≤ c))) := by
  refine pure_of Try.func23 Try.ntmps23 rfl rfl (by repeat' (first | exact Flat.bool _ | exact Flat.int _ _ | exact Flat.float _ _ | exact Flat.string _ | exact flat_nil | exact flat_tabL (fun _ => Flat.bool _) | exact flat_tabL (fun _ => Flat.int _ _) | exact flat_tabL (fun _ => Flat.float _ _) | refine flat_tuple ?_ | refine flat_agg ?_ | refine flat_cons ?_ ?_ | refine flat_append ?_ ?_)) ?_
  simp only [envOf, Nat.zero_add, Nat.reduceAdd]
  repeat' (first | (refine d_AOs (h := ?_) ; first | refine o_move (h := ?_) | refine o_assign (h := ?_) | refine AOs.nil (h := ?_) | (refine d_bin (h := ?_) ; first | refine o_leq (h := ?_) | refine o_geq (h := ?_) ) | (refine d_grd (h := ?_) ; first | refine g_yes (h := ?_) | refine g_no (h := ?_) | refine g_undef (h := ?_) | (refine g_true (h1 := (fun hg => ?_)) (h0 := (fun hg => ?_)) <;> (try rw [hg]) <;> (try simp only [decide_eq_true_eq, decide_eq_false_iff_not, Int.ofNat_inj, Bool.not_eq_true', Bool.not_eq_false', Int.not_lt, Int.not_le] at hg) <;> (try (exfalso; omega)) <;> (try (exact absurd hg (by decide)))) | (refine g_false (h1 := (fun hg => ?_)) (h0 := (fun hg => ?_)) <;> (try rw [hg]) <;> (try simp only [decide_eq_true_eq, decide_eq_false_iff_not, Int.ofNat_inj, Bool.not_eq_true', Bool.not_eq_false', Int.not_lt, Int.not_le] at hg) <;> (try (exfalso; omega)) <;> (try (exact absurd hg (by decide))))) | refine o_at (h := ?_) | refine o_pick (h := ?_) ) | (refine d_AW (h := ?_) ; first | refine AW.seq (h := ?_) | refine AW.region (h := ?_) | (refine AW.cond (ht := (fun hc => ?_)) (hf := (fun hc => ?_)) <;> (try (with_reducible first | exact absurd hc Bool.false_ne_true | exact absurd hc.symm Bool.false_ne_true)) <;> (try simp only [decide_eq_true_eq, decide_eq_false_iff_not, Int.ofNat_inj, Bool.not_eq_true', Bool.not_eq_false', Int.not_lt, Int.not_le] at hc) <;> (try (exfalso; omega)) <;> (try (exact absurd hc (by decide)))) | refine AW.block (h := ?_) | refine AW.ret (h := ?_) | refine AW.skip (h := ?_) | refine AW.exit (h := ?_) ) | (first | refine t_normal ?_ | refine t_ret ?_ | refine t_exit ?_ | refine b_normal ?_ | refine b_exit ?_ | refine b_exit' (by decide) ?_ | refine b_ret ?_) | (refine d_post (h := ?_) ; first | refine p_ret1 rfl (h := ?_) | refine p_end1 rfl (h := ?_) | refine p_cell1 rfl (h := ?_) ))
  all_goals simp [*]
  all_goals omega

/-! ### NumberOfPhase, the law -/
end Go.Proofs.Ytepmlgabadegfaa
