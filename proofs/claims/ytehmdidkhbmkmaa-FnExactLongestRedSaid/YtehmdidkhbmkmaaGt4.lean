/- The longest red. -/
import Derived.Test.YtehmdidkhbmkmaaGt2
import Derived.Test.YtehmdidkhbmkmaaCp
namespace Go.Proofs.Ytehmdidkhbmkmaa
open Go.RowKit
attribute [local irreducible] AW AOs AO AQ AQW thenA inBlockA postA ACalls Pure
set_option linter.unusedSimpArgs false

/-! ### Runs -/
def runR (h : Nat → Bool) : Nat → Nat
  | 0 => 0
  | i + 1 => if h i = true then 0 else runR h i + 1
def loR (h : Nat → Bool) : Nat → Nat
  | 0 => 0
  | i + 1 => if loR h i < runR h (i + 1) then runR h (i + 1) else loR h i
theorem runR_le (h : Nat → Bool) : ∀ i, runR h i ≤ i
  | 0 => Nat.le_refl 0
  | i + 1 => by have := runR_le h i; simp only [runR]; split <;> omega
theorem loR_le (h : Nat → Bool) : ∀ i, loR h i ≤ i
  | 0 => Nat.le_refl 0
  | i + 1 => by
    have h1 := loR_le h i
    have h2 := runR_le h (i + 1)
    simp only [loR]; split <;> omega
theorem runR_ge (h : Nat → Bool) : ∀ i m, m ≤ runR h i ↔ (m ≤ i ∧ ∀ t, i - m ≤ t → t < i → h t = false)
  | 0, m => by simp [runR]
  | i + 1, m => by
    simp only [runR]
    by_cases hi : h i = true
    · rw [if_pos hi]
      constructor
      · intro hm
        obtain rfl : m = 0 := by omega
        exact ⟨by omega, fun t h1 h2 => by omega⟩
      · rintro ⟨h1, h2⟩
        by_cases hm : m = 0
        · omega
        · have := h2 i (by omega) (by omega)
          rw [hi] at this; cases this
    · rw [if_neg hi]
      cases m with
      | zero => exact ⟨fun _ => ⟨by omega, fun t h1 h2 => by omega⟩, fun _ => by omega⟩
      | succ m =>
        rw [Nat.add_le_add_iff_right, runR_ge h i m]
        constructor
        · rintro ⟨h1, h2⟩
          refine ⟨by omega, fun t h3 h4 => ?_⟩
          by_cases e : t = i
          · subst e; simpa using hi
          · exact h2 t (by omega) (by omega)
        · rintro ⟨h1, h2⟩
          exact ⟨by omega, fun t h3 h4 => h2 t (by omega) (by omega)⟩
theorem loR_ge (h : Nat → Bool) : ∀ n m, m ≤ loR h n ↔ ∃ i, i ≤ n ∧ m ≤ runR h i
  | 0, m => by
    constructor
    · intro hm; exact ⟨0, Nat.le_refl 0, hm⟩
    · rintro ⟨i, h1, h2⟩
      obtain rfl : i = 0 := by omega
      exact h2
  | n + 1, m => by
    simp only [loR]
    constructor
    · intro hm
      by_cases hc : loR h n < runR h (n + 1)
      · rw [if_pos hc] at hm; exact ⟨n + 1, Nat.le_refl _, hm⟩
      · rw [if_neg hc] at hm
        obtain ⟨i, h1, h2⟩ := (loR_ge h n m).1 hm
        exact ⟨i, by omega, h2⟩
    · rintro ⟨i, h1, h2⟩
      by_cases e : i = n + 1
      · subst e; split <;> omega
      · have := (loR_ge h n m).2 ⟨i, by omega, h2⟩
        split <;> omega
theorem per_mul {h : Nat → Bool} {N : Nat} (hp : ∀ x, h (x + N) = h x) (x : Nat) : ∀ k, h (x + N * k) = h x
  | 0 => by rw [Nat.mul_zero, Nat.add_zero]
  | k + 1 => by rw [Nat.mul_succ, ← Nat.add_assoc, hp, per_mul hp x k]
/-- Somewhere all of so many are red. -/
def winR (h : Nat → Bool) (m : Nat) : Prop := ∃ a, ∀ t, a ≤ t → t < a + m → h t = false
theorem loR_win {h : Nat → Bool} {N : Nat} (h0 : 0 < N) (hp : ∀ x, h (x + N) = h x) {q : Nat} (hq : q < N) (hqt : h q = true) (m : Nat) : m ≤ loR h (2 * N) ↔ winR h m := by
  rw [loR_ge]
  constructor
  · rintro ⟨i, h1, h2⟩
    obtain ⟨h3, h4⟩ := (runR_ge h i m).1 h2
    exact ⟨i - m, fun t h5 h6 => h4 t h5 (by omega)⟩
  · rintro ⟨a, ha⟩
    have hdm := Nat.div_add_mod a N
    have hml := Nat.mod_lt a h0
    have hmN : m < N := by
      refine Classical.byContradiction fun hc => ?_
      by_cases hle : a % N ≤ q
      · have := ha (q + N * (a / N)) (by omega) (by omega)
        rw [per_mul hp, hqt] at this; cases this
      · have h2 := ha (q + N * (a / N + 1)) (by rw [Nat.mul_succ]; omega) (by rw [Nat.mul_succ]; omega)
        rw [per_mul hp, hqt] at h2; cases h2
    refine ⟨a % N + m, by omega, (runR_ge h _ m).2 ⟨by omega, fun t h1 h2 => ?_⟩⟩
    have h3 := ha (t + N * (a / N)) (by omega) (by omega)
    rwa [per_mul hp] at h3
theorem loR_rot {h : Nat → Bool} {N r : Nat} (h0 : 0 < N) (hp : ∀ x, h (x + N) = h x) (hr : r ≤ N) {q : Nat} (hqt : h q = true) : loR (fun t => h (r + t)) (2 * N) = loR h (2 * N) := by
  have hp2 : ∀ x, (fun t => h (r + t)) (x + N) = (fun t => h (r + t)) x := fun x => by
    show h (r + (x + N)) = h (r + x)
    rw [← Nat.add_assoc]; exact hp _
  have hq1 : h (q % N) = true := by
    have := per_mul hp (q % N) (q / N)
    rw [Nat.mod_add_div] at this
    rw [← this]; exact hqt
  have hml := Nat.mod_lt q h0
  have hq2 : ∃ x, x < N ∧ (fun t => h (r + t)) x = true := by
    by_cases hle : r ≤ q % N
    · exact ⟨q % N - r, by omega, by show h (r + (q % N - r)) = true; rw [show r + (q % N - r) = q % N by omega]; exact hq1⟩
    · exact ⟨q % N + N - r, by omega, by show h (r + (q % N + N - r)) = true; rw [show r + (q % N + N - r) = q % N + N by omega, hp]; exact hq1⟩
  obtain ⟨x, hx, hxt⟩ := hq2
  have key : ∀ m, m ≤ loR (fun t => h (r + t)) (2 * N) ↔ m ≤ loR h (2 * N) := fun m => by
    rw [loR_win h0 hp2 hx hxt m, loR_win h0 hp hml hq1 m]
    constructor
    · rintro ⟨a, ha⟩
      refine ⟨r + a, fun t h1 h2 => ?_⟩
      have := ha (t - r) (by omega) (by omega)
      simp only at this
      rwa [show r + (t - r) = t by omega] at this
    · rintro ⟨a, ha⟩
      refine ⟨a + N - r, fun t h1 h2 => ?_⟩
      have := ha (r + t - N) (by omega) (by omega)
      have h3 := hp (r + t - N)
      rw [show r + t - N + N = r + t by omega] at h3
      show h (r + t) = false
      rw [h3]; exact this
  exact Nat.le_antisymm ((key _).1 (Nat.le_refl _)) ((key _).2 (Nat.le_refl _))
theorem runR_congr {f g : Nat → Bool} : ∀ {k : Nat}, (∀ t, t < k → f t = g t) → runR f k = runR g k
  | 0, _ => rfl
  | k + 1, h => by simp only [runR]; rw [runR_congr (k := k) fun t ht => h t (by omega), h k (by omega)]
theorem loR_congr {f g : Nat → Bool} : ∀ {k : Nat}, (∀ t, t < k → f t = g t) → loR f k = loR g k
  | 0, _ => rfl
  | k + 1, h => by simp only [loR]; rw [loR_congr (k := k) fun t ht => h t (by omega), runR_congr (k := k + 1) h]

/-! ### Small products -/
section
variable {P : Program} {ops l : List Oper} {K : St → Prop} {n : Nat} {t : Env} {m : Mem} {d ty : Nat} {pos : String} {af : Array Edge} {xt yt : TypeId} {x y : Operand} {k k' : IntKind} {a b c : Int}
theorem o_bitsE {bop : BinOp} (he : bits bop k a b = c) (hop : bop = .and ∨ bop = .or ∨ bop = .xor ∨ bop = .andNot := by simp) (hx : evalA t x = .int k a := by (conv => (lhs; whnf)); first | done | rfl) (hy : evalA t y = .int k b := by (conv => (lhs; whnf)); first | done | rfl) (hd : Nat.blt d n = true := by rfl) (h : AOs P ops l K ⟨n, (d, .int k c) :: t, m⟩) :
    AOs P ops (⟨some d, .binOp bop xt x y yt, ty, pos, af, none⟩ :: l) K ⟨n, t, m⟩ := o_bits hop hx hy hd (he ▸ h)
theorem o_shrE (he : a.fdiv (2 ^ min b.toNat k.bits) = c) (hx : evalA t x = .int k a := by (conv => (lhs; whnf)); first | done | rfl) (hy : evalA t y = .int k' b := by (conv => (lhs; whnf)); first | done | rfl) (hb : 0 ≤ b := by omega) (hd : Nat.blt d n = true := by rfl) (h : AOs P ops l K ⟨n, (d, .int k c) :: t, m⟩) :
    AOs P ops (⟨some d, .binOp .shr xt x y yt, ty, pos, af, none⟩ :: l) K ⟨n, t, m⟩ := o_shr hx hy hb hd (he ▸ h)
end
theorem fdiv_small {a : Int} (h : 0 ≤ a ∧ a < 4294967296) : a.fdiv (2 ^ min (32 : Int).toNat IntKind.u64.bits) = 0 := by
  show a.fdiv 4294967296 = 0
  rw [Int.fdiv_eq_ediv_of_nonneg _ (by decide), Int.ediv_eq_zero_of_lt h.1 h.2]
theorem and_small {n : Nat} (h : n < 4294967296) : bits .and .u64 (n : Int) 4294967295 = n := by
  show IntKind.u64.wrap ((BitVec.ofInt 64 (n : Int) &&& BitVec.ofInt 64 ((4294967295 : Nat) : Int)).toNat : Int) = _
  rw [BitVec.toNat_and, BitVec.ofInt_natCast, BitVec.ofInt_natCast, BitVec.toNat_ofNat, BitVec.toNat_ofNat, Nat.mod_eq_of_lt (show n < 2 ^ 64 by omega), Nat.mod_eq_of_lt (show 4294967295 < 2 ^ 64 by omega)]
  have e : n &&& 4294967295 = n := by
    have := Nat.and_two_pow_sub_one_of_lt_two_pow (x := n) (n := 32) (by omega)
    exact this
  rw [e]
  exact wrap_fits (k := .u64) ⟨by omega, by omega⟩
set_option maxHeartbeats 1000000 in
theorem mMul64 (n : Nat) (hn : n ≤ 1000000) (M : Mem) : Pure Try.prog 168 [.int .u64 (n : Int), .int .u64 2] M (.tuple [.int .u64 0, .int .u64 ((n : Int) * 2)].toArray) := by
  refine pure_of Try.func168 Try.ntmps168 rfl rfl (by repeat' (first | exact Flat.bool _ | exact Flat.int _ _ | exact Flat.float _ _ | exact Flat.string _ | exact flat_nil | exact flat_tabL (fun _ => Flat.bool _) | exact flat_tabL (fun _ => Flat.int _ _) | exact flat_tabL (fun _ => Flat.float _ _) | refine flat_tuple ?_ | refine flat_agg ?_ | refine flat_cons ?_ ?_ | refine flat_append ?_ ?_)) ?_
  have h1 := and_small (n := n) (by omega)
  have h2 : bits .and .u64 2 4294967295 = 2 := by decide
  have h3 : bits .and .u64 0 4294967295 = 0 := by decide
  have h4 : (n : Int).fdiv (2 ^ min 32 IntKind.u64.bits) = 0 := fdiv_small (by omega)
  have h5 : ((n : Int) * 2).fdiv (2 ^ min 32 IntKind.u64.bits) = 0 := fdiv_small (by omega)
  have h6 : Int.fdiv 2 (2 ^ min 32 IntKind.u64.bits) = 0 := by decide
  have h7 : IntKind.u64.wrap ((n : Int) * 2) = (n : Int) * 2 := wrap_fits (k := .u64) ⟨by omega, by omega⟩
  have h8 : IntKind.u64.wrap 0 = 0 := by decide
  simp only [envOf, Nat.zero_add, Nat.reduceAdd]
  repeat' (first | (refine d_AOs (h := ?_) ; first | refine o_move (h := ?_) | refine o_assign (h := ?_) | refine AOs.nil (h := ?_) | (refine d_bin (h := ?_) ; first | refine o_addS (h := ?_) | refine o_add (h := ?_) | refine o_mulS (h := ?_) | refine o_mul (h := ?_) | refine o_shr (h := ?_) | refine o_bits (h := ?_) )  | refine o_at (h := ?_) ) | (refine d_AW (h := ?_) ; first | refine AW.seq (h := ?_) | refine AW.region (h := ?_) | (refine AW.cond (ht := (fun hc => ?_)) (hf := (fun hc => ?_)) <;> (try (with_reducible first | exact absurd hc Bool.false_ne_true | exact absurd hc.symm Bool.false_ne_true)) <;> (try simp only [decide_eq_true_eq, decide_eq_false_iff_not, Int.ofNat_inj, Bool.not_eq_true', Bool.not_eq_false', Int.not_lt, Int.not_le] at hc) <;> (try (exfalso; omega)) <;> (try (exact absurd hc (by decide)))) | refine AW.block (h := ?_) | refine AW.ret (h := ?_) | refine AW.skip (h := ?_) | refine AW.exit (h := ?_) ) | (first | refine t_normal ?_ | refine t_ret ?_ | refine t_exit ?_ | refine b_normal ?_ | refine b_exit ?_ | refine b_exit' (by decide) ?_ | refine b_ret ?_) | (refine d_post (h := ?_) ; first | refine p_ret2 rfl (h := ?_) ))
  all_goals first | rfl | (simp [h1, h2, h3, h4, h5, h6, h7, h8]; done)
set_option maxHeartbeats 1000000 in
theorem mMul (n : Nat) (hn : n ≤ 1000000) (M : Mem) : Pure Try.prog 152 [.int .u64 (n : Int), .int .u64 2] M (.tuple [.int .u64 0, .int .u64 ((n : Int) * 2)].toArray) := by
  refine pure_of Try.func152 Try.ntmps152 rfl rfl (by repeat' (first | exact Flat.bool _ | exact Flat.int _ _ | exact Flat.float _ _ | exact Flat.string _ | exact flat_nil | exact flat_tabL (fun _ => Flat.bool _) | exact flat_tabL (fun _ => Flat.int _ _) | exact flat_tabL (fun _ => Flat.float _ _) | refine flat_tuple ?_ | refine flat_agg ?_ | refine flat_cons ?_ ?_ | refine flat_append ?_ ?_)) ?_
  simp only [envOf, Nat.zero_add, Nat.reduceAdd]
  repeat' (first | (refine d_AOs (h := ?_) ; first | refine o_move (h := ?_) | refine o_assign (h := ?_) | refine AOs.nil (h := ?_)  | refine o_call (hc := (mMul64 n hn _)) (h := ?_) | refine o_at (h := ?_) | refine o_convS (h := ?_) | refine o_conv (h := ?_) | refine o_fconv (h := ?_) | refine o_fofInt (h := ?_) | refine o_extract (h := ?_) ) | (refine d_AW (h := ?_) ; first | refine AW.seq (h := ?_) | refine AW.region (h := ?_) | (refine AW.cond (ht := (fun hc => ?_)) (hf := (fun hc => ?_)) <;> (try (with_reducible first | exact absurd hc Bool.false_ne_true | exact absurd hc.symm Bool.false_ne_true)) <;> (try simp only [decide_eq_true_eq, decide_eq_false_iff_not, Int.ofNat_inj, Bool.not_eq_true', Bool.not_eq_false', Int.not_lt, Int.not_le] at hc) <;> (try (exfalso; omega)) <;> (try (exact absurd hc (by decide)))) | refine AW.block (h := ?_) | refine AW.ret (h := ?_) | refine AW.skip (h := ?_) | refine AW.exit (h := ?_) ) | (first | refine t_normal ?_ | refine t_ret ?_ | refine t_exit ?_ | refine b_normal ?_ | refine b_exit ?_ | refine b_exit' (by decide) ?_ | refine b_ret ?_) | (refine d_post (h := ?_) ; first | refine p_ret2 rfl (h := ?_) ))
  all_goals rfl

/-! ### A list twice -/
theorem rep_0 {n : Nat} {f : Nat → Bool} : (tab (n * 2) (fun _ => Value.bool false)).take 0 ++ tab n (fun i => .bool (f i)) ++ (tab (n * 2) (fun _ => Value.bool false)).drop (0 + (tab n (fun i => Value.bool (f i))).length) = tab (n * 2) (fun i => .bool (if i < n then f i else false)) := by
  rw [st_tabk (by omega)]
  refine tab_congr fun i _ => ?_
  by_cases h : i < n
  · rw [if_pos ⟨by omega, by omega⟩, if_pos h]; rfl
  · rw [if_neg (by omega), if_neg h]
theorem rep_1 {n : Nat} {f : Nat → Bool} : (tab (n * 2) (fun i => Value.bool (if i < n then f i else false))).take n ++ tab n (fun i => .bool (f i)) ++ (tab (n * 2) (fun i => Value.bool (if i < n then f i else false))).drop (n + (tab n (fun i => Value.bool (f i))).length) = tab (n * 2) (fun i => .bool (if i < n then f i else f (i - n))) := by
  rw [st_tabk (by omega)]
  refine tab_congr fun i hi => ?_
  by_cases h : i < n
  · rw [if_neg (by omega), if_pos h, if_pos h]
  · rw [if_pos ⟨by omega, by omega⟩, if_neg h]
theorem rep_h {n : Nat} {f : Nat → Bool} : ((tab (n * 2) (fun i => Value.bool (if i < n then f i else false))).drop 0).take (n * 1) = tab n (fun i => .bool (f i)) := by
  rw [Nat.mul_one, tab_part (by omega)]
  exact tab_congr fun i hi => by rw [Nat.zero_add, if_pos hi]
theorem rep_w {n : Nat} {f : Nat → Bool} : ((tab n (fun i => Value.bool (f i))).drop 0).take (n * 1) = tab n (fun i => .bool (f i)) := by
  rw [List.drop_zero, List.take_of_length_le (by rw [tab_len]; omega)]
set_option maxHeartbeats 2000000 in
theorem mRepeat (a : Option Addr) (n cp : Nat) (f : Nat → Bool) (M : Mem) (hn : 0 < n ∧ n ≤ 240) (hS : SlAt M a n (tab n fun q => .bool (f q))) :
    Alloc Try.prog 112 [.slice a n cp, .int .i64 2] M (.slice (some ⟨M.length, 0, none⟩) (n * 2) (n * 2)) [(⟨tab (n * 2) (fun i => .bool (if i < n then f i else f (i - n))), none, true⟩ : Blk)] := by
  refine alloc_of [0] Try.func112 Try.ntmps112 rfl rfl rfl (by decide) ?_
  obtain ⟨b, tg, rw', rfl, hb⟩ := hS (by omega)
  have hl1 : (tab n (fun i => Value.bool (f i))).length = n * 1 := by rw [tab_len]; omega
  have ho1 : (tab n (fun i => Value.bool (f i))).all one = true := tab_one fun _ => rfl
  have hle0 : 0 + (tab n (fun i => Value.bool (f i))).length ≤ (tab (n * 2) (fun _ => Value.bool false)).length := by rw [tab_len, tab_len]; omega
  have hle1 : n + (tab n (fun i => Value.bool (f i))).length ≤ (tab (n * 2) (fun i => Value.bool (if i < n then f i else false))).length := by rw [tab_len, tab_len]; omega
  simp only [envOf, Nat.zero_add, Nat.reduceAdd]
  repeat' (first | (refine d_AOs (h := ?_) ; first | refine o_move (h := ?_) | refine o_assign (h := ?_) | refine AOs.nil (h := ?_) | (refine d_bin (h := ?_) ; first | refine o_addS (h := ?_) | refine o_add (h := ?_) | refine o_lss (h := ?_) | refine o_gtr (h := ?_) ) | (refine d_grd (h := ?_) ; first | refine g_yes (h := ?_) | refine g_no (h := ?_) | refine g_undef (h := ?_) | (refine g_true (h1 := (fun hg => ?_)) (h0 := (fun hg => ?_)) <;> (try rw [hg]) <;> (try simp only [decide_eq_true_eq, decide_eq_false_iff_not, Int.ofNat_inj, Bool.not_eq_true', Bool.not_eq_false', Int.not_lt, Int.not_le] at hg) <;> (try (exfalso; omega)) <;> (try (exact absurd hg (by decide)))) | (refine g_false (h1 := (fun hg => ?_)) (h0 := (fun hg => ?_)) <;> (try rw [hg]) <;> (try simp only [decide_eq_true_eq, decide_eq_false_iff_not, Int.ofNat_inj, Bool.not_eq_true', Bool.not_eq_false', Int.not_lt, Int.not_le] at hg) <;> (try (exfalso; omega)) <;> (try (exact absurd hg (by decide))))) | refine o_call (hc := (mMul n (by omega) _)) (h := ?_) | refine o_mkS1 (c := n * 2) (h := ?_) | refine o_copy (c := n) (hcn := Nat.min_eq_left (by omega)) (hys := rep_w) (hly := hl1) (hone := ho1) (ho := hle0) (hcs := rep_0) (h := ?_) | refine o_at (h := ?_) | refine o_pick (h := ?_) | refine o_len (h := ?_) | refine o_lenS (h := ?_) | refine o_mkS1 (h := ?_) | refine o_mkS (h := ?_) | refine o_slHi (h := ?_) | refine o_slLo (h := ?_) | refine o_slLH (h := ?_) | refine o_convS (h := ?_) | refine o_conv (h := ?_) | refine o_fconv (h := ?_) | refine o_fofInt (h := ?_) | refine o_extract (h := ?_) ) | (refine d_AW (h := ?_) ; first | refine AW.seq (h := ?_) | refine AW.region (h := ?_) | refine AW.open5 (h1 := ?_) (h2 := ?_) (h3 := ?_) | refine AW.open_ (h := ?_) | (refine AW.cond (ht := (fun hc => ?_)) (hf := (fun hc => ?_)) <;> (try (with_reducible first | exact absurd hc Bool.false_ne_true | exact absurd hc.symm Bool.false_ne_true)) <;> (try simp only [decide_eq_true_eq, decide_eq_false_iff_not, Int.ofNat_inj, Bool.not_eq_true', Bool.not_eq_false', Int.not_lt, Int.not_le] at hc) <;> (try (exfalso; omega)) <;> (try (exact absurd hc (by decide)))) | refine AW.block (h := ?_) | refine AW.ret (h := ?_) | refine AW.skip (h := ?_) | refine AW.exit (h := ?_) ) | (first | refine t_normal ?_ | refine t_ret ?_ | refine t_exit ?_ | refine b_normal ?_ | refine b_exit ?_ | refine b_exit' (by decide) ?_ | refine b_ret ?_) | (refine d_AQ (h := ?_) ; first | refine q_nil (h := ?_) | refine q_switchB (h2 := ?_) | refine q_step (h2 := ?_) | refine q_yes (h2 := ?_) | refine q_no (h2 := ?_) | refine q_undef (h2 := ?_) | (refine q_true (h2 := (fun hg => ?_)) (h0 := (fun hg => ?_)) <;> (try rw [hg]) <;> (try simp only [decide_eq_true_eq, decide_eq_false_iff_not, Int.ofNat_inj, Bool.not_eq_true', Bool.not_eq_false', Int.not_lt, Int.not_le] at hg) <;> (try (exfalso; omega)) <;> (try (exact absurd hg (by decide)))) | (refine q_false (h2 := (fun hg => ?_)) (h0 := (fun hg => ?_)) <;> (try rw [hg]) <;> (try simp only [decide_eq_true_eq, decide_eq_false_iff_not, Int.ofNat_inj, Bool.not_eq_true', Bool.not_eq_false', Int.not_lt, Int.not_le] at hg) <;> (try (exfalso; omega)) <;> (try (exact absurd hg (by decide)))) | refine q_step (h1 := by (refine d_AOs ?_; first | refine o_call (hc := (mMul n (by omega) _)) (h := ?_) | refine o_mkS1 (c := n * 2) (h := ?_) | refine o_copy (c := n) (hcn := Nat.min_eq_left (by omega)) (hys := rep_w) (hly := hl1) (hone := ho1) (ho := hle0) (hcs := rep_0) (h := ?_)) <;> exact AOs.nil rfl) (h2 := ?_) | refine q_yes (h1 := by (refine d_AOs ?_; first | refine o_call (hc := (mMul n (by omega) _)) (h := ?_) | refine o_mkS1 (c := n * 2) (h := ?_) | refine o_copy (c := n) (hcn := Nat.min_eq_left (by omega)) (hys := rep_w) (hly := hl1) (hone := ho1) (ho := hle0) (hcs := rep_0) (h := ?_)) <;> exact AOs.nil rfl) (h2 := ?_) | (refine q_true (h1 := fun hg => by (refine d_AOs ?_; first | refine o_call (hc := (mMul n (by omega) _)) (h := ?_) | refine o_mkS1 (c := n * 2) (h := ?_) | refine o_copy (c := n) (hcn := Nat.min_eq_left (by omega)) (hys := rep_w) (hly := hl1) (hone := ho1) (ho := hle0) (hcs := rep_0) (h := ?_)) <;> exact AOs.nil rfl) (h2 := (fun hg => ?_)) (h0 := (fun hg => ?_)) <;> (try rw [hg]) <;> (try simp only [decide_eq_true_eq, decide_eq_false_iff_not, Int.ofNat_inj, Bool.not_eq_true', Bool.not_eq_false', Int.not_lt, Int.not_le] at hg) <;> (try (exfalso; omega)) <;> (try (exact absurd hg (by decide)))) | (refine q_false (h1 := fun hg => by (refine d_AOs ?_; first | refine o_call (hc := (mMul n (by omega) _)) (h := ?_) | refine o_mkS1 (c := n * 2) (h := ?_) | refine o_copy (c := n) (hcn := Nat.min_eq_left (by omega)) (hys := rep_w) (hly := hl1) (hone := ho1) (ho := hle0) (hcs := rep_0) (h := ?_)) <;> exact AOs.nil rfl) (h2 := (fun hg => ?_)) (h0 := (fun hg => ?_)) <;> (try rw [hg]) <;> (try simp only [decide_eq_true_eq, decide_eq_false_iff_not, Int.ofNat_inj, Bool.not_eq_true', Bool.not_eq_false', Int.not_lt, Int.not_le] at hg) <;> (try (exfalso; omega)) <;> (try (exact absurd hg (by decide)))) | refine q_switch (h2 := ?_)) | (refine d_post (h := ?_) ; first | refine p_ret1 rfl (h := ?_) | refine p_end1 rfl (h := ?_) | refine p_cell1 rfl (h := ?_) ))
  refine AW.loopN [7, 8] (fun k s => (k = 1 ∧ s = ⟨48, [(7, .slice (some ⟨M.length, 0, none⟩) (n * 2) (n * 2)), (8, .int .i64 (n : Int))], M ++ [⟨tab (n * 2) (fun i => .bool (if i < n then f i else false)), none, true⟩]⟩) ∨ (k = 0 ∧ s = ⟨48, [(7, .slice (some ⟨M.length, 0, none⟩) (n * 2) (n * 2)), (8, .int .i64 ((n : Int) + n))], M ++ [⟨tab (n * 2) (fun i => .bool (if i < n then f i else f (i - n))), none, true⟩]⟩)) 1 (.inl ⟨rfl, rfl⟩) ?_
  rintro k s (⟨hk, rfl⟩ | ⟨hk, rfl⟩)
  · have e1 : n * 2 - n = n := by omega
    repeat' (first | (refine d_AOs (h := ?_) ; first | refine o_move (h := ?_) | refine o_assign (h := ?_) | refine AOs.nil (h := ?_) | (refine d_bin (h := ?_) ; first | refine o_addS (h := ?_) | refine o_add (h := ?_) | refine o_lss (h := ?_) | refine o_gtr (h := ?_) ) | (refine d_grd (h := ?_) ; first | refine g_yes (h := ?_) | refine g_no (h := ?_) | refine g_undef (h := ?_) | (refine g_true (h1 := (fun hg => ?_)) (h0 := (fun hg => ?_)) <;> (try rw [hg]) <;> (try simp only [decide_eq_true_eq, decide_eq_false_iff_not, Int.ofNat_inj, Bool.not_eq_true', Bool.not_eq_false', Int.not_lt, Int.not_le] at hg) <;> (try (exfalso; omega)) <;> (try (exact absurd hg (by decide)))) | (refine g_false (h1 := (fun hg => ?_)) (h0 := (fun hg => ?_)) <;> (try rw [hg]) <;> (try simp only [decide_eq_true_eq, decide_eq_false_iff_not, Int.ofNat_inj, Bool.not_eq_true', Bool.not_eq_false', Int.not_lt, Int.not_le] at hg) <;> (try (exfalso; omega)) <;> (try (exact absurd hg (by decide))))) | refine o_slLo (q := n) (hln := e1) (hcp' := e1) (h := ?_) | refine o_slHi (h' := n) (h := ?_) | refine o_copy (c := n) (hcn := Nat.min_eq_left (by omega)) (hys := rep_h) (hly := hl1) (hone := ho1) (ho := hle1) (hcs := rep_1) (h := ?_) | refine o_at (h := ?_) | refine o_pick (h := ?_) | refine o_len (h := ?_) | refine o_lenS (h := ?_) | refine o_mkS1 (h := ?_) | refine o_mkS (h := ?_) | refine o_slHi (h := ?_) | refine o_slLo (h := ?_) | refine o_slLH (h := ?_) | refine o_convS (h := ?_) | refine o_conv (h := ?_) | refine o_fconv (h := ?_) | refine o_fofInt (h := ?_) | refine o_extract (h := ?_) ) | (refine d_AW (h := ?_) ; first | refine AW.seq (h := ?_) | refine AW.region (h := ?_) | refine AW.openW1M (M ++ [⟨tab (n * 2) (fun i => .bool (if i < n then f i else false)), none, true⟩]) 7 (M ++ [⟨tab (n * 2) (fun i => .bool (if i < n then f i else f (i - n))), none, true⟩]) (h := ?_) | refine AW.open5 (h1 := ?_) (h2 := ?_) (h3 := ?_) | refine AW.open_ (h := ?_) | (refine AW.cond (ht := (fun hc => ?_)) (hf := (fun hc => ?_)) <;> (try (with_reducible first | exact absurd hc Bool.false_ne_true | exact absurd hc.symm Bool.false_ne_true)) <;> (try simp only [decide_eq_true_eq, decide_eq_false_iff_not, Int.ofNat_inj, Bool.not_eq_true', Bool.not_eq_false', Int.not_lt, Int.not_le] at hc) <;> (try (exfalso; omega)) <;> (try (exact absurd hc (by decide)))) | refine AW.block (h := ?_) | refine AW.ret (h := ?_) | refine AW.skip (h := ?_) | refine AW.exit (h := ?_) ) | (first | refine t_normal ?_ | refine t_ret ?_ | refine t_exit ?_ | refine b_normal ?_ | refine b_exit ?_ | refine b_exit' (by decide) ?_ | refine b_ret ?_) | (refine d_AQ (h := ?_) ; first | refine q_nil (h := ?_) | refine q_switchB (h2 := ?_) | refine q_step (h2 := ?_) | refine q_yes (h2 := ?_) | refine q_no (h2 := ?_) | refine q_undef (h2 := ?_) | (refine q_true (h2 := (fun hg => ?_)) (h0 := (fun hg => ?_)) <;> (try rw [hg]) <;> (try simp only [decide_eq_true_eq, decide_eq_false_iff_not, Int.ofNat_inj, Bool.not_eq_true', Bool.not_eq_false', Int.not_lt, Int.not_le] at hg) <;> (try (exfalso; omega)) <;> (try (exact absurd hg (by decide)))) | (refine q_false (h2 := (fun hg => ?_)) (h0 := (fun hg => ?_)) <;> (try rw [hg]) <;> (try simp only [decide_eq_true_eq, decide_eq_false_iff_not, Int.ofNat_inj, Bool.not_eq_true', Bool.not_eq_false', Int.not_lt, Int.not_le] at hg) <;> (try (exfalso; omega)) <;> (try (exact absurd hg (by decide)))) | refine q_step (h1 := by (refine d_AOs ?_; first | refine o_slLo (q := n) (hln := e1) (hcp' := e1) (h := ?_) | refine o_slHi (h' := n) (h := ?_) | refine o_copy (c := n) (hcn := Nat.min_eq_left (by omega)) (hys := rep_h) (hly := hl1) (hone := ho1) (ho := hle1) (hcs := rep_1) (h := ?_)) <;> exact AOs.nil rfl) (h2 := ?_) | refine q_yes (h1 := by (refine d_AOs ?_; first | refine o_slLo (q := n) (hln := e1) (hcp' := e1) (h := ?_) | refine o_slHi (h' := n) (h := ?_) | refine o_copy (c := n) (hcn := Nat.min_eq_left (by omega)) (hys := rep_h) (hly := hl1) (hone := ho1) (ho := hle1) (hcs := rep_1) (h := ?_)) <;> exact AOs.nil rfl) (h2 := ?_) | (refine q_true (h1 := fun hg => by (refine d_AOs ?_; first | refine o_slLo (q := n) (hln := e1) (hcp' := e1) (h := ?_) | refine o_slHi (h' := n) (h := ?_) | refine o_copy (c := n) (hcn := Nat.min_eq_left (by omega)) (hys := rep_h) (hly := hl1) (hone := ho1) (ho := hle1) (hcs := rep_1) (h := ?_)) <;> exact AOs.nil rfl) (h2 := (fun hg => ?_)) (h0 := (fun hg => ?_)) <;> (try rw [hg]) <;> (try simp only [decide_eq_true_eq, decide_eq_false_iff_not, Int.ofNat_inj, Bool.not_eq_true', Bool.not_eq_false', Int.not_lt, Int.not_le] at hg) <;> (try (exfalso; omega)) <;> (try (exact absurd hg (by decide)))) | (refine q_false (h1 := fun hg => by (refine d_AOs ?_; first | refine o_slLo (q := n) (hln := e1) (hcp' := e1) (h := ?_) | refine o_slHi (h' := n) (h := ?_) | refine o_copy (c := n) (hcn := Nat.min_eq_left (by omega)) (hys := rep_h) (hly := hl1) (hone := ho1) (ho := hle1) (hcs := rep_1) (h := ?_)) <;> exact AOs.nil rfl) (h2 := (fun hg => ?_)) (h0 := (fun hg => ?_)) <;> (try rw [hg]) <;> (try simp only [decide_eq_true_eq, decide_eq_false_iff_not, Int.ofNat_inj, Bool.not_eq_true', Bool.not_eq_false', Int.not_lt, Int.not_le] at hg) <;> (try (exfalso; omega)) <;> (try (exact absurd hg (by decide)))) | refine q_switch (h2 := ?_)) | (refine d_W (h := ?_) ; first | refine w1_nil (h := ?_) | refine w2_nil (h := ?_) | refine w1_stepN (h2 := ?_) | refine w1_step (h2 := ?_) | refine w2_stepN (h2 := ?_) | refine w2_step (h2 := ?_) | refine w3_nil (h := ?_) | refine w3_stepN (h2 := ?_) | refine w3_step (h2 := ?_) | refine w1_step (h1 := by (simp only [ObK, aft, cond_true, cond_false]; repeat' (first | refine And.intro ?_ ?_ | ((refine d_AOs ?_; first | refine o_slLo (q := n) (hln := e1) (hcp' := e1) (h := ?_) | refine o_slHi (h' := n) (h := ?_) | refine o_copy (c := n) (hcn := Nat.min_eq_left (by omega)) (hys := rep_h) (hly := hl1) (hone := ho1) (ho := hle1) (hcs := rep_1) (h := ?_)) <;> exact AOs.nil rfl)))) (h2 := ?_) | refine w2_step (h1 := by (simp only [ObK, aft, cond_true, cond_false]; repeat' (first | refine And.intro ?_ ?_ | ((refine d_AOs ?_; first | refine o_slLo (q := n) (hln := e1) (hcp' := e1) (h := ?_) | refine o_slHi (h' := n) (h := ?_) | refine o_copy (c := n) (hcn := Nat.min_eq_left (by omega)) (hys := rep_h) (hly := hl1) (hone := ho1) (ho := hle1) (hcs := rep_1) (h := ?_)) <;> exact AOs.nil rfl)))) (h2 := ?_) | refine w3_step (h1 := by (simp only [ObK, aft, cond_true, cond_false]; repeat' (first | refine And.intro ?_ ?_ | ((refine d_AOs ?_; first | refine o_slLo (q := n) (hln := e1) (hcp' := e1) (h := ?_) | refine o_slHi (h' := n) (h := ?_) | refine o_copy (c := n) (hcn := Nat.min_eq_left (by omega)) (hys := rep_h) (hly := hl1) (hone := ho1) (ho := hle1) (hcs := rep_1) (h := ?_)) <;> exact AOs.nil rfl)))) (h2 := ?_)) | (refine d_post (h := ?_) ; first | refine p_ret1 rfl (h := ?_) | refine p_end1 rfl (h := ?_) | refine p_cell1 rfl (h := ?_) ))
    exact ⟨0, by omega, .inr ⟨rfl, rfl⟩⟩
  · repeat' (first | (refine d_AOs (h := ?_) ; first | refine o_move (h := ?_) | refine o_assign (h := ?_) | refine AOs.nil (h := ?_) | (refine d_bin (h := ?_) ; first | refine o_addS (h := ?_) | refine o_add (h := ?_) | refine o_lss (h := ?_) | refine o_gtr (h := ?_) ) | (refine d_grd (h := ?_) ; first | refine g_yes (h := ?_) | refine g_no (h := ?_) | refine g_undef (h := ?_) | (refine g_true (h1 := (fun hg => ?_)) (h0 := (fun hg => ?_)) <;> (try rw [hg]) <;> (try simp only [decide_eq_true_eq, decide_eq_false_iff_not, Int.ofNat_inj, Bool.not_eq_true', Bool.not_eq_false', Int.not_lt, Int.not_le] at hg) <;> (try (exfalso; omega)) <;> (try (exact absurd hg (by decide)))) | (refine g_false (h1 := (fun hg => ?_)) (h0 := (fun hg => ?_)) <;> (try rw [hg]) <;> (try simp only [decide_eq_true_eq, decide_eq_false_iff_not, Int.ofNat_inj, Bool.not_eq_true', Bool.not_eq_false', Int.not_lt, Int.not_le] at hg) <;> (try (exfalso; omega)) <;> (try (exact absurd hg (by decide))))) | refine o_at (h := ?_) | refine o_pick (h := ?_) | refine o_len (h := ?_) | refine o_lenS (h := ?_) | refine o_mkS1 (h := ?_) | refine o_mkS (h := ?_) | refine o_slHi (h := ?_) | refine o_slLo (h := ?_) | refine o_slLH (h := ?_) | refine o_convS (h := ?_) | refine o_conv (h := ?_) | refine o_fconv (h := ?_) | refine o_fofInt (h := ?_) | refine o_extract (h := ?_) ) | (refine d_AW (h := ?_) ; first | refine AW.seq (h := ?_) | refine AW.region (h := ?_) | refine AW.open5 (h1 := ?_) (h2 := ?_) (h3 := ?_) | refine AW.open_ (h := ?_) | (refine AW.cond (ht := (fun hc => ?_)) (hf := (fun hc => ?_)) <;> (try (with_reducible first | exact absurd hc Bool.false_ne_true | exact absurd hc.symm Bool.false_ne_true)) <;> (try simp only [decide_eq_true_eq, decide_eq_false_iff_not, Int.ofNat_inj, Bool.not_eq_true', Bool.not_eq_false', Int.not_lt, Int.not_le] at hc) <;> (try (exfalso; omega)) <;> (try (exact absurd hc (by decide)))) | refine AW.block (h := ?_) | refine AW.ret (h := ?_) | refine AW.skip (h := ?_) | refine AW.exit (h := ?_) ) | (first | refine t_normal ?_ | refine t_ret ?_ | refine t_exit ?_ | refine b_normal ?_ | refine b_exit ?_ | refine b_exit' (by decide) ?_ | refine b_ret ?_) | (refine d_AQ (h := ?_) ; first | refine q_nil (h := ?_) | refine q_switchB (h2 := ?_) | refine q_step (h2 := ?_) | refine q_yes (h2 := ?_) | refine q_no (h2 := ?_) | refine q_undef (h2 := ?_) | (refine q_true (h2 := (fun hg => ?_)) (h0 := (fun hg => ?_)) <;> (try rw [hg]) <;> (try simp only [decide_eq_true_eq, decide_eq_false_iff_not, Int.ofNat_inj, Bool.not_eq_true', Bool.not_eq_false', Int.not_lt, Int.not_le] at hg) <;> (try (exfalso; omega)) <;> (try (exact absurd hg (by decide)))) | (refine q_false (h2 := (fun hg => ?_)) (h0 := (fun hg => ?_)) <;> (try rw [hg]) <;> (try simp only [decide_eq_true_eq, decide_eq_false_iff_not, Int.ofNat_inj, Bool.not_eq_true', Bool.not_eq_false', Int.not_lt, Int.not_le] at hg) <;> (try (exfalso; omega)) <;> (try (exact absurd hg (by decide)))) | refine q_switch (h2 := ?_)) | (refine d_post (h := ?_) ; first | refine p_ret1 rfl (h := ?_) | refine p_end1 rfl (h := ?_) | refine p_cell1 rfl (h := ?_) ))
    exact p_allocS rfl (by rfl) (by rfl) rfl rfl (flat_tabs fun i => (by repeat' (first | exact Flat.bool _ | exact Flat.int _ _ | exact Flat.float _ _ | exact Flat.string _ | exact flat_nil | exact flat_tabL (fun _ => Flat.bool _) | exact flat_tabL (fun _ => Flat.int _ _) | exact flat_tabL (fun _ => Flat.float _ _) | refine flat_tuple ?_ | refine flat_agg ?_ | refine flat_cons ?_ ?_ | refine flat_append ?_ ?_)))
end Go.Proofs.Ytehmdidkhbmkmaa
