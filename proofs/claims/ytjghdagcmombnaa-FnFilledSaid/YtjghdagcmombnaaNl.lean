/- Infinity, told by its bits. -/
import Derived.Test.YtjghdagcmombnaaDr2
import Derived.Test.YtjghdagcmombnaaFloat
import Derived.Test.YtjghdagcmombnaaTab
import Derived.Test.YtjghdagcmombnaaFv

namespace Go.Proofs.Ytjghdagcmombnaa
open Go.RowKit
attribute [local irreducible] AW AOs AO AQ AQW thenA inBlockA postA ACalls Pure
set_option linter.unusedSimpArgs false
set_option linter.unusedVariables false
set_option linter.unusedSectionVars false

section
variable {P : Program} {ops l : List Oper} {K : St → Prop} {n : Nat} {t : Env} {m : Mem} {d ty : Nat} {pos : String} {af : Array Edge}
theorem o_from64h {f : FuncId} [hf : ExtT P f Extern.MathFloatBits.float64frombits] {x : Operand} {ats : Array TypeId} {a : Nat} (hx : evalA t x = .int .u64 (a : Int) := by (conv => (lhs; whnf)); first | done | rfl) (ha : a < 18446744073709551616 := by decide) {b : Nat} (hcf : cf .f64 a = b := by rfl) (hd : Nat.blt d n = true := by rfl)
    (h : AOs P ops l K ⟨n, (d, .float .f64 b) :: t, m⟩) : AOs P ops (⟨some d, .call { callee := .value (.func f), args := #[x], argTypes := ats }, ty, pos, af, none⟩ :: l) K ⟨n, t, m⟩ := by
  subst hcf
  exact AOs.val (v := .float .f64 (cf .f64 a)) rfl hd (fun B0 w0 r ac w hs => by
    have h1 := hs.eval x
    rw [hx] at h1
    have e1 := h1.int_inv
    refine ⟨.float .f64 a, ?_, .base ⟨a, rfl, rfl, ha⟩⟩
    have ef : ac.eval (.func f) = .func (.func f) #[] #[] := rfl
    have hr : (Extern.MathFloatBits.float64frombits #[.int .u64 (a : Int)]).run P w = .ok (.float .f64 a) w := by
      show (pure (Value.float .f64 ((a : Int).toNat)) : Sem Value).run P w = _
      rw [Int.toNat_natCast]; rfl
    simp [execOp, resolve, ef, Deferred.ofValue, invoke, hf.out, e1, hr, Result.andThen]) h
end
instance : ExtT Try.prog 73 Extern.MathFloatBits.float64frombits := ExtT.mk' Try.func73 (by kernel_rfl) (by kernel_rfl) (by kernel_rfl) (by kernel_rfl)
theorem hInf (M : Mem) : Pure Try.prog 62 [.int .i64 1] M (.float .f64 9218868437227405312) := by
  refine pure_of Try.func62 Try.ntmps62 rfl rfl (by repeat' (first | exact Flat.bool _ | exact Flat.int _ _ | exact Flat.float _ _ | exact Flat.string _ | exact flat_nil | exact flat_tabL (fun _ => Flat.bool _) | exact flat_tabL (fun _ => Flat.int _ _) | exact flat_tabL (fun _ => Flat.float _ _) | refine flat_tuple ?_ | refine flat_agg ?_ | refine flat_cons ?_ ?_ | refine flat_append ?_ ?_)) ?_
  have e : cf .f64 9218868437227405312 = 9218868437227405312 := by decide +kernel
  simp only [envOf, Nat.zero_add, Nat.reduceAdd]
  repeat' (first | (refine d_AOs (h := ?_) ; first | refine o_move (h := ?_) | refine o_assign (h := ?_) | refine AOs.nil (h := ?_) | (refine d_bin (h := ?_) ; first | refine o_geq (h := ?_) )  | refine o_from64h (a := 9218868437227405312) (hcf := e) (h := ?_) | refine o_at (h := ?_) | refine o_integral (h := ?_) ) | (refine d_AW (h := ?_) ; first | refine AW.seq (h := ?_) | refine AW.region (h := ?_) | (refine AW.cond (ht := (fun hc => ?_)) (hf := (fun hc => ?_)) <;> (try (with_reducible first | exact absurd hc Bool.false_ne_true | exact absurd hc.symm Bool.false_ne_true)) <;> (try simp only [decide_eq_true_eq, decide_eq_false_iff_not, Int.ofNat_inj, Bool.not_eq_true', Bool.not_eq_false', Int.not_lt, Int.not_le] at hc) <;> (try (exfalso; omega)) <;> (try (exact absurd hc (by decide)))) | refine AW.block (h := ?_) | refine AW.ret (h := ?_) | refine AW.skip (h := ?_) | refine AW.exit (h := ?_) ) | (first | refine t_normal ?_ | refine t_ret ?_ | refine t_exit ?_ | refine b_normal ?_ | refine b_exit ?_ | refine b_exit' (by decide) ?_ | refine b_ret ?_) | (refine d_post (h := ?_) ; first | refine p_ret1 rfl (h := ?_) | refine p_end1 rfl (h := ?_) | refine p_cell1 rfl (h := ?_) ))
  all_goals rfl
theorem conv_infH : convOk .f64 .f32 9218868437227405312 := .inr fun g mg e h => by
  have : (FloatKind.f64.decode 9218868437227405312).isInfinity = true := by decide +kernel
  rw [h] at this; cases this
end Go.Proofs.Ytjghdagcmombnaa

/- Sums are rounded to the nearest number, a tie to the even one. No program in sight. -/
namespace Go.Proofs.Ytjghdagcmombnaa
open Go.RowKit Ieee
set_option linter.unusedSimpArgs false
set_option linter.unusedVariables false

/-- Cut upwards at most by half; at half only to an even one. -/
theorem cutE_half {s : Bool} {n d c : Nat} (h : 2 * n < (2 * c + 1) * 2 ^ d ∨ (2 * n ≤ (2 * c + 1) * 2 ^ d ∧ c % 2 = 0)) : Toward.even.cut s n d ≤ c := by
  unfold Toward.cut
  simp only
  have hg : 1 <<< min d (n.log2 + 2) = 2 ^ min d (n.log2 + 2) := by rw [Nat.shiftLeft_eq, Nat.one_mul]
  rw [hg]
  have hn : n < 2 ^ (n.log2 + 1) := Nat.lt_log2_self
  by_cases hd : d ≤ n.log2 + 2
  · rw [Nat.min_eq_left hd]
    have hp : 0 < 2 ^ d := Nat.two_pow_pos d
    generalize 2 ^ d = g at *
    have hdm := Nat.div_add_mod n g
    have hr := Nat.mod_lt n hp
    generalize n % g = r at *
    generalize n / g = q at *
    rw [Nat.mul_comm] at hdm
    have e1 : (2 * c + 1) * g = 2 * (c * g) + g := by rw [Nat.add_mul, Nat.one_mul, Nat.mul_assoc]
    rw [e1] at h
    by_cases hqc : q < c
    · have hb : ∀ b : Bool, b.toNat ≤ 1 := fun b => by cases b <;> decide
      have := hb (decide (g < 2 * r) || (g == 2 * r && q % 2 == 1))
      omega
    · have hqc2 : q ≤ c := by
        refine Nat.le_of_not_lt fun hlt => ?_
        have : (c + 1) * g ≤ q * g := Nat.mul_le_mul_right g hlt
        rw [Nat.add_mul, Nat.one_mul] at this
        omega
      obtain rfl : q = c := by omega
      have h3 : (decide (g < 2 * r) || (g == 2 * r && q % 2 == 1)) = false := by
        have h4 : ¬ g < 2 * r := by omega
        rw [decide_eq_false h4, Bool.false_or]
        rcases h with h | ⟨h, h5⟩
        · have : (g == 2 * r) = false := by simp; omega
          rw [this]; rfl
        · rw [h5]; simp
      rw [h3]; simp
  · rw [Nat.min_eq_right (by omega)]
    have hp : 2 ^ (n.log2 + 2) = 2 * 2 ^ (n.log2 + 1) := by rw [Nat.pow_succ]; omega
    have h1 : n / 2 ^ (n.log2 + 2) = 0 := Nat.div_eq_of_lt (by omega)
    have h2 : n % 2 ^ (n.log2 + 2) = n := Nat.mod_eq_of_lt (by omega)
    rw [h1, h2]
    have : (decide (2 ^ (n.log2 + 2) < 2 * n) || (2 ^ (n.log2 + 2) == 2 * n && 0 % 2 == 1)) = false := by
      have h3 : ¬ 2 ^ (n.log2 + 2) < 2 * n := by omega
      simp; omega
    rw [this]; simp
/-- The rung's form once more: at most half too much. -/
theorem nr_form2 {mg : Nat} {e : Int} {N : Nat} (hm : mg ≠ 0) (hk : 0 ≤ e + 149) (hN : N = mg * 2 ^ (e + 149).toNat) :
    ∃ L m, nr mg e = L * 8388608 + m ∧ (∀ c, (2 * N < (2 * c + 1) * 2 ^ L ∨ (2 * N ≤ (2 * c + 1) * 2 ^ L ∧ c % 2 = 0)) → m ≤ c) ∧ (∀ c, N ≤ c * 2 ^ L → m ≤ c) ∧ (∀ c, c * 2 ^ L ≤ N → c ≤ m) ∧ (L = 0 ∨ 2 ^ (L + 23) ≤ N) ∧ N < 2 ^ (L + 24) := by
  obtain ⟨L', m', q1, q2, q3, q4, q5⟩ := nr_form (k := 0) (e := e) hm (by omega) (N := N) (by rw [hN]; congr 2; omega)
  simp only [Nat.add_zero] at q2 q3 q4 q5
  obtain ⟨L, m, q1', hL, hmm⟩ : ∃ L m, nr mg e = L * 8388608 + m ∧ L = (max (e + mg.log2 - 23) (-149) + 149).toNat ∧ m = Toward.even.cut false (mg <<< (e - max (e + mg.log2 - 23) (-149)).toNat) (max (e + mg.log2 - 23) (-149) - e).toNat :=
    ⟨_, _, by unfold nr; rw [if_neg hm], rfl, rfl⟩
  obtain ⟨hl1, hl2⟩ := log_bd hm
  -- the same place
  have hLL : L = L' := by
    by_cases h0 : L' = 0
    · by_cases hz : L = 0
      · omega
      · exfalso
        subst h0
        have h1 : 2 ^ (L + 23) ≤ N := by
          obtain ⟨t, ht⟩ : ∃ t : Nat, e + 149 = t := ⟨(e + 149).toNat, by omega⟩
          rw [ht, Int.toNat_natCast] at hN
          have h2 : L + 23 = mg.log2 + t := by omega
          rw [h2, hN, Nat.pow_add]
          exact Nat.mul_le_mul_right _ hl1
        have h3 := Nat.pow_le_pow_right (show 0 < 2 by decide) (show 0 + 24 ≤ L + 23 by omega)
        omega
    · have h1 : 2 ^ (L' + 23) ≤ N := q4.resolve_left h0
      obtain ⟨t, ht⟩ : ∃ t : Nat, e + 149 = t := ⟨(e + 149).toNat, by omega⟩
      rw [ht, Int.toNat_natCast] at hN
      have b1 : N < 2 ^ (mg.log2 + 1 + t) := by
        rw [hN, Nat.pow_add]; exact Nat.mul_lt_mul_of_pos_right hl2 (Nat.two_pow_pos _)
      have b2 : 2 ^ (mg.log2 + t) ≤ N := by
        rw [hN, Nat.pow_add]; exact Nat.mul_le_mul_right _ hl1
      have c1 : L' + 23 < mg.log2 + 1 + t := (Nat.pow_lt_pow_iff_right (by decide)).1 (Nat.lt_of_le_of_lt h1 b1)
      have c2 : mg.log2 + t < L' + 24 := (Nat.pow_lt_pow_iff_right (by decide)).1 (Nat.lt_of_le_of_lt b2 q5)
      omega
  subst hLL
  obtain rfl : m = m' := Nat.add_left_cancel (q1'.symm.trans q1)
  refine ⟨L, m, q1, fun c hc => ?_, q2, q3, q4, q5⟩
  rw [hmm]
  refine cutE_half ?_
  generalize hlast : max (e + (mg.log2 : Int) - 23) (-149) = last at *
  obtain ⟨t, ht⟩ : ∃ t : Nat, e + 149 = t := ⟨(e + 149).toNat, by omega⟩
  rw [ht, Int.toNat_natCast] at hN
  by_cases h : e ≤ last
  · rw [show (e - last).toNat = 0 by omega, Nat.shiftLeft_zero]
    obtain ⟨d, hd⟩ : ∃ d : Nat, last - e = d := ⟨(last - e).toNat, by omega⟩
    rw [hd, Int.toNat_natCast]
    have h1 : L = d + t := by omega
    have hp := Nat.two_pow_pos t
    have e3 : (2 * c + 1) * 2 ^ (d + t) = (2 * c + 1) * 2 ^ d * 2 ^ t := by rw [Nat.pow_add, Nat.mul_assoc]
    have e4 : 2 * (mg * 2 ^ t) = 2 * mg * 2 ^ t := by rw [Nat.mul_assoc]
    rw [hN, h1, e3, e4] at hc
    exact hc.imp (fun h => Nat.lt_of_mul_lt_mul_right h) fun h => ⟨Nat.le_of_mul_le_mul_right h.1 hp, h.2⟩
  · obtain ⟨d, hd⟩ : ∃ d : Nat, e - last = d := ⟨(e - last).toNat, by omega⟩
    rw [hd, Int.toNat_natCast, show (last - e).toNat = 0 by omega, Nat.pow_zero, Nat.mul_one, Nat.shiftLeft_eq]
    have h1 : t = d + L := by omega
    have hp := Nat.two_pow_pos L
    have e3 : 2 * (mg * 2 ^ (d + L)) = 2 * (mg * 2 ^ d) * 2 ^ L := by rw [Nat.pow_add]; ac_rfl
    rw [hN, h1, e3] at hc
    exact hc.imp (fun h => Nat.lt_of_mul_lt_mul_right h) fun h => ⟨Nat.le_of_mul_le_mul_right h.1 hp, h.2⟩
/-- The rung's magnitude. -/
theorem nr_val {mg : Nat} {e : Int} {N : Nat} (hm : mg ≠ 0) (hk : 0 ≤ e + 149) (hN : N = mg * 2 ^ (e + 149).toNat) :
    ∃ L m, rv (nr mg e) = m * 2 ^ L ∧ (∀ c, (2 * N < (2 * c + 1) * 2 ^ L ∨ (2 * N ≤ (2 * c + 1) * 2 ^ L ∧ c % 2 = 0)) → m ≤ c) ∧ (L = 0 ∨ 2 ^ (L + 23) ≤ N) ∧ N < 2 ^ (L + 24) := by
  obtain ⟨L, m, q1, q0, q2, q3, q4, q5⟩ := nr_form2 hm hk hN
  refine ⟨L, m, ?_, q0, q4, q5⟩
  have hm24 : m ≤ 16777216 := q2 _ (by
    have : 16777216 * 2 ^ L = 2 ^ (L + 24) := by
      rw [show (16777216 : Nat) = 2 ^ 24 from rfl, ← Nat.pow_add]; congr 1; omega
    omega)
  have hm23 : L = 0 ∨ 8388608 ≤ m := q4.imp id fun h => q3 _ (by
    have : 8388608 * 2 ^ L = 2 ^ (L + 23) := by
      rw [show (8388608 : Nat) = 2 ^ 23 from rfl, ← Nat.pow_add]; congr 1; omega
    omega)
  rw [q1, rv_mk hm23 hm24]
/-- At most half a unit too much. -/
theorem nr_half {mg : Nat} {e : Int} {N K : Nat} (hk : 0 ≤ e + 149) (hN : N = mg * 2 ^ (e + 149).toNat) (hb : N < 2 ^ (K + 24)) : 2 * rv (nr mg e) ≤ 2 * N + 2 ^ K := by
  by_cases hm : mg = 0
  · have e0 : nr mg e = 0 := by unfold nr; rw [if_pos hm]
    rw [e0, show rv 0 = 0 from rfl]; exact Nat.zero_le _
  obtain ⟨L, m, q1, q0, q4, q5⟩ := nr_val hm hk hN
  rw [q1]
  have hLK : 2 ^ L ≤ 2 ^ K := by
    rcases q4 with rfl | h
    · exact Nat.pow_le_pow_right (by decide) (Nat.zero_le _)
    · have : L + 23 < K + 24 := (Nat.pow_lt_pow_iff_right (by decide)).1 (Nat.lt_of_le_of_lt h hb)
      exact Nat.pow_le_pow_right (by decide) (by omega)
  refine Nat.le_of_not_lt fun hlt => ?_
  cases m with
  | zero => rw [Nat.zero_mul] at hlt; exact absurd hlt (Nat.not_lt_zero _)
  | succ c =>
    have := q0 c (.inl (by
      have e1 : (2 * c + 1) * 2 ^ L = 2 * ((c + 1) * 2 ^ L) - 2 ^ L := by
        have : 2 * ((c + 1) * 2 ^ L) = (2 * c + 1) * 2 ^ L + 2 ^ L := by
          rw [← Nat.mul_assoc, show 2 * (c + 1) = 2 * c + 1 + 1 by omega, Nat.add_mul (2 * c + 1) 1, Nat.one_mul]
        omega
      omega))
    omega
/-- A tie goes to the even one. -/
theorem nr_even {mg : Nat} {e : Int} {N K c : Nat} (hk : 0 ≤ e + 149) (hN : N = mg * 2 ^ (e + 149).toNat) (hc2 : c % 2 = 0) (hc : 8388608 ≤ c ∧ c < 16777215) (hb : 2 * N ≤ 2 * (c * 2 ^ K) + 2 ^ K) : rv (nr mg e) ≤ c * 2 ^ K := by
  by_cases hle : N ≤ c * 2 ^ K
  · have h := (nr_cmp0 (k := 0) (mg := mg) (e := e) (by omega) (N := N) (by rw [hN]; congr 2; omega) (K * 8388608 + c)).1
    rw [rv_mk (.inr hc.1) (by omega), Nat.pow_zero, Nat.mul_one] at h
    exact h hle
  · have hm : mg ≠ 0 := fun h => by rw [h, Nat.zero_mul] at hN; omega
    obtain ⟨L, m, q1, q0, q4, q5⟩ := nr_val hm hk hN
    have hp := Nat.two_pow_pos K
    have h1 : 2 ^ (K + 23) ≤ N := by
      have : 8388608 * 2 ^ K = 2 ^ (K + 23) := by
        rw [show (8388608 : Nat) = 2 ^ 23 from rfl, ← Nat.pow_add]; congr 1; omega
      have := Nat.mul_le_mul_right (2 ^ K) hc.1
      omega
    have h2 : N < 2 ^ (K + 24) := by
      have e1 : 16777216 * 2 ^ K = 2 ^ (K + 24) := by
        rw [show (16777216 : Nat) = 2 ^ 24 from rfl, ← Nat.pow_add]; congr 1; omega
      have h3 : (c + 1) * 2 ^ K ≤ 16777216 * 2 ^ K := Nat.mul_le_mul_right _ (by omega)
      rw [Nat.add_mul, Nat.one_mul] at h3
      omega
    have c1 : K + 23 < L + 24 := (Nat.pow_lt_pow_iff_right (by decide)).1 (Nat.lt_of_le_of_lt h1 q5)
    have c2 : L ≤ K := by
      rcases q4 with rfl | h
      · omega
      · have : L + 23 < K + 24 := (Nat.pow_lt_pow_iff_right (by decide)).1 (Nat.lt_of_le_of_lt h h2)
        omega
    obtain rfl : L = K := by omega
    rw [q1]
    refine Nat.mul_le_mul_right _ (q0 c (.inr ⟨?_, hc2⟩))
    rw [Nat.add_mul, Nat.one_mul, Nat.mul_assoc]; exact hb
/-! ### Sums and differences -/
theorem sum_nr {s t : Bool} {m n p q : Nat} (h0 : 0 ≤ sg s (m * 2 ^ p) + sg t (n * 2 ^ q)) (hb : (sg s (m * 2 ^ p) + sg t (n * 2 ^ q)).natAbs ≤ FM) :
    ∃ d mg e, (Datum.number s m ((p : Int) - 149)).sum (.number t n ((q : Int) - 149)) = some d ∧ 0 ≤ e + 149 ∧ sg s (m * 2 ^ p) + sg t (n * 2 ^ q) = ((mg * 2 ^ (e + 149).toNat : Nat) : Int) ∧ fv (cf .f32 (FloatKind.f32.format.write d)) = ((rv (nr mg e) : Nat) : Int) := by
  generalize hbase : min ((p : Int) - 149) ((q : Int) - 149) = base
  obtain ⟨b, hbb⟩ : ∃ b : Nat, base = (b : Int) - 149 := ⟨(base + 149).toNat, by omega⟩
  have e1 : ((p : Int) - 149 - base).toNat = p - b := by omega
  have e2 : ((q : Int) - 149 - base).toNat = q - b := by omega
  have hbp : b ≤ p := by omega
  have hbq : b ≤ q := by omega
  have hx : sg s (m * 2 ^ p) + sg t (n * 2 ^ q) = (sg s (m * 2 ^ (p - b)) + sg t (n * 2 ^ (q - b))) * ((2 ^ b : Nat) : Int) := by
    rw [Int.add_mul, ← sg_scale, ← sg_scale, Nat.mul_assoc, Nat.mul_assoc, ← Nat.pow_add, ← Nat.pow_add, Nat.sub_add_cancel hbp, Nat.sub_add_cancel hbq]
  rw [hx] at hb h0 ⊢
  have hd : (Datum.number s m ((p : Int) - 149)).sum (.number t n ((q : Int) - 149)) = some (.number (if sg s (m * 2 ^ (p - b)) + sg t (n * 2 ^ (q - b)) = 0 then (s && t) else decide (sg s (m * 2 ^ (p - b)) + sg t (n * 2 ^ (q - b)) < 0)) (sg s (m * 2 ^ (p - b)) + sg t (n * 2 ^ (q - b))).natAbs base) := by
    rw [← signed_sg, ← signed_sg, ← e1, ← e2, ← hbase]; rfl
  generalize sg s (m * 2 ^ (p - b)) + sg t (n * 2 ^ (q - b)) = x at *
  have hx0 : 0 ≤ x := by
    refine Int.not_lt.1 fun hlt => ?_
    have hp : (0 : Int) < ((2 ^ b : Nat) : Int) := Int.ofNat_lt.2 (Nat.two_pow_pos b)
    have := Int.mul_neg_of_neg_of_pos hlt hp
    omega
  have eb : (base + 149).toNat = b := by omega
  refine ⟨_, x.natAbs, base, hd, by omega, ?_, ?_⟩
  · rw [eb, Int.natCast_mul]; congr 1; omega
  · rw [Int.natAbs_mul, Int.natAbs_natCast] at hb
    have hq := nr_small (Nat.two_pow_pos 0) (nr_cmp0 (mg := x.natAbs) (e := base) (k := 0) (N := x.natAbs * 2 ^ b) (by omega) (by congr 2; omega)) (by rw [Nat.pow_zero, Nat.mul_one]; exact hb)
    show fv (cf .f32 (FloatKind.f32.format.nearest _ _ _)) = _
    rw [nearest_nr, Nat.min_eq_left (by omega)]
    obtain ⟨w1, w2⟩ := fin_word (s := if x = 0 then (s && t) else decide (x < 0)) hq
    rw [fin_cf w1, w2]
    by_cases hz : x = 0
    · have e0 : nr x.natAbs base = 0 := by unfold nr; rw [if_pos (by omega)]
      rw [e0, show rv 0 = 0 from rfl]
      unfold sg
      split <;> simp
    · rw [if_neg hz, decide_eq_false (by omega)]; rfl
theorem fadd_nr {a b : Nat} (ha : fin32 a = true) (hb : fin32 b = true) (h0 : 0 ≤ fv a + fv b) (hm : (fv a + fv b).natAbs ≤ FM) :
    ∃ mg e, 0 ≤ e + 149 ∧ fv a + fv b = ((mg * 2 ^ (e + 149).toNat : Nat) : Int) ∧ fv (fadd .f32 a b) = ((rv (nr mg e) : Nat) : Int) := by
  obtain ⟨s, m, p, hd, hv, _⟩ := fin_form ha
  obtain ⟨t, n, q, hd', hv', _⟩ := fin_form hb
  rw [hv, hv'] at hm h0 ⊢
  obtain ⟨d, mg, e, h1, h2, h3, h4⟩ := sum_nr h0 hm
  refine ⟨mg, e, h2, h3, ?_⟩
  have e' : FloatKind.f32.format.add a b = some (FloatKind.f32.format.write d) := by
    show ((FloatKind.f32.decode a).sum (FloatKind.f32.decode b)).map _ = _
    rw [hd, hd', h1]; rfl
  unfold fadd
  rw [e']; exact h4
theorem fsub_nr {a b : Nat} (ha : fin32 a = true) (hb : fin32 b = true) (h0 : 0 ≤ fv a - fv b) (hm : (fv a - fv b).natAbs ≤ FM) :
    ∃ mg e, 0 ≤ e + 149 ∧ fv a - fv b = ((mg * 2 ^ (e + 149).toNat : Nat) : Int) ∧ fv (fsub .f32 a b) = ((rv (nr mg e) : Nat) : Int) := by
  obtain ⟨s, m, p, hd, hv, _⟩ := fin_form ha
  obtain ⟨t, n, q, hd', hv', _⟩ := fin_form hb
  rw [hv, hv', Int.sub_eq_add_neg, ← sg_not] at hm h0 ⊢
  obtain ⟨d, mg, e, h1, h2, h3, h4⟩ := sum_nr h0 hm
  refine ⟨mg, e, h2, h3, ?_⟩
  have e' : FloatKind.f32.format.sub a b = some (FloatKind.f32.format.write d) := by
    show ((FloatKind.f32.decode a).sum (FloatKind.f32.decode b).opposite).map _ = _
    rw [hd, hd']
    show ((Datum.number s m ((p : Int) - 149)).sum (.number (!t) n ((q : Int) - 149))).map _ = _
    rw [h1]; rfl
  unfold fsub
  rw [e']; exact h4
/-- A difference is at most half a unit too great. -/
theorem sub_half {a b K : Nat} (ha : fin32 a = true) (hb : fin32 b = true) (h0 : 0 ≤ fv a - fv b) (h1 : fv a - fv b < 2 ^ (K + 24)) (hK : K ≤ 140) : 2 * fv (fsub .f32 a b) ≤ 2 * (fv a - fv b) + 2 ^ K := by
  have hb2 : (2 : Nat) ^ (K + 24) ≤ 2 ^ 164 := Nat.pow_le_pow_right (by decide) (by omega)
  have hfm : (2 : Nat) ^ 164 ≤ FM := by decide +kernel
  have e2 : ((2 ^ (K + 24) : Nat) : Int) = 2 ^ (K + 24) := Int.natCast_pow 2 (K + 24)
  have e3 : ((2 ^ K : Nat) : Int) = 2 ^ K := Int.natCast_pow 2 K
  rw [← e2] at h1
  obtain ⟨mg, e, q1, q2, q3⟩ := fsub_nr ha hb h0 (by omega)
  have := nr_half (K := K) q1 rfl (mg := mg) (by omega)
  rw [q3, q2, ← e3]
  omega
/-- A sum that goes beyond an even number by half a unit at most is that number or less. -/
theorem add_even {a b K c : Nat} (ha : fin32 a = true) (hb : fin32 b = true) (h0 : 0 ≤ fv a + fv b) (hc2 : c % 2 = 0) (hc : 8388608 ≤ c ∧ c < 16777215) (hK : K ≤ 140) (h1 : 2 * (fv a + fv b) ≤ 2 * ((c : Int) * 2 ^ K) + 2 ^ K) : fv (fadd .f32 a b) ≤ (c : Int) * 2 ^ K := by
  have hb2 : (2 : Nat) ^ K ≤ 2 ^ 140 := Nat.pow_le_pow_right (by decide) hK
  have hfm : (2 : Nat) ^ 170 ≤ FM := by decide +kernel
  have h5 : c * 2 ^ K ≤ 16777215 * 2 ^ 140 := Nat.mul_le_mul (by omega) hb2
  have e3 : ((2 ^ K : Nat) : Int) = 2 ^ K := Int.natCast_pow 2 K
  have e4 : (c : Int) * 2 ^ K = ((c * 2 ^ K : Nat) : Int) := by rw [Int.natCast_mul, e3]
  rw [e4, ← e3] at h1
  rw [e4]
  obtain ⟨mg, e, q1, q2, q3⟩ := fadd_nr ha hb h0 (by omega)
  have := nr_even (K := K) (c := c) q1 rfl (mg := mg) hc2 hc (by omega)
  rw [q3]
  omega
end Go.Proofs.Ytjghdagcmombnaa
