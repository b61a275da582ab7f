/- What the functions on numbers and detectors give. -/
import Derived.Test.YtddmclkijheicaaDoorB1
namespace Go.Proofs.YtddmclkijheicaaDoor
open Go.RowKit
attribute [local irreducible] AW AOs AO AQ AQW thenA inBlockA postA ACalls Pure
set_option linter.unusedSimpArgs false
set_option linter.unusedVariables false
set_option linter.unusedSectionVars false

/-- Neither a NaN nor an infinity. -/
def ffin (k : FloatKind) (a : Nat) : Bool := !(k.decode a).isNaN && !(k.decode a).isInfinity
theorem nn_of_fin {k : FloatKind} {a : Nat} (h : ffin k a = true) : fnan k a = false := by
  unfold ffin at h; unfold fnan; simp at h; exact h.1

theorem sub_self_fin (k : FloatKind) (a : Nat) : feq k (fsub k a a) 0 = ffin k a := by
  have z : ∀ s, k.decode (k.format.word s 0) = .number s 0 k.format.leastPlace ∧ fnan k (k.format.word s 0) = false := by
    intro s; cases k <;> cases s <;> exact ⟨rfl, rfl⟩
  unfold ffin feq fsub Ieee.Format.sub
  have hz : k.format.read 0 = .number false 0 k.format.leastPlace := by cases k <;> rfl
  cases hd : k.decode a with
  | nan s t =>
    have e : k.format.read a = .nan s t := hd
    rw [e]
    show (k.format.order (nanOf k) 0 == some .eq) = _
    cases k <;> rfl
  | infinity s =>
    have e : k.format.read a = .infinity s := hd
    rw [e]
    show (k.format.order (fres k (Option.map k.format.write (if s = !s then some (.infinity s) else none))) 0 == some .eq) = _
    cases s <;> cases k <;> rfl
  | number s mg ep =>
    have e : k.format.read a = .number s mg ep := hd
    rw [e]
    simp only [Ieee.Datum.opposite, Ieee.Datum.sum, Ieee.Datum.isNaN, Ieee.Datum.isInfinity, Bool.not_false, Bool.and_self, Option.map_some]
    have h0 : Ieee.signed s mg (ep - min ep ep).toNat + Ieee.signed (!s) mg (ep - min ep ep).toNat = 0 := by
      unfold Ieee.signed; cases s <;> simp <;> omega
    rw [h0]
    simp only [if_true, Int.natAbs_zero]
    have h1 : k.format.write (.number (s && !s) 0 (min ep ep)) = k.format.word false 0 := by
      show k.format.nearest _ 0 _ = _
      unfold Ieee.Format.nearest; cases s <;> rfl
    rw [h1]
    show (k.format.order (cf k (k.format.word false 0)) 0 == some .eq) = true
    rw [cf_of_not (z false).2]
    show ((k.decode (k.format.word false 0)).order (k.format.read 0) == some .eq) = true
    rw [(z false).1, hz]
    simp [Ieee.Datum.order]

/-- An amount: finite, and not below the positive zero. -/
def isAm (a : Nat) : Bool := ffin .f32 a && (fgt .f32 a 0 || decide ((a : Int) = 0))
theorem nn_conv {a : Nat} (h : fnan .f32 a = false) : fnan .f64 (fconv .f32 .f64 a) = false := by
  unfold fconv
  cases hd : FloatKind.f32.decode a with
  | number s mg e =>
    show fnan .f64 (cf .f64 (FloatKind.f64.format.write _)) = false
    rw [cf_of_not (write_nn rfl)]; exact write_nn rfl
  | infinity s =>
    show fnan .f64 (cf .f64 (FloatKind.f64.format.write (.infinity s))) = false
    rw [cf_of_not (write_nn rfl)]; exact write_nn rfl
  | nan s f => unfold fnan at h; rw [hd] at h; cases h
theorem conv_word {a : Nat} {s : Bool} {mg : Nat} {e : Int} (h : FloatKind.f32.decode a = .number s mg e) : ∃ q, fconv .f32 .f64 a = FloatKind.f64.format.word s q ∧ q ≤ 9218868437227405312 := by
  obtain ⟨q, hq, hl⟩ := nearest_word FloatKind.f64.format s mg e
  refine ⟨q, ?_, hl⟩
  unfold fconv
  rw [h]
  show cf .f64 (FloatKind.f64.format.write _) = _
  rw [cf_of_not (write_nn rfl)]
  exact hq
theorem conv_neg {a : Nat} {s : Bool} {mg : Nat} {e : Int} (h : FloatKind.f32.decode a = .number s mg e) : decide (IntKind.i64.wrap (fconv .f32 .f64 a) < 0) = s := by
  obtain ⟨q, hq, hl⟩ := conv_word h
  have e1 : FloatKind.f64.format.signWeight = 9223372036854775808 := rfl
  rw [hq, IntKind.wrap_i64]
  unfold Ieee.Format.word
  rw [e1]
  cases s <;> simp <;> omega
theorem order_zero {k : FloatKind} {a : Nat} {s : Bool} {mg : Nat} {e : Int} (h : k.decode a = .number s mg e) : ∃ n, k.format.order a 0 = some (compare (Ieee.signed s mg n) 0) := by
  have hz : k.format.read 0 = .number false 0 k.format.leastPlace := by cases k <;> rfl
  unfold Ieee.Format.order
  have h' : k.format.read a = .number s mg e := h
  rw [h', hz]
  refine ⟨(e - min e k.format.leastPlace).toNat, ?_⟩
  simp only [Ieee.Datum.order]
  congr 2
  simp [Ieee.signed]
theorem zero_word {a : Nat} (ha : a < 4294967296) {s : Bool} {mg : Nat} {e : Int} (h : FloatKind.f32.decode a = .number s mg e) : (s = false ∧ mg = 0) ↔ a = 0 := by
  have e1 : FloatKind.f32.format.signWeight = 2147483648 := rfl
  have e2 : FloatKind.f32.format.binade = 8388608 := rfl
  have e3 : FloatKind.f32.format.infRung = 2139095040 := rfl
  unfold FloatKind.decode Ieee.Format.read at h
  simp only [e1, e2, e3] at h
  split at h
  · simp only [Ieee.Datum.number.injEq] at h
    obtain ⟨h1, h2, _⟩ := h
    rw [← h1, ← h2]
    simp only [beq_eq_false_iff_ne]
    omega
  · split at h
    · simp only [Ieee.Datum.number.injEq] at h
      obtain ⟨h1, h2, _⟩ := h
      rw [← h2]
      constructor
      · omega
      · intro h0; subst h0; omega
    · split at h <;> cases h
theorem am_eq {a : Nat} (ha : FltOk .f32 a) : (fge .f32 a 0 && (ffin .f32 a && !decide (IntKind.i64.wrap (fconv .f32 .f64 a) < 0))) = isAm a := by
  unfold isAm
  cases hd : FloatKind.f32.decode a with
  | nan s f => have : ffin .f32 a = false := by unfold ffin; rw [hd]; rfl
               rw [this]; simp
  | infinity s => have : ffin .f32 a = false := by unfold ffin; rw [hd]; rfl
                  rw [this]; simp
  | number s mg e =>
    have hf : ffin .f32 a = true := by unfold ffin; rw [hd]; rfl
    have hz := zero_word ha.1 hd
    rw [hf, conv_neg hd]
    obtain ⟨n, ho⟩ := order_zero hd
    unfold fge fgt
    rw [ho]
    cases s with
    | true =>
      have h0 : a ≠ 0 := fun h => by simp at hz; exact hz h
      have : ¬ Ieee.signed true mg n > 0 := by
        obtain ⟨z, hz⟩ : ∃ z : Nat, Ieee.signed true mg n = -(z : Int) := ⟨mg <<< n, rfl⟩
        omega
      have h2 : compare (Ieee.signed true mg n) 0 ≠ .gt := fun h => this (Int.compare_eq_gt.1 h)
      simp [h0, h2]
    | false =>
      obtain ⟨z, h1, h2⟩ : ∃ z : Nat, Ieee.signed false mg n = (z : Int) ∧ (mg ≠ 0 → 0 < z) :=
        ⟨mg <<< n, rfl, fun h => by rw [Nat.shiftLeft_eq]; exact Nat.mul_pos (by omega) (Nat.two_pow_pos n)⟩
      rw [h1]
      by_cases hm : mg = 0
      · have h0 : a = 0 := hz.1 ⟨rfl, hm⟩
        have h3 : z = 0 := by
          have : Ieee.signed false mg n = 0 := by subst hm; simp [Ieee.signed]
          omega
        subst h3
        simp [h0]
      · have h4 := h2 hm
        have h2 : compare (z : Int) 0 = .gt := Int.compare_eq_gt.2 (by omega)
        rw [h2]; simp
/-! ### Detectors -/
/-- A detector: its cell, what it carries, its count, what was full, its ticks. -/
def detV (c : Int) (a : Nat) (n : Int) (f : Nat) (t : Int) : Value := .agg [.int .i64 c, .float .f32 a, .int .i16 n, .float .f32 f, .int .i64 t].toArray
def detOk (c : Int) (a : Nat) (n : Int) (f : Nat) (t : Int) : Bool :=
  decide (0 ≤ c ∧ c ≤ 14) && (isAm a && (flt .f32 a 1065353216 && (decide (0 ≤ n) && (isAm f && decide (0 ≤ t ∧ t ≤ 1000000)))))

/-- The same number: both NaN, or the same word. -/
def sameN (a b : Nat) : Bool := decide (a = b)

theorem nan_eq {k : FloatKind} {a : Nat} (h : FltOk k a) (hn : fnan k a = true) : a = nanOf k := by rw [← h.2, cf_of_nan hn]
theorem same_nan {k : FloatKind} {a b : Nat} (ha : FltOk k a) (hb : FltOk k b) (hn : fnan k a = true) : decide (a = b) = fnan k b := by
  cases h : fnan k b
  · exact decide_eq_false fun e => by subst e; rw [hn] at h; cases h
  · exact decide_eq_true (by rw [nan_eq ha hn, nan_eq hb h])
def sameDet (c : Int) (a : Nat) (n : Int) (f : Nat) (t : Int) (c' : Int) (a' : Nat) (n' : Int) (f' : Nat) (t' : Int) : Bool :=
  decide (c = c') && (decide (a = a') && (decide (n = n') && (decide (f = f') && decide (t = t'))))
def placeV (c : Int) : Value := if 0 ≤ c ∧ c ≤ 14 then .tuple [detV c 0 0 0 0, .int .i64 0].toArray else .tuple [detV 0 0 0 0 0, .int .i64 2].toArray
theorem flat_placeV (c : Int) : Flat (placeV c) := by
  unfold placeV detV; split <;> exact (by repeat' (first | exact Flat.bool _ | exact Flat.int _ _ | exact Flat.float _ _ | exact Flat.string _ | exact flat_nil | exact flat_tabL (fun _ => Flat.bool _) | exact flat_tabL (fun _ => Flat.int _ _) | exact flat_tabL (fun _ => Flat.float _ _) | refine flat_tuple ?_ | refine flat_agg ?_ | refine flat_cons ?_ ?_ | refine flat_append ?_ ?_))
theorem placeV_eq (c : Int) : ∃ c' e, placeV c = .tuple [detV c' 0 0 0 0, .int .i64 e].toArray := by
  unfold placeV; split <;> exact ⟨_, _, rfl⟩
/-! ### Counts -/
theorem cut_zero (s : Bool) (n d : Nat) : Ieee.Toward.zero.cut s n d = n / 2 ^ d := by
  unfold Ieee.Toward.cut
  simp only [Bool.toNat_false, Nat.add_zero, Nat.shiftLeft_eq, Nat.one_mul]
  by_cases h : d ≤ n.log2 + 2
  · rw [Nat.min_eq_left h]
  · rw [Nat.min_eq_right (by omega)]
    have h1 : n < 2 ^ (n.log2 + 1) := Nat.lt_log2_self
    have h2 : 2 ^ (n.log2 + 1) ≤ 2 ^ (n.log2 + 2) := Nat.pow_le_pow_right (by omega) (by omega)
    have h3 : 2 ^ (n.log2 + 1) ≤ 2 ^ d := Nat.pow_le_pow_right (by omega) (by omega)
    rw [Nat.div_eq_of_lt (by omega), Nat.div_eq_of_lt (by omega)]

/-- A number, cut to a whole one. -/
def cutN (mg : Nat) (e : Int) : Nat := (mg * 2 ^ e.toNat) / 2 ^ (-e).toNat
theorem toInt_num (s : Bool) (mg : Nat) (e : Int) : (Ieee.Datum.number s mg e).toInt .zero = some (if s then -(cutN mg e : Int) else cutN mg e) := by
  simp only [Ieee.Datum.toInt, Ieee.Datum.integral, cut_zero, Nat.shiftLeft_eq]
  unfold Ieee.signed cutN
  simp

theorem cut_le {mg p u : Nat} {e : Int} (h : mg * 2 ^ (e - min e (-(u : Int))).toNat ≤ (p * 2 ^ u) * 2 ^ (-(u : Int) - min e (-(u : Int))).toNat) : cutN mg e ≤ p := by
  unfold cutN
  apply Nat.div_le_of_le_mul
  by_cases h1 : e < -(u : Int)
  · have e1 : min e (-(u : Int)) = e := by omega
    rw [e1] at h
    obtain ⟨k, hk⟩ : ∃ k : Nat, e = -((u + k : Nat) : Int) := ⟨(-e).toNat - u, by omega⟩
    have e2 : (e - e).toNat = 0 := by omega
    have e3 : (-(u : Int) - e).toNat = k := by omega
    have e4 : e.toNat = 0 := by omega
    have e5 : (-e).toNat = u + k := by omega
    rw [e2, e3] at h
    rw [e4, e5, Nat.pow_add]
    calc mg * 2 ^ 0 ≤ p * 2 ^ u * 2 ^ k := h
      _ = 2 ^ u * 2 ^ k * p := by rw [Nat.mul_assoc, Nat.mul_comm p]
  · have e1 : min e (-(u : Int)) = -(u : Int) := by omega
    rw [e1] at h
    have e3 : (-(u : Int) - -(u : Int)).toNat = 0 := by omega
    rw [e3, Nat.pow_zero, Nat.mul_one] at h
    by_cases h2 : 0 ≤ e
    · obtain ⟨k, rfl⟩ := Int.eq_ofNat_of_zero_le h2
      have e4 : ((k : Int) - -(u : Int)).toNat = k + u := by omega
      have e5 : (-(k : Int)).toNat = 0 := by omega
      rw [e4, Nat.pow_add, ← Nat.mul_assoc] at h
      rw [e5, Int.toNat_natCast, Nat.pow_zero, Nat.one_mul]
      exact Nat.le_of_mul_le_mul_right h (Nat.two_pow_pos u)
    · obtain ⟨k, hk⟩ : ∃ k : Nat, e = -(k : Int) := ⟨(-e).toNat, by omega⟩
      subst hk
      have e4 : (-(k : Int) - -(u : Int)).toNat = u - k := by omega
      have e5 : (- -(k : Int)).toNat = k := by omega
      have e6 : (-(k : Int)).toNat = 0 := by omega
      rw [e4] at h
      rw [e5, e6, Nat.pow_zero, Nat.mul_one]
      have e7 : 2 ^ u = 2 ^ k * 2 ^ (u - k) := by rw [← Nat.pow_add]; congr 1; omega
      rw [e7, ← Nat.mul_assoc] at h
      have h3 := Nat.le_of_mul_le_mul_right h (Nat.two_pow_pos (u - k))
      rw [Nat.mul_comm]; exact h3

theorem fnan_fint (w : Ieee.Toward) (x : Nat) : fnan .f64 (fint w x) = fnan .f64 x := by
  cases h : fnan .f64 x
  · unfold fint
    rw [fnan_cf]
    cases hd : FloatKind.f64.decode x with
    | number s mg e => exact write_nn rfl
    | infinity s => exact write_nn rfl
    | nan s f => unfold fnan at h; rw [hd] at h; cases h
  · rw [fint_nan h, nanOf_nan]
theorem fnan_conv (a : Nat) : fnan .f64 (fconv .f32 .f64 a) = fnan .f32 a := by
  cases h : fnan .f32 a
  · exact nn_conv h
  · obtain ⟨_, _, hd⟩ := isNaN_eq h
    unfold fconv
    rw [hd]
    exact nanOf_nan .f64
theorem signed_pos (mg n : Nat) : Ieee.signed false mg n = ((mg * 2 ^ n : Nat) : Int) := by
  rw [← Nat.shiftLeft_eq]; rfl
theorem signed_neg (mg n : Nat) : Ieee.signed true mg n = -((mg * 2 ^ n : Nat) : Int) := by
  rw [← Nat.shiftLeft_eq]; rfl
theorem le_of_cmp {A B : Int} (h : (some (compare A B) == some Ordering.gt) = false) : A ≤ B := by
  by_cases hab : B < A
  · rw [Int.compare_eq_gt.2 hab] at h; cases h
  · omega
theorem ge_of_cmp {A B : Int} (h : (some (compare A B) == some Ordering.lt) = false) : B ≤ A := by
  by_cases hab : A < B
  · rw [Int.compare_eq_lt.2 hab] at h; cases h
  · omega
theorem count_range {x : Nat} (hn : fnan .f64 x = false) (h1 : fgt .f64 x 4674736138332667904 = false) (h2 : flt .f64 x 13898108450065350656 = false) :
    ∃ i, (FloatKind.f64.decode x).toInt .zero = some i ∧ -32768 ≤ i ∧ i ≤ 32767 := by
  have hc1 : FloatKind.f64.format.read 4674736138332667904 = .number false (32767 * 2 ^ 38) (-(38 : Nat)) := by rfl
  have hc2 : FloatKind.f64.format.read 13898108450065350656 = .number true (32768 * 2 ^ 37) (-(37 : Nat)) := by rfl
  unfold fgt Ieee.Format.order at h1
  unfold flt Ieee.Format.order at h2
  rw [hc1] at h1
  rw [hc2] at h2
  cases hd : FloatKind.f64.decode x with
  | nan s f => unfold fnan at hn; rw [hd] at hn; cases hn
  | infinity s =>
    have hd' : FloatKind.f64.format.read x = .infinity s := hd
    rw [hd'] at h1 h2
    cases s
    · cases h1
    · cases h2
  | number s mg e =>
    have hd' : FloatKind.f64.format.read x = .number s mg e := hd
    rw [hd'] at h1 h2
    have g1 := le_of_cmp h1
    have g2 := ge_of_cmp h2
    refine ⟨_, toInt_num s mg e, ?_⟩
    cases s
    · rw [signed_pos, signed_pos] at g1
      have g3 : cutN mg e ≤ 32767 := cut_le (u := 38) (Int.ofNat_le.1 g1)
      simp only [Bool.false_eq_true, if_false]
      omega
    · rw [signed_neg, signed_neg] at g2
      have g3 : cutN mg e ≤ 32768 := cut_le (u := 37) (Int.ofNat_le.1 (by omega))
      simp only [if_true]
      omega

/-- The nearest count. -/
def countOf (a : Nat) : Int :=
  if fnan .f32 a = true then 0
  else if fgt .f64 (fint .even (fconv .f32 .f64 a)) 4674736138332667904 = true then 32767
  else if flt .f64 (fint .even (fconv .f32 .f64 a)) 13898108450065350656 = true then -32768
  else ((FloatKind.f64.decode (fint .even (fconv .f32 .f64 a))).toInt .zero).getD 0

end Go.Proofs.YtddmclkijheicaaDoor
