/- Values of single floats as whole numbers (in units of the least one); what rounding gives. No program in sight. -/
import Derived.Test.YtjghdagcmombnaaFloat

namespace Go.Proofs.Ytjghdagcmombnaa
open Go.RowKit Ieee
set_option linter.unusedSimpArgs false
set_option linter.unusedVariables false

/-- The magnitude of a rung. -/
def rv (q : Nat) : Nat := if q < 8388608 then q else (8388608 + q % 8388608) * 2 ^ (q / 8388608 - 1)
theorem rv_lo {q : Nat} (h : q < 8388608) : rv q = q := if_pos h
theorem rv_mk {L m : Nat} (h : L = 0 ∨ 8388608 ≤ m) (hm : m ≤ 16777216) : rv (L * 8388608 + m) = m * 2 ^ L := by
  unfold rv
  rcases h with rfl | h
  · rw [Nat.zero_mul, Nat.zero_add, Nat.pow_zero, Nat.mul_one]
    split
    · rfl
    · by_cases e : m = 16777216
      · subst e; decide
      · rw [show m / 8388608 = 1 by omega, show m % 8388608 = m - 8388608 by omega]
        simp; omega
  · rw [if_neg (by omega)]
    by_cases e : m = 16777216
    · subst e
      rw [show (L * 8388608 + 16777216) / 8388608 = L + 2 by omega, show (L * 8388608 + 16777216) % 8388608 = 0 by omega, show L + 2 - 1 = L + 1 by omega, Nat.pow_succ]
      omega
    · rw [show (L * 8388608 + m) / 8388608 = L + 1 by omega, show (L * 8388608 + m) % 8388608 = m - 8388608 by omega, show L + 1 - 1 = L by omega, show 8388608 + (m - 8388608) = m by omega]
theorem rv_form (q : Nat) : ∃ L m, q = L * 8388608 + m ∧ m < 16777216 ∧ (L = 0 ∨ 8388608 ≤ m) ∧ rv q = m * 2 ^ L := by
  by_cases h : q < 8388608
  · exact ⟨0, q, by omega, by omega, .inl rfl, by rw [rv_lo h]; simp⟩
  · refine ⟨q / 8388608 - 1, 8388608 + q % 8388608, by omega, by omega, .inr (by omega), ?_⟩
    unfold rv; rw [if_neg h]
/-- A number without a fraction, cut, against a whole one. -/
theorem cutE_le {s : Bool} {n d c : Nat} (h : n ≤ c * 2 ^ d) : Toward.even.cut s n d ≤ c := by
  unfold Toward.cut
  simp only
  have hg : 1 <<< min d (n.log2 + 2) = 2 ^ min d (n.log2 + 2) := by rw [Nat.shiftLeft_eq, Nat.one_mul]
  rw [hg]
  have hn : n < 2 ^ (n.log2 + 1) := Nat.lt_log2_self
  by_cases hd : d ≤ n.log2 + 2
  · rw [Nat.min_eq_left hd]
    have hp : 0 < 2 ^ d := Nat.two_pow_pos d
    generalize 2 ^ d = g at *
    have hle : n / g ≤ c := by
      have := Nat.div_le_div_right (c := g) h
      rwa [Nat.mul_div_cancel _ hp] at this
    by_cases e : n / g = c
    · have h0 : n % g = 0 := by
        have h1 := Nat.div_add_mod n g
        rw [e, Nat.mul_comm] at h1
        omega
      rw [h0]
      have : (decide (g < 2 * 0) || (g == 2 * 0 && n / g % 2 == 1)) = false := by
        have h1 : ¬ g < 2 * 0 := by omega
        have h2 : (g == 2 * 0) = false := by simp; omega
        rw [h2]; simp
      rw [this]; simp; exact hle
    · have hb : ∀ b : Bool, b.toNat ≤ 1 := fun b => by cases b <;> decide
      have := hb (decide (g < 2 * (n % g)) || (g == 2 * (n % g) && n / g % 2 == 1))
      omega
  · rw [Nat.min_eq_right (by omega)]
    have hp : 2 ^ (n.log2 + 2) = 2 * 2 ^ (n.log2 + 1) := by rw [Nat.pow_succ]; omega
    have h1 : n / 2 ^ (n.log2 + 2) = 0 := Nat.div_eq_of_lt (by omega)
    have h2 : n % 2 ^ (n.log2 + 2) = n := Nat.mod_eq_of_lt (by omega)
    rw [h1, h2]
    have : (decide (2 ^ (n.log2 + 2) < 2 * n) || (2 ^ (n.log2 + 2) == 2 * n && 0 % 2 == 1)) = false := by
      have h3 : ¬ 2 ^ (n.log2 + 2) < 2 * n := by omega
      simp; omega
    rw [this]; simp
theorem le_cutE {s : Bool} {n d c : Nat} (h : c * 2 ^ d ≤ n) : c ≤ Toward.even.cut s n d := by
  unfold Toward.cut
  simp only
  have hg : 1 <<< min d (n.log2 + 2) = 2 ^ min d (n.log2 + 2) := by rw [Nat.shiftLeft_eq, Nat.one_mul]
  rw [hg]
  by_cases hd : d ≤ n.log2 + 2
  · rw [Nat.min_eq_left hd]
    have hp : 0 < 2 ^ d := Nat.two_pow_pos d
    have hle : c ≤ n / 2 ^ d := (Nat.le_div_iff_mul_le hp).2 h
    omega
  · have hn : n < 2 ^ (n.log2 + 1) := Nat.lt_log2_self
    have h1 : 2 ^ (n.log2 + 1) ≤ 2 ^ d := Nat.pow_le_pow_right (by decide) (by omega)
    have h0 : c = 0 := by
      refine Nat.eq_zero_of_not_pos fun hc => ?_
      have := Nat.mul_le_mul_right (2 ^ d) hc
      omega
    rw [h0]; exact Nat.zero_le _
/-! ### The nearest word: against all words -/
/-- The rung that is nearest to mg * 2 ^ e. -/
def nr (mg : Nat) (e : Int) : Nat := if mg = 0 then 0 else
  let last := max (e + mg.log2 - 23) (-149)
  (last + 149).toNat * 8388608 + Toward.even.cut false (mg <<< (e - last).toNat) (last - e).toNat
theorem nearest_nr {s : Bool} {mg : Nat} {e : Int} : FloatKind.f32.format.nearest s mg e = FloatKind.f32.format.word s (min (nr mg e) 2139095040) := by
  unfold Format.nearest nr
  split
  · rename_i h
    rfl
  · rfl
theorem log_bd {m : Nat} (h : m ≠ 0) : 2 ^ m.log2 ≤ m ∧ m < 2 ^ (m.log2 + 1) := ⟨Nat.log2_self_le h, Nat.lt_log2_self⟩
/-- The rung's form, and where the number lies. k: a place at which the number is whole; N: the number there. -/
theorem nr_form {mg : Nat} {e : Int} {k N : Nat} (hm : mg ≠ 0) (hk : 0 ≤ e + 149 + k) (hN : N = mg * 2 ^ (e + 149 + k).toNat) :
    ∃ L m, nr mg e = L * 8388608 + m ∧ (∀ c, N ≤ c * 2 ^ (L + k) → m ≤ c) ∧ (∀ c, c * 2 ^ (L + k) ≤ N → c ≤ m) ∧ (L = 0 ∨ 2 ^ (L + 23 + k) ≤ N) ∧ N < 2 ^ (L + 24 + k) := by
  obtain ⟨hl1, hl2⟩ := log_bd hm
  refine ⟨(max (e + mg.log2 - 23) (-149) + 149).toNat, _, by unfold nr; rw [if_neg hm], ?_⟩
  generalize hlast : max (e + (mg.log2 : Int) - 23) (-149) = last
  have hge : -149 ≤ last := by omega
  obtain ⟨L, hL⟩ : ∃ L : Nat, last = L - 149 := ⟨(last + 149).toNat, by omega⟩
  have eL : (last + 149).toNat = L := by omega
  rw [eL]
  obtain ⟨t, ht⟩ : ∃ t : Nat, e + 149 + k = t := ⟨(e + 149 + k).toNat, by omega⟩
  rw [ht, Int.toNat_natCast] at hN
  have hlow : (L = 0 ∨ 2 ^ (L + 23 + k) ≤ N) := by
    by_cases h : L = 0
    · exact .inl h
    · right
      have h1 : L + 23 + k = mg.log2 + t := by omega
      rw [h1, hN, Nat.pow_add]
      exact Nat.mul_le_mul_right _ hl1
  have hhigh : N < 2 ^ (L + 24 + k) := by
    have h1 : mg.log2 + 1 + t ≤ L + 24 + k := by omega
    refine Nat.lt_of_lt_of_le ?_ (Nat.pow_le_pow_right (by decide) h1)
    rw [hN, Nat.pow_add]
    exact Nat.mul_lt_mul_of_pos_right hl2 (Nat.two_pow_pos _)
  refine ⟨fun c hc => ?_, fun c hc => ?_, hlow, hhigh⟩
  · refine cutE_le ?_
    by_cases h : e ≤ last
    · rw [show (e - last).toNat = 0 by omega, Nat.shiftLeft_zero]
      obtain ⟨d, hd⟩ : ∃ d : Nat, last - e = d := ⟨(last - e).toNat, by omega⟩
      rw [hd, Int.toNat_natCast]
      have h1 : L + k = d + t := by omega
      have e3 : c * 2 ^ (d + t) = c * 2 ^ d * 2 ^ t := by rw [Nat.pow_add, Nat.mul_assoc]
      rw [hN, h1, e3] at hc
      exact Nat.le_of_mul_le_mul_right hc (Nat.two_pow_pos t)
    · obtain ⟨d, hd⟩ : ∃ d : Nat, e - last = d := ⟨(e - last).toNat, by omega⟩
      rw [hd, Int.toNat_natCast, show (last - e).toNat = 0 by omega, Nat.pow_zero, Nat.mul_one, Nat.shiftLeft_eq]
      have h1 : t = d + (L + k) := by omega
      have e3 : mg * 2 ^ (d + (L + k)) = mg * 2 ^ d * 2 ^ (L + k) := by rw [Nat.pow_add, Nat.mul_assoc]
      rw [hN, h1, e3] at hc
      exact Nat.le_of_mul_le_mul_right hc (Nat.two_pow_pos _)
  · refine le_cutE ?_
    by_cases h : e ≤ last
    · rw [show (e - last).toNat = 0 by omega, Nat.shiftLeft_zero]
      obtain ⟨d, hd⟩ : ∃ d : Nat, last - e = d := ⟨(last - e).toNat, by omega⟩
      rw [hd, Int.toNat_natCast]
      have h1 : L + k = d + t := by omega
      have e3 : c * 2 ^ (d + t) = c * 2 ^ d * 2 ^ t := by rw [Nat.pow_add, Nat.mul_assoc]
      rw [hN, h1, e3] at hc
      exact Nat.le_of_mul_le_mul_right hc (Nat.two_pow_pos t)
    · obtain ⟨d, hd⟩ : ∃ d : Nat, e - last = d := ⟨(e - last).toNat, by omega⟩
      rw [hd, Int.toNat_natCast, show (last - e).toNat = 0 by omega, Nat.pow_zero, Nat.mul_one, Nat.shiftLeft_eq]
      have h1 : t = d + (L + k) := by omega
      have e3 : mg * 2 ^ (d + (L + k)) = mg * 2 ^ d * 2 ^ (L + k) := by rw [Nat.pow_add, Nat.mul_assoc]
      rw [hN, h1, e3] at hc
      exact Nat.le_of_mul_le_mul_right hc (Nat.two_pow_pos _)
/-- The nearest rung's magnitude against that of any rung. -/
theorem nr_cmp {mg : Nat} {e : Int} {k N : Nat} (hm : mg ≠ 0) (hk : 0 ≤ e + 149 + k) (hN : N = mg * 2 ^ (e + 149 + k).toNat) (q : Nat) :
    (N ≤ rv q * 2 ^ k → rv (nr mg e) ≤ rv q) ∧ (rv q * 2 ^ k ≤ N → rv q ≤ rv (nr mg e)) := by
  obtain ⟨L, m, hq, h1, h2, h3, h4⟩ := nr_form hm hk hN
  have hm24 : m ≤ 16777216 := h1 _ (by
    have : 16777216 * 2 ^ (L + k) = 2 ^ (L + 24 + k) := by
      rw [show (16777216 : Nat) = 2 ^ 24 from rfl, ← Nat.pow_add]; congr 1; omega
    omega)
  have hm23 : L = 0 ∨ 8388608 ≤ m := h3.imp id fun h => h2 _ (by
    have : 8388608 * 2 ^ (L + k) = 2 ^ (L + 23 + k) := by
      rw [show (8388608 : Nat) = 2 ^ 23 from rfl, ← Nat.pow_add]; congr 1; omega
    omega)
  rw [hq, rv_mk hm23 hm24]
  obtain ⟨L', m', _, hm', hf', hrv⟩ := rv_form q
  rw [hrv]
  by_cases hLL : L ≤ L'
  · obtain ⟨d, rfl⟩ : ∃ d, L' = L + d := ⟨L' - L, by omega⟩
    have e1 : m' * 2 ^ (L + d) * 2 ^ k = m' * 2 ^ d * 2 ^ (L + k) := by
      rw [Nat.pow_add, Nat.pow_add]; ac_rfl
    have e2 : m' * 2 ^ (L + d) = m' * 2 ^ d * 2 ^ L := by rw [Nat.pow_add]; ac_rfl
    rw [e1, e2]
    exact ⟨fun h => Nat.mul_le_mul_right _ (h1 _ h), fun h => Nat.mul_le_mul_right _ (h2 _ h)⟩
  · have hb : m' * 2 ^ L' < 2 ^ (L + 23) := by
      have a1 : m' * 2 ^ L' < 2 ^ (24 + L') := by
        rw [Nat.pow_add]; exact Nat.mul_lt_mul_of_pos_right hm' (Nat.two_pow_pos _)
      exact Nat.lt_of_lt_of_le a1 (Nat.pow_le_pow_right (by decide) (by omega))
    have h3' : 2 ^ (L + 23 + k) ≤ N := h3.resolve_left (by omega)
    have hm23' : 8388608 ≤ m := hm23.resolve_left (by omega)
    refine ⟨fun h => ?_, fun _ => ?_⟩
    · have a2 : m' * 2 ^ L' * 2 ^ k < 2 ^ (L + 23 + k) := by
        rw [Nat.pow_add]; exact Nat.mul_lt_mul_of_pos_right hb (Nat.two_pow_pos _)
      omega
    · have a3 : 2 ^ (L + 23) ≤ m * 2 ^ L := by
        rw [Nat.pow_add, Nat.mul_comm]; exact Nat.mul_le_mul_right _ hm23'
      omega

/-! ### Values -/
def fin32 (a : Nat) : Bool := match FloatKind.f32.decode a with
  | .number _ _ _ => true
  | _ => false
def fv (a : Nat) : Int := match FloatKind.f32.decode a with
  | .number s m e => signed s m (e + 149).toNat
  | _ => 0
def sg (s : Bool) (n : Nat) : Int := if s then -(n : Int) else n
theorem signed_sg {s : Bool} {m k : Nat} : signed s m k = sg s (m * 2 ^ k) := by
  unfold signed sg
  rw [Nat.shiftLeft_eq]
theorem fin_form {a : Nat} (h : fin32 a = true) : ∃ s m, ∃ p : Nat, FloatKind.f32.decode a = .number s m ((p : Int) - 149) ∧ fv a = sg s (m * 2 ^ p) ∧ ∃ q, q < 2139095040 ∧ rv q = m * 2 ^ p ∧ m < 16777216 := by
  have e1 : FloatKind.f32.format.signWeight = 2147483648 := rfl
  have e2 : FloatKind.f32.format.binade = 8388608 := rfl
  have e3 : FloatKind.f32.format.infRung = 2139095040 := rfl
  have e4 : FloatKind.f32.format.leastPlace = -149 := rfl
  have hd : FloatKind.f32.decode a = FloatKind.f32.format.read a := rfl
  unfold fin32 at h
  unfold fv
  unfold Format.read at hd
  simp only [e1, e2, e3, e4] at hd
  split at hd
  · rename_i hq
    refine ⟨_, _, 0, by rw [hd]; rfl, ?_, a % 2147483648, by omega, by rw [rv_lo hq, Nat.pow_zero, Nat.mul_one], by omega⟩
    rw [hd]
    show signed _ _ (-149 + 149 : Int).toNat = _
    rw [signed_sg]; rfl
  · split at hd
    · rename_i hq hq2
      refine ⟨_, _, a % 2147483648 / 8388608 - 1, by rw [hd]; first | rfl | (congr 1; done) | (congr 1; omega), ?_, a % 2147483648, by omega, ?_, by omega⟩
      · rw [hd]
        simp only
        rw [signed_sg]
        congr 3
        omega
      · unfold rv; rw [if_neg hq]
    · exfalso
      split at hd
      · rw [hd] at h; cases h
      · rw [hd] at h; cases h
theorem fin_word {s : Bool} {q : Nat} (h : q < 2139095040) : fin32 (FloatKind.f32.format.word s q) = true ∧ fv (FloatKind.f32.format.word s q) = sg s (rv q) := by
  have e2 : FloatKind.f32.format.binade = 8388608 := rfl
  have e3 : FloatKind.f32.format.infRung = 2139095040 := rfl
  have e4 : FloatKind.f32.format.leastPlace = -149 := rfl
  have hr := read_word (k := .f32) (s := s) (q := q) (by rw [e3]; omega)
  rw [e2, e3, e4] at hr
  unfold fin32 fv
  by_cases h1 : q < 8388608
  · rw [if_pos h1] at hr
    rw [hr]
    refine ⟨rfl, ?_⟩
    show signed _ _ (-149 + 149 : Int).toNat = _
    rw [signed_sg, rv_lo h1]
    first | rfl | simp
  · rw [if_neg h1, if_pos h] at hr
    rw [hr]
    refine ⟨rfl, ?_⟩
    simp only
    rw [signed_sg]
    unfold rv
    rw [if_neg h1]
    congr 3
    omega
theorem fin_cf {a : Nat} (h : fin32 a = true) : cf .f32 a = a := by
  refine cf_of_not ?_
  obtain ⟨s, m, p, hd, _⟩ := fin_form h
  unfold fnan; rw [hd]; rfl
/-- r is what num / den is rounded to. -/
def Rnd (r : Nat) (num : Int) (den : Nat) : Prop := fin32 r = true ∧ ∀ c, fin32 c = true → (num ≤ fv c * den → fv r ≤ fv c) ∧ (fv c * den ≤ num → fv c ≤ fv r)
/-- The greatest value. -/
def FM : Nat := 16777215 * 2 ^ 253
theorem rv_max : rv 2139095039 = FM := by unfold rv FM; rw [if_neg (by decide)]
theorem rv_mono {q q' : Nat} (h : q ≤ q') : rv q ≤ rv q' := by
  obtain ⟨L, m, rfl, hm, hf, e⟩ := rv_form q
  obtain ⟨L', m', rfl, hm', hf', e'⟩ := rv_form q'
  rw [e, e']
  by_cases hLL : L = L'
  · subst hLL; exact Nat.mul_le_mul_right _ (by omega)
  · have h1 : L + 1 ≤ L' := by omega
    have h2 : 2 ^ (L + 1) ≤ 2 ^ L' := Nat.pow_le_pow_right (by decide) h1
    have h3 : 8388608 ≤ m' := hf'.resolve_left (by omega)
    have h4 : m * 2 ^ L ≤ 8388608 * 2 ^ (L + 1) := by
      rw [Nat.pow_succ, Nat.mul_comm (2 ^ L) 2, ← Nat.mul_assoc]; exact Nat.mul_le_mul_right _ (by omega)
    exact Nat.le_trans h4 (Nat.mul_le_mul h3 h2)
theorem rv_lt {q q' : Nat} (h : q < q') : rv q < rv q' := by
  obtain ⟨L, m, rfl, hm, hf, e⟩ := rv_form q
  refine Nat.lt_of_lt_of_le ?_ (rv_mono (show L * 8388608 + (m + 1) ≤ q' by omega))
  rw [e, rv_mk (hf.imp id fun h => by omega) (by omega)]
  exact Nat.mul_lt_mul_of_pos_right (by omega) (Nat.two_pow_pos _)
theorem rnd_of {s : Bool} {g X K : Nat} (hg : g < 2139095040) (hK : 0 < K) (hc : ∀ q, (X ≤ rv q * K → rv g ≤ rv q) ∧ (rv q * K ≤ X → rv q ≤ rv g)) : Rnd (FloatKind.f32.format.word s g) (sg s X) K := by
  obtain ⟨h1, h2⟩ := fin_word (s := s) hg
  refine ⟨h1, fun c hcf => ?_⟩
  rw [h2]
  obtain ⟨t, m, p, _, hfv, q, hq2, hrq, _⟩ := fin_form hcf
  rw [hfv, ← hrq]
  have hcmp := hc q
  have hz : X = 0 → rv g = 0 := fun h => by
    have := (hc 0).1 (by omega)
    rw [show rv 0 = 0 from rfl] at this
    omega
  generalize rv g = A at *
  generalize rv q = B at *
  clear hc h1 h2 hfv hrq hg hcf
  have hBK2 : B * K = 0 → B = 0 := fun h => by
    rcases Nat.mul_eq_zero.1 h with h | h
    · exact h
    · omega
  have e5 : (B : Int) * (K : Int) = ((B * K : Nat) : Int) := by rw [Int.natCast_mul]
  have e6 : -(B : Int) * (K : Int) = -((B * K : Nat) : Int) := by rw [Int.neg_mul, e5]
  cases s <;> cases t <;> simp only [sg, Bool.false_eq_true, if_false, if_true, e5, e6]
  · exact ⟨fun h => by have := hcmp.1 (by omega); omega, fun h => by have := hcmp.2 (by omega); omega⟩
  · refine ⟨fun h => ?_, fun h => by omega⟩
    have hA : A = 0 := hz (by omega)
    have hB : B = 0 := hBK2 (by omega)
    omega
  · refine ⟨fun h => by omega, fun h => ?_⟩
    have hA : A = 0 := hz (by omega)
    have hB : B = 0 := hBK2 (by omega)
    omega
  · exact ⟨fun h => by have := hcmp.2 (by omega); omega, fun h => by have := hcmp.1 (by omega); omega⟩
theorem nr_cmp0 {mg : Nat} {e : Int} {k N : Nat} (hk : 0 ≤ e + 149 + k) (hN : N = mg * 2 ^ (e + 149 + k).toNat) (q : Nat) :
    (N ≤ rv q * 2 ^ k → rv (nr mg e) ≤ rv q) ∧ (rv q * 2 ^ k ≤ N → rv q ≤ rv (nr mg e)) := by
  have hp : 0 < 2 ^ k := Nat.two_pow_pos k
  by_cases hm : mg = 0
  · have e0 : nr mg e = 0 := by unfold nr; rw [if_pos hm]
    have eN : N = 0 := by rw [hN, hm, Nat.zero_mul]
    rw [e0, show rv 0 = 0 from rfl, eN]
    refine ⟨fun _ => Nat.zero_le _, fun h => ?_⟩
    refine Nat.le_of_mul_le_mul_right (c := 2 ^ k) ?_ hp
    omega
  · exact nr_cmp hm hk hN q
theorem nr_small {g X K : Nat} (hK : 0 < K) (hc : ∀ q, (X ≤ rv q * K → rv g ≤ rv q) ∧ (rv q * K ≤ X → rv q ≤ rv g)) (hb : X ≤ FM * K) : g < 2139095040 := by
  have h1 := (hc 2139095039).1 (by rw [rv_max]; exact hb)
  refine Nat.lt_of_not_le fun h => ?_
  have := rv_lt (show 2139095039 < g by omega)
  omega
theorem rnd_near {s : Bool} {mg : Nat} {e : Int} {k N : Nat} (hk : 0 ≤ e + 149 + k) (hN : N = mg * 2 ^ (e + 149 + k).toNat) (hb : N ≤ FM * 2 ^ k) :
    Rnd (FloatKind.f32.format.nearest s mg e) (sg s N) (2 ^ k) := by
  have hq := nr_small (Nat.two_pow_pos k) (nr_cmp0 hk hN) hb
  rw [nearest_nr, Nat.min_eq_left (by omega)]
  exact rnd_of hq (Nat.two_pow_pos k) (nr_cmp0 hk hN)

/-! ### The operations -/
theorem sg_mul {s t : Bool} {a b : Nat} : sg (s ^^ t) (a * b) = sg s a * sg t b := by
  cases s <;> cases t <;> simp [sg, Int.neg_mul, Int.mul_neg]
theorem sg_scale {s : Bool} {a b : Nat} : sg s (a * b) = sg s a * (b : Int) := by cases s <;> simp [sg, Int.neg_mul]
theorem sg_abs {x : Int} {s : Bool} (h : x ≠ 0 → s = decide (x < 0)) : sg s x.natAbs = x := by
  unfold sg
  by_cases e : x = 0
  · subst e; simp
  · rw [h e]
    by_cases h2 : x < 0
    · rw [decide_eq_true h2, if_pos rfl]; omega
    · rw [decide_eq_false h2]; simp; omega
theorem rnd_write {s : Bool} {mg : Nat} {e : Int} {k N : Nat} (hk : 0 ≤ e + 149 + k) (hN : N = mg * 2 ^ (e + 149 + k).toNat) (hb : N ≤ FM * 2 ^ k) :
    Rnd (cf .f32 (FloatKind.f32.format.write (.number s mg e))) (sg s N) (2 ^ k) := by
  have h := rnd_near (s := s) hk hN hb
  show Rnd (cf .f32 (FloatKind.f32.format.nearest s mg e)) _ _
  rw [fin_cf h.1]; exact h
theorem rnd_sum {s t : Bool} {m n p q : Nat} (hb : (sg s (m * 2 ^ p) + sg t (n * 2 ^ q)).natAbs ≤ FM) :
    ∃ d, (Datum.number s m ((p : Int) - 149)).sum (.number t n ((q : Int) - 149)) = some d ∧ Rnd (cf .f32 (FloatKind.f32.format.write d)) (sg s (m * 2 ^ p) + sg t (n * 2 ^ q)) 1 := by
  refine ⟨_, rfl, ?_⟩
  generalize hbase : min ((p : Int) - 149) ((q : Int) - 149) = base
  obtain ⟨b, hbb⟩ : ∃ b : Nat, base = (b : Int) - 149 := ⟨(base + 149).toNat, by omega⟩
  have e1 : ((p : Int) - 149 - base).toNat = p - b := by omega
  have e2 : ((q : Int) - 149 - base).toNat = q - b := by omega
  have hbp : b ≤ p := by omega
  have hbq : b ≤ q := by omega
  rw [e1, e2, signed_sg, signed_sg]
  have hx : sg s (m * 2 ^ p) + sg t (n * 2 ^ q) = (sg s (m * 2 ^ (p - b)) + sg t (n * 2 ^ (q - b))) * ((2 ^ b : Nat) : Int) := by
    rw [Int.add_mul, ← sg_scale, ← sg_scale, Nat.mul_assoc, Nat.mul_assoc, ← Nat.pow_add, ← Nat.pow_add, Nat.sub_add_cancel hbp, Nat.sub_add_cancel hbq]
  rw [hx] at hb ⊢
  generalize sg s (m * 2 ^ (p - b)) + sg t (n * 2 ^ (q - b)) = x at *
  rw [Int.natAbs_mul, Int.natAbs_natCast] at hb
  have h := rnd_write (s := if x = 0 then (s && t) else decide (x < 0)) (mg := x.natAbs) (e := base) (k := 0) (N := x.natAbs * 2 ^ b) (by omega) (by rw [hbb]; congr 2; omega) (by rw [Nat.pow_zero, Nat.mul_one]; exact hb)
  rw [sg_scale, sg_abs (fun h => by rw [if_neg h]), Nat.pow_zero] at h
  exact h
theorem rnd_add {a b : Nat} (ha : fin32 a = true) (hb : fin32 b = true) (hm : (fv a + fv b).natAbs ≤ FM) : Rnd (fadd .f32 a b) (fv a + fv b) 1 := by
  obtain ⟨s, m, p, hd, hv, _⟩ := fin_form ha
  obtain ⟨t, n, q, hd', hv', _⟩ := fin_form hb
  rw [hv, hv'] at hm ⊢
  obtain ⟨d, h1, h2⟩ := rnd_sum hm
  have e : FloatKind.f32.format.add a b = some (FloatKind.f32.format.write d) := by
    show ((FloatKind.f32.decode a).sum (FloatKind.f32.decode b)).map _ = _
    rw [hd, hd', h1]; rfl
  unfold fadd
  rw [e]; exact h2
theorem sg_not {s : Bool} {n : Nat} : sg (!s) n = -sg s n := by cases s <;> simp [sg]
theorem rnd_sub {a b : Nat} (ha : fin32 a = true) (hb : fin32 b = true) (hm : (fv a - fv b).natAbs ≤ FM) : Rnd (fsub .f32 a b) (fv a - fv b) 1 := by
  obtain ⟨s, m, p, hd, hv, _⟩ := fin_form ha
  obtain ⟨t, n, q, hd', hv', _⟩ := fin_form hb
  rw [hv, hv', Int.sub_eq_add_neg, ← sg_not] at hm ⊢
  obtain ⟨d, h1, h2⟩ := rnd_sum hm
  have e : FloatKind.f32.format.sub a b = some (FloatKind.f32.format.write d) := by
    show ((FloatKind.f32.decode a).sum (FloatKind.f32.decode b).opposite).map _ = _
    rw [hd, hd']
    show ((Datum.number s m ((p : Int) - 149)).sum (.number (!t) n ((q : Int) - 149))).map _ = _
    rw [h1]; rfl
  unfold fsub
  rw [e]; exact h2
theorem rnd_mul {a b : Nat} (ha : fin32 a = true) (hb : fin32 b = true) (hm : (fv a * fv b).natAbs ≤ FM * 2 ^ 149) : Rnd (fmul .f32 a b) (fv a * fv b) (2 ^ 149) := by
  obtain ⟨s, m, p, hd, hv, _⟩ := fin_form ha
  obtain ⟨t, n, q, hd', hv', _⟩ := fin_form hb
  have eN : m * 2 ^ p * (n * 2 ^ q) = m * n * 2 ^ (p + q) := by rw [Nat.pow_add]; ac_rfl
  rw [hv, hv', ← sg_mul, eN] at hm ⊢
  have e : FloatKind.f32.format.mul a b = some (FloatKind.f32.format.write (.number (s ^^ t) (m * n) ((p : Int) - 149 + ((q : Int) - 149)))) := by
    show ((FloatKind.f32.decode a).product (FloatKind.f32.decode b)).map _ = _
    rw [hd, hd']; rfl
  unfold fmul
  rw [e]
  refine rnd_write (by omega) (by congr 2; omega) ?_
  have : ∀ (s : Bool) (n : Nat), (sg s n).natAbs = n := fun s n => by cases s <;> simp [sg]
  rwa [this] at hm
/-- The quotient with a digit for what is left over, against any magnitude. -/
theorem div_cmp {D n Q st P K C : Nat} (hn : 0 < n) (hP : 0 < P) (hQ : Q = D / n) (hst : st = (D % n != 0).toNat) (hbig : st = 1 → 16777216 ≤ Q) (hC : (∃ z, C * K = z * (2 * P)) ∨ C * K < 16777216 * P) :
    (2 * D * P ≤ C * K * n ↔ (2 * Q + st) * P ≤ C * K) ∧ (C * K * n ≤ 2 * D * P ↔ C * K ≤ (2 * Q + st) * P) := by
  have hdm := Nat.div_add_mod D n
  rw [← hQ] at hdm
  have hlt := Nat.mod_lt D hn
  generalize D % n = r at *
  by_cases hr : r = 0
  · have h0 : st = 0 := by rw [hst, hr]; rfl
    rw [h0, Nat.add_zero]
    have e : 2 * D * P = 2 * Q * P * n := by rw [← hdm, hr, Nat.add_zero]; ac_rfl
    rw [e]
    exact ⟨⟨fun h => Nat.le_of_mul_le_mul_right h hn, fun h => Nat.mul_le_mul_right _ h⟩, ⟨fun h => Nat.le_of_mul_le_mul_right h hn, fun h => Nat.mul_le_mul_right _ h⟩⟩
  · have h1 : st = 1 := by
      rw [hst]
      have : (r != 0) = true := by simpa using hr
      rw [this]; rfl
    rw [h1]
    have hQ24 := hbig h1
    rcases hC with ⟨z, hz⟩ | hC
    · rw [hz]
      have hzq : (z ≤ Q → z * n ≤ D) ∧ (Q + 1 ≤ z → D ≤ z * n) := by
        refine ⟨fun h => ?_, fun h => ?_⟩
        · have := Nat.mul_le_mul_right n h
          rw [Nat.mul_comm Q n] at this
          omega
        · have := Nat.mul_le_mul_right n h
          rw [Nat.add_mul, Nat.one_mul, Nat.mul_comm Q n] at this
          omega
      have hzq2 : (z * n ≤ D → z ≤ Q) ∧ (D ≤ z * n → Q + 1 ≤ z) := by
        refine ⟨fun h => Nat.le_of_not_lt fun hl => ?_, fun h => Nat.le_of_not_lt fun hl => ?_⟩
        · have := Nat.mul_le_mul_right n (show Q + 1 ≤ z by omega)
          rw [Nat.add_mul, Nat.one_mul, Nat.mul_comm Q n] at this
          omega
        · have := Nat.mul_le_mul_right n (show z ≤ Q by omega)
          rw [Nat.mul_comm Q n] at this
          omega
      have e1 : 2 * D * P = D * (2 * P) := by ac_rfl
      have e2 : z * (2 * P) * n = z * n * (2 * P) := by ac_rfl
      have e3 : z * (2 * P) = 2 * z * P := by ac_rfl
      rw [e1, e2, e3]
      have hP2 : 0 < 2 * P := by omega
      refine ⟨⟨fun h => ?_, fun h => ?_⟩, ⟨fun h => ?_, fun h => ?_⟩⟩
      · have := hzq2.2 (Nat.le_of_mul_le_mul_right h hP2)
        exact Nat.mul_le_mul_right _ (by omega)
      · have := Nat.le_of_mul_le_mul_right h hP
        exact Nat.mul_le_mul_right _ (hzq.2 (by omega))
      · have := hzq2.1 (Nat.le_of_mul_le_mul_right h hP2)
        exact Nat.mul_le_mul_right _ (by omega)
      · have := Nat.le_of_mul_le_mul_right h hP
        exact Nat.mul_le_mul_right _ (hzq.1 (by omega))
    · have a1 : 16777216 * P ≤ Q * P := Nat.mul_le_mul_right _ hQ24
      have a2 : C * K < Q * P := by omega
      have a3 : C * K * n < Q * P * n := Nat.mul_lt_mul_of_pos_right a2 hn
      have a4 : Q * P * n ≤ D * P := by
        rw [Nat.mul_right_comm]
        refine Nat.mul_le_mul_right _ ?_
        rw [Nat.mul_comm]; omega
      have a5 : 2 * D * P = D * P + D * P := by rw [Nat.mul_assoc, Nat.two_mul]
      have a6 : (2 * Q + 1) * P = Q * P + Q * P + P := by rw [Nat.add_mul, Nat.one_mul, Nat.mul_assoc, Nat.two_mul]
      rw [a5, a6]
      exact ⟨⟨fun h => by omega, fun h => by omega⟩, ⟨fun h => by omega, fun h => by omega⟩⟩
theorem rnd_div {a b : Nat} (ha : fin32 a = true) (hb : fin32 b = true) (hb0 : fv b ≠ 0) (hm : (fv a).natAbs * 2 ^ 149 ≤ FM * (fv b).natAbs) : Rnd (fdiv .f32 a b) (if fv b < 0 then -(fv a * 2 ^ 149) else fv a * 2 ^ 149) (fv b).natAbs := by
  obtain ⟨s, m, p, hd, hv, _, _, _, hm24⟩ := fin_form ha
  obtain ⟨t, n, q, hd', hv', _, _, _, hn24⟩ := fin_form hb
  have hn : n ≠ 0 := fun h => by rw [hv', h] at hb0; exact hb0 (by cases t <;> simp [sg])
  have hab : ∀ (s : Bool) (n : Nat), (sg s n).natAbs = n := fun s n => by cases s <;> simp [sg]
  rw [hv, hv', hab, hab] at hm
  rw [hv, hv', hab]
  have hsgn : (if sg t (n * 2 ^ q) < 0 then -(sg s (m * 2 ^ p) * 2 ^ 149) else sg s (m * 2 ^ p) * 2 ^ 149) = sg (s ^^ t) (m * 2 ^ p * 2 ^ 149) := by
    have hpos : 0 < n * 2 ^ q := Nat.mul_pos (by omega) (Nat.two_pow_pos q)
    rw [sg_scale (b := 2 ^ 149), Int.natCast_pow]
    cases t
    · rw [if_neg (by show ¬ ((n * 2 ^ q : Nat) : Int) < 0; omega), Bool.xor_false]; rfl
    · rw [if_pos (by show -((n * 2 ^ q : Nat) : Int) < 0; omega), Bool.xor_true, sg_not, Int.neg_mul]; rfl
  rw [hsgn]
  generalize hmore : 25 + n.log2 - m.log2 = more
  have e : FloatKind.f32.format.div a b = some (FloatKind.f32.format.write (.number (s ^^ t) (2 * (m <<< more / n) + (m <<< more % n != 0).toNat) (((p : Int) - 149) - ((q : Int) - 149) - more - 1))) := by
    show ((FloatKind.f32.decode a).quotient 25 (FloatKind.f32.decode b)).map _ = _
    rw [hd, hd']
    unfold Datum.quotient
    simp only
    rw [if_neg hn, hmore]; rfl
  unfold fdiv
  rw [e, Nat.shiftLeft_eq]
  have hK : 0 < n * 2 ^ q := Nat.mul_pos (by omega) (Nat.two_pow_pos q)
  generalize hY : 2 * (m * 2 ^ more / n) + (m * 2 ^ more % n != 0).toNat = Y
  have hpl : ((p : Int) - 149) - ((q : Int) - 149) - more - 1 = (p : Int) - q - more - 1 := by omega
  rw [hpl]
  have hc0 := fun g => nr_cmp0 (mg := Y) (e := (p : Int) - q - more - 1) (k := q + more + 1) (N := Y * 2 ^ (p + 149)) (by omega) (by congr 2; omega) g
  have hc : ∀ g, (m * 2 ^ p * 2 ^ 149 ≤ rv g * (n * 2 ^ q) → rv (nr Y ((p : Int) - q - more - 1)) ≤ rv g) ∧ (rv g * (n * 2 ^ q) ≤ m * 2 ^ p * 2 ^ 149 → rv g ≤ rv (nr Y ((p : Int) - q - more - 1))) := fun g => by
    obtain ⟨L, m', _, hm', _, hr⟩ := rv_form g
    have hC : (∃ z, rv g * 2 ^ (q + more + 1) = z * (2 * 2 ^ (p + 149))) ∨ rv g * 2 ^ (q + more + 1) < 16777216 * 2 ^ (p + 149) := by
      rw [hr, Nat.mul_assoc, ← Nat.pow_add]
      by_cases hle : p + 149 + 1 ≤ L + (q + more + 1)
      · left
        refine ⟨m' * 2 ^ (L + (q + more + 1) - (p + 149 + 1)), ?_⟩
        rw [show 2 * 2 ^ (p + 149) = 2 ^ (p + 149 + 1) by rw [Nat.pow_add 2 (p + 149) 1, Nat.mul_comm], Nat.mul_assoc, ← Nat.pow_add, Nat.sub_add_cancel hle]
      · right
        have a1 : 2 ^ (L + (q + more + 1)) ≤ 2 ^ (p + 149) := Nat.pow_le_pow_right (by decide) (by omega)
        exact Nat.lt_of_le_of_lt (Nat.mul_le_mul_left _ a1) (Nat.mul_lt_mul_of_pos_right hm' (Nat.two_pow_pos _))
    have hbig : (m * 2 ^ more % n != 0).toNat = 1 → 16777216 ≤ m * 2 ^ more / n := fun h => by
      have hm0 : m ≠ 0 := fun h0 => by rw [h0] at h; simp at h
      have hlm := log_bd hm0
      have hln := log_bd hn
      have hml : m.log2 ≤ 23 := by
        have h24 : m.log2 < 24 := (Nat.log2_lt hm0).2 hm24
        omega
      refine (Nat.le_div_iff_mul_le (Nat.pos_of_ne_zero hn)).2 ?_
      have a1 : 2 ^ (m.log2) * 2 ^ more ≤ m * 2 ^ more := Nat.mul_le_mul_right _ hlm.1
      have a2 : 2 ^ (m.log2) * 2 ^ more = 16777216 * 2 ^ (n.log2 + 1) := by
        have a0 : m.log2 + more = 24 + (n.log2 + 1) := by clear hd hv hd' hv' hsgn e hc0 hY hpl hr hC h; omega
        rw [← Nat.pow_add, show (16777216 : Nat) = 2 ^ 24 from rfl, ← Nat.pow_add, a0]
      have a3 : 16777216 * n ≤ 16777216 * 2 ^ (n.log2 + 1) := Nat.mul_le_mul_left _ (Nat.le_of_lt hln.2)
      omega
    have hd := div_cmp (D := m * 2 ^ more) (n := n) (Q := m * 2 ^ more / n) (st := (m * 2 ^ more % n != 0).toNat) (P := 2 ^ (p + 149)) (K := 2 ^ (q + more + 1)) (C := rv g) (Nat.pos_of_ne_zero hn) (Nat.two_pow_pos _) rfl rfl hbig hC
    rw [hY] at hd
    have e1 : 2 * (m * 2 ^ more) * 2 ^ (p + 149) = m * 2 ^ p * 2 ^ 149 * 2 ^ (more + 1) := by rw [Nat.pow_add 2 p 149, Nat.pow_add 2 more 1, Nat.pow_one]; generalize 2 ^ 149 = Z; ac_rfl
    have e2 : rv g * 2 ^ (q + more + 1) * n = rv g * (n * 2 ^ q) * 2 ^ (more + 1) := by rw [Nat.add_assoc, Nat.pow_add 2 q]; ac_rfl
    rw [e1, e2] at hd
    have h2 := hc0 g
    exact ⟨fun h => h2.1 (hd.1.1 (Nat.mul_le_mul_right _ h)), fun h => h2.2 (hd.2.1 (Nat.mul_le_mul_right _ h))⟩
  have hg := nr_small hK hc (by rw [Nat.mul_assoc] at hm ⊢; exact hm)
  have h := rnd_of (s := s ^^ t) hg hK hc
  show Rnd (cf .f32 (FloatKind.f32.format.nearest (s ^^ t) Y _)) _ _
  rw [nearest_nr, Nat.min_eq_left (by omega), fin_cf h.1]
  exact h

/-! ### Order -/
theorem fv_order {a b : Nat} (ha : fin32 a = true) (hb : fin32 b = true) : FloatKind.f32.format.order a b = some (compare (fv a) (fv b)) := by
  obtain ⟨s, m, p, hd, hv, _⟩ := fin_form ha
  obtain ⟨t, n, q, hd', hv', _⟩ := fin_form hb
  show (FloatKind.f32.decode a).order (FloatKind.f32.decode b) = _
  rw [hd, hd']
  unfold Datum.order
  simp only
  generalize hbase : min ((p : Int) - 149) ((q : Int) - 149) = base
  obtain ⟨b, hbb⟩ : ∃ b : Nat, base = (b : Int) - 149 := ⟨(base + 149).toNat, by omega⟩
  have e1 : ((p : Int) - 149 - base).toNat = p - b := by omega
  have e2 : ((q : Int) - 149 - base).toNat = q - b := by omega
  have hbp : b ≤ p := by omega
  have hbq : b ≤ q := by omega
  rw [e1, e2, signed_sg, signed_sg, hv, hv']
  have hx : sg s (m * 2 ^ p) = sg s (m * 2 ^ (p - b)) * ((2 ^ b : Nat) : Int) := by rw [← sg_scale, Nat.mul_assoc, ← Nat.pow_add, Nat.sub_add_cancel hbp]
  have hy : sg t (n * 2 ^ q) = sg t (n * 2 ^ (q - b)) * ((2 ^ b : Nat) : Int) := by rw [← sg_scale, Nat.mul_assoc, ← Nat.pow_add, Nat.sub_add_cancel hbq]
  rw [hx, hy]
  have hpos : (0 : Int) < ((2 ^ b : Nat) : Int) := by have := Nat.two_pow_pos b; omega
  generalize sg s (m * 2 ^ (p - b)) = x
  generalize sg t (n * 2 ^ (q - b)) = y
  generalize ((2 ^ b : Nat) : Int) = z at hpos
  congr 1
  rcases Int.lt_trichotomy x y with h | h | h
  · rw [Int.compare_eq_lt.2 h, Int.compare_eq_lt.2 (Int.mul_lt_mul_of_pos_right h hpos)]
  · subst h
    rw [Int.compare_eq_eq.2 rfl, Int.compare_eq_eq.2 rfl]
  · rw [Int.compare_eq_gt.2 h, Int.compare_eq_gt.2 (Int.mul_lt_mul_of_pos_right h hpos)]
section
variable {a b : Nat} (ha : fin32 a = true) (hb : fin32 b = true)
include ha hb
theorem flt_fv : flt .f32 a b = decide (fv a < fv b) := by
  unfold flt
  rw [fv_order ha hb]
  rcases Int.lt_trichotomy (fv a) (fv b) with h | h | h
  · rw [Int.compare_eq_lt.2 h, decide_eq_true h]; rfl
  · rw [Int.compare_eq_eq.2 h, decide_eq_false (by omega)]; rfl
  · rw [Int.compare_eq_gt.2 h, decide_eq_false (by omega)]; rfl
theorem fgt_fv : fgt .f32 a b = decide (fv b < fv a) := by
  unfold fgt
  rw [fv_order ha hb]
  rcases Int.lt_trichotomy (fv a) (fv b) with h | h | h
  · rw [Int.compare_eq_lt.2 h, decide_eq_false (by omega)]; rfl
  · rw [Int.compare_eq_eq.2 h, decide_eq_false (by omega)]; rfl
  · rw [Int.compare_eq_gt.2 h, decide_eq_true h]; rfl
theorem fle_fv : fle .f32 a b = decide (fv a ≤ fv b) := by
  unfold fle
  rw [fv_order ha hb]
  rcases Int.lt_trichotomy (fv a) (fv b) with h | h | h
  · rw [Int.compare_eq_lt.2 h, decide_eq_true (by omega)]; rfl
  · rw [Int.compare_eq_eq.2 h, decide_eq_true (by omega)]; rfl
  · rw [Int.compare_eq_gt.2 h, decide_eq_false (by omega)]; rfl
theorem fge_fv : fge .f32 a b = decide (fv b ≤ fv a) := by
  unfold fge
  rw [fv_order ha hb]
  rcases Int.lt_trichotomy (fv a) (fv b) with h | h | h
  · rw [Int.compare_eq_lt.2 h, decide_eq_false (by omega)]; rfl
  · rw [Int.compare_eq_eq.2 h, decide_eq_true (by omega)]; rfl
  · rw [Int.compare_eq_gt.2 h, decide_eq_true (by omega)]; rfl
theorem feq_fv : feq .f32 a b = decide (fv a = fv b) := by
  unfold feq
  rw [fv_order ha hb]
  rcases Int.lt_trichotomy (fv a) (fv b) with h | h | h
  · rw [Int.compare_eq_lt.2 h, decide_eq_false (by omega)]; rfl
  · rw [Int.compare_eq_eq.2 h, decide_eq_true h]; rfl
  · rw [Int.compare_eq_gt.2 h, decide_eq_false (by omega)]; rfl
end

/-! ### Numbers of a grid; how far a rounded number lies -/
theorem grid_nat {m e : Nat} (hm : m ≤ 16777216) (he : e ≤ 228) : ∃ q, q < 2139095040 ∧ rv q = m * 2 ^ e := by
  by_cases h0 : m = 0
  · exact ⟨0, by decide, by rw [h0, Nat.zero_mul]; rfl⟩
  · obtain ⟨L, k, hq, h1, h2, h3, h4⟩ := nr_form (mg := m) (e := (e : Int) - 149) (k := 0) (N := m * 2 ^ e) h0 (by omega) (by congr 2; omega)
    rw [Nat.add_zero] at h1 h2 h3 h4
    have hLe : L ≤ e + 1 := by
      rcases h3 with h | h
      · omega
      · have a1 : m * 2 ^ e ≤ 2 ^ (24 + e) := by rw [Nat.pow_add]; exact Nat.mul_le_mul_right _ hm
        have a2 : 2 ^ (L + 23) ≤ 2 ^ (24 + e) := Nat.le_trans h a1
        have := (Nat.pow_le_pow_iff_right (by decide : 1 < 2)).1 a2
        omega
    obtain ⟨x, hx⟩ : ∃ x, m * 2 ^ e = x * 2 ^ L := by
      by_cases hl : L ≤ e
      · exact ⟨m * 2 ^ (e - L), by rw [Nat.mul_assoc, ← Nat.pow_add, Nat.sub_add_cancel hl]⟩
      · have e1 : L = e + 1 := by omega
        have h5 : 2 ^ (L + 23) ≤ m * 2 ^ e := h3.resolve_left (by omega)
        have e2 : m = 16777216 := by
          have a1 : 2 ^ (L + 23) = 16777216 * 2 ^ e := by rw [e1, show e + 1 + 23 = 24 + e by omega, Nat.pow_add]
          rw [a1] at h5
          have := Nat.le_of_mul_le_mul_right h5 (Nat.two_pow_pos e)
          omega
        exact ⟨8388608, by rw [e1, e2, Nat.pow_succ]; omega⟩
    have hk : k = x := Nat.le_antisymm (h1 x (by omega)) (h2 x (by omega))
    have hx24 : x ≤ 16777216 := by
      rw [hx, Nat.pow_add, Nat.mul_comm (2 ^ L)] at h4
      have := Nat.lt_of_mul_lt_mul_right h4
      omega
    have hx23 : L = 0 ∨ 8388608 ≤ x := h3.imp id fun h => by
      rw [hx, Nat.pow_add, Nat.mul_comm (2 ^ L)] at h
      exact Nat.le_of_mul_le_mul_right h (Nat.two_pow_pos L)
    refine ⟨L * 8388608 + x, by omega, ?_⟩
    rw [rv_mk hx23 hx24, hx]
theorem grid_int {z : Int} {e : Nat} (hz : z.natAbs ≤ 16777216) (he : e ≤ 228) : ∃ c, fin32 c = true ∧ fv c = z * 2 ^ e := by
  obtain ⟨q, hq, hr⟩ := grid_nat hz he
  obtain ⟨h1, h2⟩ := fin_word (s := decide (z < 0)) hq
  refine ⟨_, h1, ?_⟩
  rw [h2, hr, sg_scale, sg_abs (fun _ => rfl), Int.natCast_pow]; rfl
/-- Between two numbers of a grid. -/
theorem Rnd.le {r : Nat} {num : Int} {den : Nat} (h : Rnd r num den) {z : Int} {e : Nat} (hz : z.natAbs ≤ 16777216) (he : e ≤ 228) (hn : num ≤ z * 2 ^ e * den) : fv r ≤ z * 2 ^ e := by
  obtain ⟨c, hc, hv⟩ := grid_int hz he
  have := (h.2 c hc).1 (by rw [hv]; exact hn)
  omega
theorem Rnd.ge {r : Nat} {num : Int} {den : Nat} (h : Rnd r num den) {z : Int} {e : Nat} (hz : z.natAbs ≤ 16777216) (he : e ≤ 228) (hn : z * 2 ^ e * den ≤ num) : z * 2 ^ e ≤ fv r := by
  obtain ⟨c, hc, hv⟩ := grid_int hz he
  have := (h.2 c hc).2 (by rw [hv]; exact hn)
  omega
theorem Rnd.le_of {r c : Nat} {num : Int} {den : Nat} (h : Rnd r num den) (hc : fin32 c = true) (hn : num ≤ fv c * den) : fv r ≤ fv c := (h.2 c hc).1 hn
theorem Rnd.ge_of {r c : Nat} {num : Int} {den : Nat} (h : Rnd r num den) (hc : fin32 c = true) (hn : fv c * den ≤ num) : fv c ≤ fv r := (h.2 c hc).2 hn
theorem Rnd.exact {r : Nat} {num : Int} {den : Nat} (h : Rnd r num den) {z : Int} {e : Nat} (hz : z.natAbs ≤ 16777216) (he : e ≤ 228) (hn : num = z * 2 ^ e * den) : fv r = z * 2 ^ e :=
  Int.le_antisymm (h.le hz he (Int.le_of_eq hn)) (h.ge hz he (Int.le_of_eq hn.symm))
/-- A number of size 2 ^ (e + 24) or less is moved by less than 2 ^ e. -/
theorem Rnd.near {r : Nat} {num : Int} {den : Nat} (h : Rnd r num den) (hd : 0 < den) {e : Nat} (he : e ≤ 228) (h1 : num ≤ 16777216 * 2 ^ e * den) (h2 : -(16777216 * 2 ^ e * den) ≤ num) :
    fv r * den ≤ num + 2 ^ e * den ∧ num ≤ fv r * den + 2 ^ e * den := by
  have hp : (0 : Int) < 2 ^ e := Int.pow_pos (by decide)
  generalize hD : (den : Int) = D at *
  have hD0 : 0 < D := by omega
  have hW : 0 < 2 ^ e * D := Int.mul_pos hp hD0
  have hdm := Int.mul_ediv_add_emod num (2 ^ e * D)
  have hlt := Int.emod_lt_of_pos num hW
  have hnn := Int.emod_nonneg num (Int.ne_of_gt hW)
  generalize hz : num / (2 ^ e * D) = z at *
  generalize num % (2 ^ e * D) = m at *
  have ew : ∀ y : Int, y * 2 ^ e * D = 2 ^ e * D * y := fun y => by rw [Int.mul_assoc, Int.mul_comm]
  have hz1 : z ≤ 16777216 := by
    refine Int.le_of_not_gt fun hg => ?_
    have := Int.mul_le_mul_of_nonneg_left (show 16777216 + 1 ≤ z by omega) (Int.le_of_lt hW)
    rw [Int.mul_add, Int.mul_one, ← ew] at this
    omega
  have hz2 : -16777216 ≤ z := by
    refine Int.le_of_not_gt fun hg => ?_
    have := Int.mul_le_mul_of_nonneg_left (show z ≤ -16777216 - 1 by omega) (Int.le_of_lt hW)
    rw [Int.mul_sub, Int.mul_one, Int.mul_neg, Int.mul_comm (2 ^ e * D) 16777216, ← Int.mul_assoc] at this
    omega
  have hlow := h.ge (z := z) (e := e) (by omega) he (by rw [hD, ew]; omega)
  have hlow2 := Int.mul_le_mul_of_nonneg_right hlow (Int.le_of_lt hD0)
  rw [ew] at hlow2
  by_cases hz3 : z = 16777216
  · have hm0 : m = 0 := by rw [hz3, ← ew] at hdm; omega
    have hup := h.le (z := z) (e := e) (by omega) he (by rw [hD, ew]; omega)
    have hup2 := Int.mul_le_mul_of_nonneg_right hup (Int.le_of_lt hD0)
    rw [ew] at hup2
    omega
  · have hup := h.le (z := z + 1) (e := e) (by omega) he (by rw [hD, ew, Int.mul_add, Int.mul_one]; omega)
    have hup2 := Int.mul_le_mul_of_nonneg_right hup (Int.le_of_lt hD0)
    rw [ew, Int.mul_add, Int.mul_one] at hup2
    omega
/-- One word for what is rounded, but for a zero's sign. -/
theorem fv_inj {a b : Nat} (ha : fin32 a = true) (hb : fin32 b = true) (hab : fv a = fv b) (h0 : fv a ≠ 0) (hla : a < 4294967296) (hlb : b < 4294967296) : a = b := by
  have key : ∀ c, fin32 c = true → c < 4294967296 → ∃ s q, c = FloatKind.f32.format.word s q ∧ q < 2139095040 ∧ fv c = sg s (rv q) := fun c hc hcl => by
    have e1 : FloatKind.f32.format.signWeight = 2147483648 := rfl
    have hw : c = FloatKind.f32.format.word (decide (2147483648 ≤ c)) (c % 2147483648) := by
      unfold Format.word
      rw [e1]
      by_cases h : 2147483648 ≤ c
      · rw [decide_eq_true h]; simp; omega
      · rw [decide_eq_false h]; simp; omega
    have hq : c % 2147483648 < 2139095040 := by
      refine Nat.lt_of_not_le fun h => ?_
      have e2 : FloatKind.f32.format.binade = 8388608 := rfl
      have e3 : FloatKind.f32.format.infRung = 2139095040 := rfl
      have hd : FloatKind.f32.decode c = FloatKind.f32.format.read c := rfl
      unfold Format.read at hd
      simp only [e1, e2, e3] at hd
      rw [if_neg (by omega), if_neg (by omega)] at hd
      unfold fin32 at hc
      split at hd <;> rw [hd] at hc <;> cases hc
    have h2 := fin_word (s := decide (2147483648 ≤ c)) hq
    rw [← hw] at h2
    exact ⟨_, _, hw, hq, h2.2⟩
  obtain ⟨s, q, e1, _, v1⟩ := key a ha hla
  obtain ⟨t, q', e2, _, v2⟩ := key b hb hlb
  rw [e1, e2]
  have hq : rv q = rv q' := by
    rw [v1, v2] at hab
    rw [v1] at h0
    cases s <;> cases t <;> simp [sg] at hab h0 <;> omega
  have hqq : q = q' := by
    rcases Nat.lt_trichotomy q q' with h | h | h
    · have := rv_lt h; omega
    · exact h
    · have := rv_lt h; omega
  have hst : s = t := by
    rw [v1, v2, hq] at hab
    rw [v1, hq] at h0
    cases s <;> cases t <;> simp [sg] at hab h0 ⊢ <;> omega
  rw [hqq, hst]
end Go.Proofs.Ytjghdagcmombnaa
