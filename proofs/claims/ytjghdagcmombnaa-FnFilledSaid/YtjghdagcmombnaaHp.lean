/- Fillings: rates, times, and the least of them. No program in sight. -/
import Derived.Test.YtjghdagcmombnaaHf0
import Derived.Test.YtjghdagcmombnaaGc
import Derived.Test.YtjghdagcmombnaaNl

namespace Go.Proofs.Ytjghdagcmombnaa
open Go.RowKit
attribute [local irreducible] AW AOs AO AQ AQW thenA inBlockA postA ACalls Pure
set_option linter.unusedSimpArgs false
set_option linter.unusedVariables false
set_option linter.unusedSectionVars false

/-- Numbers in sixteenths are even in their last place. -/
theorem even_f : ∀ v : Fin 33, 1 ≤ v.val → v.val * 2 ^ 145 = (v.val * 2 ^ (23 - v.val.log2)) * 2 ^ (122 + v.val.log2) ∧ (v.val * 2 ^ (23 - v.val.log2)) % 2 = 0 ∧ 8388608 ≤ v.val * 2 ^ (23 - v.val.log2) ∧ v.val * 2 ^ (23 - v.val.log2) < 16777215 ∧ 122 + v.val.log2 ≤ 140 ∧ v.val * 2 ^ 145 < 2 ^ (122 + v.val.log2 + 24) := by decide +kernel
theorem even_form {V : Int} (h : 1 ≤ V ∧ V ≤ 32) : ∃ c K : Nat, V * 2 ^ 145 = (c : Int) * 2 ^ K ∧ c % 2 = 0 ∧ (8388608 ≤ c ∧ c < 16777215) ∧ K ≤ 140 ∧ V * 2 ^ 145 < 2 ^ (K + 24) := by
  obtain ⟨v, rfl⟩ : ∃ v : Nat, V = v := ⟨V.toNat, by omega⟩
  obtain ⟨h1, h2, h3, h4, h5, h6⟩ := even_f ⟨v, by omega⟩ (by show 1 ≤ v; omega)
  simp only at h1 h2 h3 h4 h5 h6
  refine ⟨_, _, ?_, h2, ⟨h3, h4⟩, h5, ?_⟩
  · have := congrArg (fun x : Nat => (x : Int)) h1
    simp only [Int.natCast_mul, Int.natCast_pow] at this ⊢
    exact this
  · have := Int.ofNat_lt.2 h6
    simp only [Int.natCast_mul, Int.natCast_pow] at this
    exact this
/-- A great number has many units. -/
theorem gran {a k : Nat} (ha : fin32 a = true) (h : 2 ^ (k + 23) ≤ fv a) : ∃ z : Int, fv a = z * 2 ^ k := by
  obtain ⟨s, m, p, _, hv, q, _, hq, _⟩ := fin_form ha
  obtain ⟨L, m', _, hm, hL, hr⟩ := rv_form q
  rw [hv, ← hq, hr] at h ⊢
  have hp : (0 : Int) < 2 ^ (k + 23) := Int.pow_pos (by decide)
  cases s with
  | true =>
    unfold sg at h
    simp only [if_true] at h
    omega
  | false =>
    have e : sg false (m' * 2 ^ L) = ((m' * 2 ^ L : Nat) : Int) := rfl
    rw [e] at h ⊢
    have h1 : 2 ^ (k + 23) ≤ m' * 2 ^ L := by
      have e2 : ((2 ^ (k + 23) : Nat) : Int) = 2 ^ (k + 23) := Int.natCast_pow 2 (k + 23)
      rw [← e2] at h
      exact Int.ofNat_le.1 h
    have h2 : m' * 2 ^ L < 2 ^ (L + 24) := by
      rw [show L + 24 = 24 + L by omega, Nat.pow_add]
      exact Nat.mul_lt_mul_of_pos_right hm (Nat.two_pow_pos L)
    have h3 : k + 23 < L + 24 := (Nat.pow_lt_pow_iff_right (by decide)).1 (Nat.lt_of_le_of_lt h1 h2)
    refine ⟨((m' * 2 ^ (L - k) : Nat) : Int), ?_⟩
    have e3 : m' * 2 ^ L = m' * 2 ^ (L - k) * 2 ^ k := by rw [Nat.mul_assoc, ← Nat.pow_add, show L - k + k = L by omega]
    rw [e3, Int.natCast_mul, Int.natCast_pow]
    rfl
/-- Products of a sixteenth and a quarter: exact. -/
theorem mul_pw {x y : Nat} {a b : Int} (hx : nn x ∧ fv x = a * 2 ^ 147) (hy : nn y ∧ fv y = b * 2 ^ 145) (ha : 0 ≤ a ∧ a ≤ 8) (hb : 0 ≤ b ∧ b ≤ 16) : nn (fmul .f32 x y) ∧ fv (fmul .f32 x y) = a * b * 2 ^ 143 := by
  have h0 : 0 ≤ a * b := Int.mul_nonneg ha.1 hb.1
  have h1 : a * b ≤ 8 * b := Int.mul_le_mul_of_nonneg_right ha.2 hb.1
  have e : fv x * fv y = a * b * 2 ^ 143 * 2 ^ 149 := by
    rw [hx.2, hy.2]
    have : (2 : Int) ^ 147 * 2 ^ 145 = 2 ^ 143 * 2 ^ 149 := by decide +kernel
    calc a * 2 ^ 147 * (b * 2 ^ 145) = a * b * (2 ^ 147 * 2 ^ 145) := by
          generalize (2 : Int) ^ 147 = P; generalize (2 : Int) ^ 145 = Q; ac_rfl
      _ = a * b * 2 ^ 143 * 2 ^ 149 := by rw [this, ← Int.mul_assoc]
  obtain ⟨q1, q2⟩ := nn_mul hx.1 hy.1 (by
    rw [e, U_val]
    exact Int.mul_le_mul_of_nonneg_right (by omega) (by decide +kernel))
  exact ⟨q1, q2.exact (z := a * b) (e := 143) (by omega) (by decide) (by rw [e]; rfl)⟩
/-! ### Lists of numbers with one unit -/
def jsL (l : List Nat) : Nat := jSum (fun q => l.getD q 0) (l.length - 1)
theorem jSum_congr {f g : Nat → Nat} : ∀ m, (∀ q, q ≤ m → f q = g q) → jSum f m = jSum g m
  | 0, h => h 0 (Nat.le_refl _)
  | m + 1, h => by
    show fadd .f32 (jSum f m) (f (m + 1)) = fadd .f32 (jSum g m) (g (m + 1))
    rw [jSum_congr m fun q hq => h q (by omega), h (m + 1) (Nat.le_refl _)]
theorem jsL_snoc {l : List Nat} {x : Nat} (h : l ≠ []) : jsL (l ++ [x]) = fadd .f32 (jsL l) x := by
  obtain ⟨m, hm⟩ : ∃ m, l.length = m + 1 := ⟨l.length - 1, by have := List.length_pos_iff.2 h; omega⟩
  unfold jsL
  rw [List.length_append, hm]
  show fadd .f32 (jSum _ m) ((l ++ [x]).getD (m + 1) 0) = fadd .f32 (jSum _ m) x
  rw [jSum_congr m (g := fun q => l.getD q 0) fun q hq => by
    show (l ++ [x]).getD q 0 = l.getD q 0
    rw [List.getD_eq_getElem?_getD, List.getD_eq_getElem?_getD, List.getElem?_append_left (by omega)]]
  congr 1
  rw [List.getD_eq_getElem?_getD, List.getElem?_append_right (by omega), hm, Nat.sub_self]
  rfl
/-! ### A filling of numbers that are drawn -/
structure Fd (h s t : Nat → Nat) (n o : Nat) (W : Nat → Nat → Int) (V p : Nat → Int) : Prop where
  a : ∀ i k, i < 4 → k < 4 → nn (jA h i k) ∧ fv (jA h i k) = W i k * 2 ^ 145
  w : ∀ i k, 0 ≤ W i k ∧ W i k ≤ 16
  z : ∀ i k, o ≤ k → W i k = 0
  pr : ∀ i, i < n → nn (h (18 + i)) ∧ fv (h (18 + i)) = p i * 2 ^ 147
  pb : ∀ i, 1 ≤ p i ∧ p i ≤ 8
  s : ∀ i, i < 4 → nn (s i) ∧ fv (s i) = V i * 2 ^ 145
  v : ∀ i, 0 ≤ V i ∧ V i ≤ 32
  vn : ∀ i, n ≤ i → V i = 0
  t : ∀ k, k < 4 → nn (t k) ∧ fv (t k) ≤ 2 ^ 156 ∧ (fv (t k) = 0 ∨ 2 ^ 145 ≤ fv (t k))
/-- What is brought to an out, in units, by the first i ways. -/
def rkN (p : Nat → Int) (W : Nat → Nat → Int) (S : FSt) (k : Nat) : Nat → Int
  | 0 => 0
  | i + 1 => rkN p W S k i + if S.g i then p i * W i k else 0
abbrev rk (p : Nat → Int) (W : Nat → Nat → Int) (S : FSt) (k : Nat) : Int := rkN p W S k 4
/-- What flows to an out, in units. -/
def smW (W : Nat → Nat → Int) (S : FSt) (k : Nat) : Int := fv (S.f 0) * W 0 k + fv (S.f 1) * W 1 k + fv (S.f 2) * W 2 k + fv (S.f 3) * W 3 k
structure Iv (s t : Nat → Nat) (n : Nat) (W : Nat → Nat → Int) (V : Nat → Int) (m : Int) (S : FSt) : Prop where
  go : ∀ i, i < 4 → S.g i = true → i < n ∧ 0 < V i ∧ ∀ k, k < 4 → 0 < W i k → 2 ^ 145 ≤ fv (t k)
  f : ∀ i, i < 4 → nn (S.f i) ∧ fv (S.f i) ≤ fv (s i)
  c : ∀ k, k < 4 → nn (S.c k)
  mb : 0 ≤ m ∧ m ≤ 8
  e : ∀ k, k < 4 → 16 * fv (S.c k) ≤ smW W S k + m * (224 * 2 ^ 132) ∧ smW W S k ≤ 16 * fv (S.c k) + m * (224 * 2 ^ 132)
section
variable {h s t : Nat → Nat} {n o : Nat} {W : Nat → Nat → Int} {V p : Nat → Int} {m : Int} {S : FSt}
theorem rkN_bd (hd : Fd h s t n o W V p) (k : Nat) : ∀ i, 0 ≤ rkN p W S k i ∧ rkN p W S k i ≤ 128 * i
  | 0 => ⟨Int.le_refl 0, Int.le_refl 0⟩
  | i + 1 => by
    have h1 := rkN_bd hd k i
    have h2 := hd.pb i
    have h3 := hd.w i k
    have h4 : 0 ≤ p i * W i k := Int.mul_nonneg (by omega) h3.1
    have h5 : p i * W i k ≤ 8 * W i k := Int.mul_le_mul_of_nonneg_right h2.2 h3.1
    show 0 ≤ rkN p W S k i + (if S.g i then p i * W i k else 0) ∧ rkN p W S k i + (if S.g i then p i * W i k else 0) ≤ 128 * ((i + 1 : Nat) : Int)
    split <;> omega
theorem rk_bd (hd : Fd h s t n o W V p) (k : Nat) : 0 ≤ rk p W S k ∧ rk p W S k ≤ 512 := by
  have := rkN_bd (S := S) hd k 4
  show 0 ≤ rkN p W S k 4 ∧ rkN p W S k 4 ≤ 512
  omega
theorem pw_fv (hd : Fd h s t n o W V p) {i k : Nat} (hi : i < n) (h4 : i < 4) (hk : k < 4) : nn (fmul .f32 (h (18 + i)) (jA h i k)) ∧ fv (fmul .f32 (h (18 + i)) (jA h i k)) = p i * W i k * 2 ^ 143 :=
  mul_pw (hd.pr i hi) (hd.a i k h4 hk) (by have := hd.pb i; omega) (hd.w i k)
theorem rl_fv (hd : Fd h s t n o W V p) (hv : Iv s t n W V m S) {k : Nat} (hk : k < 4) : ∀ i, i ≤ 4 → (rlL h S k i = [] → rkN p W S k i = 0) ∧ nn (jsL (rlL h S k i)) ∧ fv (jsL (rlL h S k i)) = rkN p W S k i * 2 ^ 143
  | 0, _ => ⟨fun _ => rfl, nn_zero, by show fv 0 = 0 * 2 ^ 143; rw [fv_zero, Int.zero_mul]⟩
  | i + 1, hi => by
    obtain ⟨h0, h1, h2⟩ := rl_fv hd hv hk i (by omega)
    have hb := rkN_bd (S := S) hd k i
    show ((if S.g i then rlL h S k i ++ [fmul .f32 (h (18 + i)) (jA h i k)] else rlL h S k i) = [] → rkN p W S k i + (if S.g i then p i * W i k else 0) = 0) ∧ nn (jsL (if S.g i then rlL h S k i ++ [fmul .f32 (h (18 + i)) (jA h i k)] else rlL h S k i)) ∧ fv (jsL (if S.g i then rlL h S k i ++ [fmul .f32 (h (18 + i)) (jA h i k)] else rlL h S k i)) = (rkN p W S k i + (if S.g i then p i * W i k else 0)) * 2 ^ 143
    cases hg : S.g i
    · simp only [Bool.false_eq_true, if_false, Int.add_zero]
      exact ⟨h0, h1, h2⟩
    · simp only [if_true]
      have hp := pw_fv (k := k) hd (hv.go i (by omega) hg).1 (by omega) hk
      have h3 := hd.pb i
      have h4 := hd.w i k
      have h5 : 0 ≤ p i * W i k := Int.mul_nonneg (by omega) h4.1
      have h6 : p i * W i k ≤ 8 * W i k := Int.mul_le_mul_of_nonneg_right h3.2 h4.1
      refine ⟨fun he => by simp at he, ?_⟩
      by_cases hl : rlL h S k i = []
      · rw [hl, h0 hl, Int.zero_add]
        exact hp
      · rw [jsL_snoc hl]
        exact add_unit (e := 143) ⟨h1, h2⟩ hp (by decide) (by omega)
/-- A rate. -/
theorem rt_fv (hd : Fd h s t n o W V p) (hv : Iv s t n W V m S) {k : Nat} (hk : k < 4) : nn (rtI h S k) ∧ fv (rtI h S k) = rk p W S k * 2 ^ 143 := (rl_fv hd hv hk 4 (Nat.le_refl _)).2
theorem rt_pos (hd : Fd h s t n o W V p) (hv : Iv s t n W V m S) {k : Nat} (hk : k < 4) : fgt .f32 (rtI h S k) 0 = decide (0 < rk p W S k) := by
  obtain ⟨h1, h2⟩ := rt_fv hd hv hk
  rw [fgt_fv h1.1 nn_zero.1, fv_zero, h2]
  exact decide_eq_decide.2 (by omega)
theorem rkN_ex {k : Nat} : ∀ i, i ≤ 4 → (∀ q, 0 ≤ W q k) → (∀ q, 1 ≤ p q) → 0 < rkN p W S k i → ∃ q, q < i ∧ S.g q = true ∧ 0 < W q k
  | 0, _, _, _, h0 => by have : (0 : Int) < 0 := h0; omega
  | i + 1, hi, hw, hp, h0 => by
    by_cases hc : S.g i = true ∧ 0 < W i k
    · exact ⟨i, by omega, hc.1, hc.2⟩
    · have h1 : 0 < rkN p W S k i := by
        have h2 : 0 < rkN p W S k i + (if S.g i then p i * W i k else 0) := h0
        split at h2
        · rename_i hg
          have : W i k = 0 := by have := hw i; have : ¬ 0 < W i k := fun h => hc ⟨hg, h⟩; omega
          rw [this, Int.mul_zero] at h2
          omega
        · omega
      obtain ⟨q, q1, q2⟩ := rkN_ex i (by omega) hw hp h1
      exact ⟨q, by omega, q2⟩
/-- An out with a rate has a way that goes, and takes something. -/
theorem rk_ex (hd : Fd h s t n o W V p) (hv : Iv s t n W V m S) {k : Nat} (hk : k < 4) (h0 : 0 < rk p W S k) : (∃ q, q < 4 ∧ S.g q = true ∧ 0 < W q k) ∧ 2 ^ 145 ≤ fv (t k) := by
  obtain ⟨q, q1, q2, q3⟩ := rkN_ex 4 (Nat.le_refl _) (fun q => (hd.w q k).1) (fun q => (hd.pb q).1) h0
  exact ⟨⟨q, q1, q2, q3⟩, (hv.go q q1 q2).2.2 k hk q3⟩
/-! ### Times -/
theorem sm_bd (hd : Fd h s t n o W V p) (hv : Iv s t n W V m S) (k : Nat) : 0 ≤ smW W S k ∧ smW W S k ≤ 2 ^ 156 := by
  have key : ∀ i, i < 4 → 0 ≤ fv (S.f i) * W i k ∧ fv (S.f i) * W i k ≤ 2 ^ 154 := fun i hi => by
    obtain ⟨h1, h2⟩ := hv.f i hi
    have h3 := nn_bd h1
    have h4 := hd.w i k
    have h5 := hd.v i
    have h6 := (hd.s i hi).2
    refine ⟨Int.mul_nonneg h3 h4.1, ?_⟩
    have h7 : fv (S.f i) * W i k ≤ fv (S.f i) * 16 := Int.mul_le_mul_of_nonneg_left h4.2 h3
    omega
  have k0 := key 0 (by omega)
  have k1 := key 1 (by omega)
  have k2 := key 2 (by omega)
  have k3 := key 3 (by omega)
  unfold smW
  omega
theorem c_bd (hd : Fd h s t n o W V p) (hv : Iv s t n W V m S) {k : Nat} (hk : k < 4) : 0 ≤ fv (S.c k) ∧ fv (S.c k) ≤ 2 ^ 153 := by
  have h1 := nn_bd (hv.c k hk)
  have h2 := hv.e k hk
  have h3 := sm_bd hd hv k
  have h4 := hv.mb
  refine ⟨h1, ?_⟩
  omega
/-- What is left to be sent, and how long it lasts. -/
theorem in_fv (hd : Fd h s t n o W V p) (hv : Iv s t n W V m S) {i : Nat} (hi : i < 4) (hg : S.g i = true) :
    nn (fsub .f32 (s i) (S.f i)) ∧ Rnd (fsub .f32 (s i) (S.f i)) (fv (s i) - fv (S.f i)) 1 ∧ fv (fsub .f32 (s i) (S.f i)) ≤ 2 ^ 150 ∧
      nn (inI h s S i) ∧ Rnd (inI h s S i) (fv (fsub .f32 (s i) (S.f i)) * 2 ^ 149) (fv (h (18 + i))).natAbs ∧ fv (inI h s S i) ≤ 2 ^ 152 := by
  obtain ⟨h1, h2⟩ := hd.s i hi
  obtain ⟨h3, h4⟩ := hv.f i hi
  obtain ⟨h5, h6⟩ := hd.pr i (hv.go i hi hg).1
  have h7 := hd.v i
  have h8 := hd.pb i
  have h9 := nn_bd h3
  obtain ⟨r1, r2, _⟩ := nn_sub h1 h3 (by omega) (by omega)
  have x1 := r2 (by omega)
  have x2 : fv (fsub .f32 (s i) (S.f i)) ≤ fv (s i) := r1.le_of h1.1 (by simp; omega)
  have x3 := nn_bd x1
  refine ⟨x1, r1, by omega, ?_⟩
  show nn (fdiv .f32 (fsub .f32 (s i) (S.f i)) (h (18 + i))) ∧ Rnd (fdiv .f32 (fsub .f32 (s i) (S.f i)) (h (18 + i))) _ _ ∧ fv (fdiv .f32 (fsub .f32 (s i) (S.f i)) (h (18 + i))) ≤ _
  have hU := U_val
  have hb1 : fv (fsub .f32 (s i) (S.f i)) * 2 ^ 149 ≤ 2 ^ 152 * fv (h (18 + i)) := by
    rw [h6]; omega
  obtain ⟨d1, d2⟩ := nn_div x1 h5 (by omega) (by rw [U_val]; omega)
  rw [U_val] at d2
  refine ⟨d1, d2, d2.le (z := 1) (e := 152) (by omega) (by decide) ?_⟩
  have : ((fv (h (18 + i))).natAbs : Int) = fv (h (18 + i)) := Int.natAbs_of_nonneg (by omega)
  rw [this, Int.one_mul]
  exact hb1
/-- How long an out takes. -/
theorem out_fv (hd : Fd h s t n o W V p) (hv : Iv s t n W V m S) {k : Nat} (hk : k < 4) (h0 : 0 < rk p W S k) :
    nn (outI t (rtI h S) S k) ∧ Rnd (fsub .f32 (t k) (S.c k)) (fv (t k) - fv (S.c k)) 1 ∧
      ((0 ≤ fv (fsub .f32 (t k) (S.c k)) ∧ Rnd (outI t (rtI h S) S k) (fv (fsub .f32 (t k) (S.c k)) * 2 ^ 149) (fv (rtI h S k)).natAbs) ∨ (fv (t k) ≤ fv (S.c k) ∧ outI t (rtI h S) S k = 0)) ∧
      fin32 (fdiv .f32 (fsub .f32 (t k) (S.c k)) (rtI h S k)) = true := by
  obtain ⟨t1, t2, _⟩ := hd.t k hk
  have t3 := (rk_ex hd hv hk h0).2
  obtain ⟨r1, r2⟩ := rt_fv hd hv hk
  have rb := rk_bd (S := S) hd k
  have c1 := hv.c k hk
  have c2 := c_bd hd hv hk
  obtain ⟨x1, x2, x3⟩ := nn_sub t1 c1 (by omega) (by omega)
  generalize hX : fsub .f32 (t k) (S.c k) = X at *
  have hU := U_val
  have eo : outI t (rtI h S) S k = grz (fdiv .f32 X (rtI h S k)) := by unfold outI; rw [hX]
  rw [eo]
  by_cases hn : 0 ≤ fv X
  · have xn := x3 hn
    have xb : fv X ≤ fv (t k) := x1.le_of t1.1 (by simp; omega)
    obtain ⟨d1, d2⟩ := nn_div xn r1 (by omega) (by rw [U_val, r2]; omega)
    have eg : grz (fdiv .f32 X (rtI h S k)) = fdiv .f32 X (rtI h S k) := by
      unfold grz
      have := nn_bd d1
      rw [fgt_fv nn_zero.1 d1.1, fv_zero, decide_eq_false (by omega)]; rfl
    rw [eg]
    rw [U_val] at d2
    exact ⟨d1, x1, .inl ⟨hn, d2⟩, d1.1⟩
  · have hc : fv (t k) < fv (S.c k) := by
      refine Int.not_le.1 fun hle => hn ?_
      exact nn_bd (x2 (by omega))
    obtain ⟨z1, e1⟩ := gran (k := 122) t1.1 (by omega)
    obtain ⟨z2, e2⟩ := gran (k := 122) c1.1 (by omega)
    have xl : fv X ≤ -1 * 2 ^ 122 := x1.le (by decide) (by decide) (by simp; omega)
    have xg : -1 * 2 ^ 153 ≤ fv X := x1.ge (by decide) (by decide) (by have := nn_bd t1; simp; omega)
    have d2 := rnd_div' x1.1 r1.1 (by omega) (by rw [U_val, r2]; omega) (by rw [U_val, r2]; omega)
    have ea : ((fv (rtI h S k)).natAbs : Int) = fv (rtI h S k) := Int.natAbs_of_nonneg (by omega)
    have d3 : fv (fdiv .f32 X (rtI h S k)) ≤ -1 * 2 ^ 0 := d2.le (by decide) (by decide) (by rw [ea, U_val, r2]; omega)
    have eg : grz (fdiv .f32 X (rtI h S k)) = 0 := by
      unfold grz
      rw [fgt_fv nn_zero.1 d2.1, fv_zero, decide_eq_true (by omega)]; rfl
    rw [eg]
    exact ⟨nn_zero, x1, .inr ⟨by omega, rfl⟩, d2.1⟩
end
end Go.Proofs.Ytjghdagcmombnaa
