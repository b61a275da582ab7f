/- Shared green is fair: plain facts. No program in sight. -/
import Derived.Test.YtaickofjjomdmaaSh2
import Derived.Test.YtaickofjjomdmaaFv
import Derived.Test.YtaickofjjomdmaaAf
namespace Go.Proofs.Ytaickofjjomdmaa
open Go.RowKit
attribute [local irreducible] AW AOs AO AQ AQW thenA inBlockA postA ACalls Pure
set_option linter.unusedSimpArgs false

/-- The demands that are drawn: eighths. -/
def dmF (i : Nat) : Nat := fdiv .f32 (fofInt .f32 (i : Int)) 1090519040
theorem dm_zero : dmF 0 = 0 := by decide +kernel
theorem dm_nn8 : ∀ i : Fin 8, fnan .f32 (dmF i.val) = false := by decide +kernel
theorem dm_nn {i : Nat} (h : i < 8) : fnan .f32 (dmF i) = false := dm_nn8 ⟨i, h⟩
theorem dm_max8 : ∀ i j : Fin 8, fmaxF .f32 (dmF i.val) (dmF j.val) = if fgt .f32 (dmF j.val) (dmF i.val) = true then dmF j.val else dmF i.val := by decide +kernel
theorem dm_max {i j : Nat} (hi : i < 8) (hj : j < 8) : fmaxF .f32 (dmF i) (dmF j) = if fgt .f32 (dmF j) (dmF i) = true then dmF j else dmF i := dm_max8 ⟨i, hi⟩ ⟨j, hj⟩
theorem dm_lt8 : ∀ i j : Fin 8, flt .f32 (dmF i.val) (dmF j.val) = decide (i.val < j.val) := by decide +kernel
theorem dm_lt {i j : Nat} (hi : i < 8) (hj : j < 8) : flt .f32 (dmF i) (dmF j) = decide (i < j) := dm_lt8 ⟨i, hi⟩ ⟨j, hj⟩
theorem dm_am : amsK dmF 8 = true := by decide +kernel
theorem wt_dm (p : Nat → Bool) : ∀ i, i ≤ 8 → ∃ j, j < 8 ∧ wtF p dmF i = dmF j
  | 0, _ => ⟨0, by omega, dm_zero.symm⟩
  | i + 1, h => by
    simp only [wtF]
    split
    · exact ⟨i, by omega, rfl⟩
    · exact wt_dm p i (by omega)
/-- The need of x eighths behind t ticks. -/
def ndv (x t : Nat) : Nat := fdiv .f32 (dmF x) (fofInt .f32 (t : Int))
theorem nd_fin64 : ∀ x : Fin 8, ∀ t : Fin 64, fin32 (ndv x.val (t.val + 1)) = true := by decide +kernel
theorem nd_lt64 : ∀ x : Fin 8, ∀ y : Fin 8, ∀ t : Fin 64, x.val < y.val → flt .f32 (ndv x.val (t.val + 1)) (ndv y.val (t.val + 1)) = true := by decide +kernel
theorem nd_fin {x t : Nat} (hx : x < 8) (h1 : 1 ≤ t) (h2 : t ≤ 64) : fin32 (ndv x t) = true := by
  have := nd_fin64 ⟨x, hx⟩ ⟨t - 1, by omega⟩
  rwa [show t - 1 + 1 = t by omega] at this
theorem nd_lt {x y t : Nat} (hy : y < 8) (hxy : x < y) (h1 : 1 ≤ t) (h2 : t ≤ 64) : fv (ndv x t) < fv (ndv y t) := by
  have := nd_lt64 ⟨x, by omega⟩ ⟨y, hy⟩ ⟨t - 1, by omega⟩ hxy
  rw [show t - 1 + 1 = t by omega, flt_fv (nd_fin (by omega) h1 h2) (nd_fin hy h1 h2)] at this
  exact of_decide_eq_true this
theorem bst_max {W : Nat → Nat} {T : Nat → Int} {n : Nat} (hf : ∀ q, q < n → fin32 (needF W T q) = true) : ∀ i, i ≤ n → ∀ q, q < i → fv (needF W T q) ≤ fv (needF W T (bst W T i))
  | 0, _, q, h => by omega
  | i + 1, hi, q, h => by
    have ih := bst_max hf i (by omega)
    simp only [bst]
    by_cases h0 : i = 0
    · rw [if_pos h0, show q = 0 by omega]; exact Int.le_refl _
    · rw [if_neg h0]
      have hb := bst_lt (W := W) (T := T) i (by omega)
      rw [fgt_fv (hf i (by omega)) (hf _ (by omega))]
      by_cases hl : fv (needF W T (bst W T i)) < fv (needF W T i)
      · rw [decide_eq_true hl, if_pos rfl]
        by_cases e : q = i
        · subst e; exact Int.le_refl _
        · have := ih q (by omega); omega
      · rw [decide_eq_false hl, if_neg (by simp)]
        by_cases e : q = i
        · subst e; omega
        · exact ih q (by omega)
theorem fair {W x : Nat → Nat} {n : Nat} (hn : 0 < n) (hW : ∀ q, q < n → W q = dmF (x q) ∧ x q < 8) : ∀ r, r ≤ 60 → ∀ i k, i < n → k < n → x i < x k → tkF W n r i ≤ tkF W n r k
  | 0, _, i, k, _, _, _ => Int.le_refl _
  | r + 1, hr, i, k, hi, hk, hx => by
    have ih := fair hn hW r (by omega) i k hi hk hx
    have hbd := fun q => tk_bd (W := W) (n := n) q r
    have hnd : ∀ q, q < n → needF W (tkF W n r) q = ndv (x q) (tkF W n r q).toNat := fun q hq => by
      have := hbd q
      unfold needF ndv
      rw [(hW q hq).1, Int.toNat_of_nonneg (by omega)]
    have hfin : ∀ q, q < n → fin32 (needF W (tkF W n r) q) = true := fun q hq => by
      have := hbd q
      rw [hnd q hq]
      exact nd_fin (hW q hq).2 (by omega) (by omega)
    have hmax := bst_max hfin n (Nat.le_refl n) k hk
    have hbl := bst_lt (W := W) (T := tkF W n r) n hn
    simp only [tkF]
    generalize bst W (tkF W n r) n = s at *
    by_cases hik : i = s
    · subst hik
      rw [if_pos rfl]
      by_cases hks : k = i
      · subst hks; omega
      · rw [if_neg hks]
        have hlt : tkF W n r i ≠ tkF W n r k := fun e => by
          have h1 := hbd i
          rw [hnd k hk, hnd i hi, ← e] at hmax
          have := nd_lt (hW k hk).2 hx (t := (tkF W n r i).toNat) (by omega) (by omega)
          omega
        omega
    · rw [if_neg hik]
      by_cases hks : k = s
      · rw [if_pos hks]; omega
      · rw [if_neg hks]; exact ih
theorem sumP_inc {T : Nat → Int} {b : Int} {s : Nat} : ∀ n, sumP (fun q => if q = s then T q + 1 else T q) b n = sumP T b n + (if s < n then 1 else 0)
  | 0 => by simp [sumP]
  | n + 1 => by
    simp only [sumP]
    rw [sumP_inc n]
    by_cases h : n = s
    · subst h; rw [if_pos rfl, if_neg (by omega), if_pos (by omega)]; omega
    · rw [if_neg h]
      by_cases h2 : s < n
      · rw [if_pos h2, if_pos (by omega)]; omega
      · rw [if_neg h2, if_neg (by omega)]; omega
theorem sumP_ones {b : Int} : ∀ n : Nat, sumP (fun _ => 1) b n = (n : Int) * (1 + b)
  | 0 => by simp [sumP]
  | n + 1 => by
    simp only [sumP]
    rw [sumP_ones n, Int.natCast_add, Int.add_mul]
    simp
theorem sumP_tk {W : Nat → Nat} {n : Nat} {b : Int} (hn : 0 < n) : ∀ r : Nat, sumP (tkF W n r) b n = (n : Int) * (1 + b) + r
  | 0 => by
    have e : tkF W n 0 = fun _ => 1 := rfl
    rw [e, sumP_ones]; simp
  | r + 1 => by
    have e : tkF W n (r + 1) = fun q => if q = bst W (tkF W n r) n then tkF W n r q + 1 else tkF W n r q := rfl
    rw [e, sumP_inc, if_pos (bst_lt n hn), sumP_tk hn r]; omega
end Go.Proofs.Ytaickofjjomdmaa
