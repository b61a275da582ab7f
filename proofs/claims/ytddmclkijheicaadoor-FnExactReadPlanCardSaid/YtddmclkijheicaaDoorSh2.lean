/- Shared green: the program's walk. -/
import Derived.Test.YtddmclkijheicaaDoorSh
import Derived.Test.YtddmclkijheicaaDoorDr2
import Derived.Test.YtddmclkijheicaaDoorOc
namespace Go.Proofs.YtddmclkijheicaaDoor
open Go.RowKit
attribute [local irreducible] AW AOs AO AQ AQW thenA inBlockA postA ACalls Pure
set_option linter.unusedSimpArgs false
set_option linter.unusedVariables false
set_option linter.unusedSectionVars false

/-- One new block, in a struct whose first field is the slice of it, and a flat value beside. -/
theorem p_allocCT {P : Program} {fn : Func} {n : Nat} {t : Env} {m M G : Mem} {p jp o ty q ln cp j k2 : Nat} {tg : Option Nat} {bp b : Blk} {k : TK} [hk : TyK P ty k] {fl : List Value} {y : Value} (hr : fn.results = #[.cell p ty, .tmp k2]) (hp : look t p = .pointer (some ⟨jp, o, none⟩)) (hbp : m[jp]? = some bp) (htg : bp.tag = none)
    (hv : ldA k o bp.cells = some (.agg (.slice (some ⟨j, 0, tg⟩) ln cp :: fl).toArray)) (hv2 : look t k2 = y) (hy : Flat y) (hj : j = M.length + q) (hm : m = M ++ G) (hq : G[q]? = some b) (hfl : ∀ c ∈ b.cells, Flat c) (hfl2 : ∀ c ∈ fl, Flat c) :
    postA P fn (RelA M [q] (.tuple [.agg (.slice (some ⟨M.length, 0, tg⟩) ln cp :: fl).toArray, y].toArray) [b]) .ret ⟨n, t, m⟩ := by
  have h := OneRef.agg (o := 0) (n := ln) (m := cp) (tg := tg) hfl2 (M.length + 1) (placeOf M.length [q]) M.length (by omega)
  have e : placeOf M.length [q] M.length = M.length + q := by unfold placeOf; simp
  rw [e] at h
  subst hj
  unfold postA
  refine ⟨.tuple [.agg (.slice (some ⟨M.length + q, 0, tg⟩) ln cp :: fl).toArray, y].toArray, ?_, G, hm, ?_, fun i b' hb => ?_⟩
  · exact resN (P := P) (s := ⟨n, t, m⟩) (xs := [.cell p ty, .tmp k2]) (vs := [.agg (.slice (some ⟨M.length + q, 0, tg⟩) ln cp :: fl).toArray, y]) hr rfl (by simp) fun i x v hx hv' => by
      match i, hx, hv' with
      | 0, hx, hv' => cases hx; cases hv'; exact r_cell hp hbp htg hv
      | 1, hx, hv' => cases hx; cases hv'; exact r_tmp hv2
  · refine RenV.tuple rfl fun i x y' hx hy' => ?_
    match i, hx, hy' with
    | 0, hx, hy' => cases hx; cases hy'; exact h
    | 1, hx, hy' => cases hx; cases hy'; exact RenV.flat hy
  · cases i with
    | zero => simp at hb; subst hb; exact ⟨b, by simpa using hq, RenB.flat hfl⟩
    | succ i => simp at hb

theorem rows_one1 {f : Nat → List Value} : rows 1 f = f 0 := by rw [rows_succ]; rfl
/-! ### Which slot gets the next tick -/
def needF (W : Nat → Nat) (T : Nat → Int) (q : Nat) : Nat := fdiv .f32 (W q) (fofInt .f32 (T q))
def bst (W : Nat → Nat) (T : Nat → Int) : Nat → Nat
  | 0 => 0
  | i + 1 => if i = 0 then 0 else if fgt .f32 (needF W T i) (needF W T (bst W T i)) = true then i else bst W T i
def tkF (W : Nat → Nat) (n : Nat) : Nat → Nat → Int
  | 0, _ => 1
  | r + 1, q => if q = bst W (tkF W n r) n then tkF W n r q + 1 else tkF W n r q
theorem bst_lt {W : Nat → Nat} {T : Nat → Int} : ∀ i, 0 < i → bst W T i < i
  | 0, h => by omega
  | i + 1, _ => by
    simp only [bst]
    split
    · omega
    · split
      · omega
      · have := bst_lt (W := W) (T := T) i (by omega)
        omega
theorem tk_bd {W : Nat → Nat} {n : Nat} (q : Nat) : ∀ r : Nat, 1 ≤ tkF W n r q ∧ tkF W n r q ≤ 1 + (r : Int)
  | 0 => ⟨Int.le_refl _, Int.le_refl _⟩
  | r + 1 => by
    have := tk_bd (W := W) (n := n) q r
    simp only [tkF]
    split <;> omega
/-- The greatest need among the first ones, -1 of none. -/
def mostF (W : Nat → Nat) (T : Nat → Int) (i : Nat) : Nat := if i = 0 then 3212836864 else needF W T (bst W T i)
theorem bst_step {W : Nat → Nat} {T : Nat → Int} {i : Nat} (h : isAm (W 0) = true) (h1 : 1 ≤ T 0 ∧ T 0 ≤ 512) :
    (fgt .f32 (needF W T i) (mostF W T i) = true → bst W T (i + 1) = i ∧ mostF W T (i + 1) = needF W T i) ∧ (fgt .f32 (needF W T i) (mostF W T i) = false → bst W T (i + 1) = bst W T i ∧ mostF W T (i + 1) = mostF W T i) := by
  by_cases h0 : i = 0
  · subst h0
    have e : bst W T (0 + 1) = 0 := rfl
    have hg := div_gt (a := W 0) h h1.1 h1.2
    refine ⟨fun _ => ⟨rfl, rfl⟩, fun hf => ?_⟩
    have : fgt .f32 (needF W T 0) (mostF W T 0) = true := hg
    rw [this] at hf; cases hf
  · have e : bst W T (i + 1) = if fgt .f32 (needF W T i) (needF W T (bst W T i)) = true then i else bst W T i := by
      rw [bst, if_neg h0]
    have em : mostF W T i = needF W T (bst W T i) := if_neg h0
    have em2 : mostF W T (i + 1) = needF W T (bst W T (i + 1)) := if_neg (by omega)
    rw [em, em2, e]
    refine ⟨fun hg => ?_, fun hg => ?_⟩
    · rw [if_pos hg]; exact ⟨rfl, rfl⟩
    · rw [hg]; exact ⟨rfl, rfl⟩
abbrev slR (f : Nat → Nat → Bool) (T : Nat → Int) (q : Nat) : List Value := tab 8 (fun i => .bool (f q i)) ++ ([.int .i64 (T q)] : List Value)
abbrev shW (f : Nat → Nat → Bool) (d : Nat → Nat) (q : Nat) : Nat := wtF (f q) d 8
def shOk (n : Nat) (d : Nat → Nat) (cy b : Int) : Prop := (1 ≤ n ∧ n ≤ 8) ∧ amsK d 8 = true ∧ (0 ≤ b ∧ b ≤ 240) ∧ ((n : Int) * (1 + b) ≤ cy ∧ cy ≤ 240)
def shR (n : Nat) (cy b : Int) : Nat := (cy - (n : Int) * (1 + b)).toNat
theorem sl_tick {f : Nat → Nat → Bool} {W : Nat → Nat} {n r : Nat} : (rows n fun q => if q = bst W (tkF W n r) n then (slR f (tkF W n r) (bst W (tkF W n r) n)).set 8 (.int .i64 (tkF W n r (bst W (tkF W n r) n) + 1)) else slR f (tkF W n r) q) = rows n (slR f (tkF W n (r + 1))) :=
  rows_congr fun q _ => by
    have e : tkF W n (r + 1) q = if q = bst W (tkF W n r) n then tkF W n r q + 1 else tkF W n r q := rfl
    show _ = tab 8 (fun i => .bool (f q i)) ++ ([.int .i64 (tkF W n (r + 1) q)] : List Value)
    rw [e]
    by_cases h : q = bst W (tkF W n r) n
    · rw [if_pos h, if_pos h, ← h]
      show (tab 8 (fun i => Value.bool (f q i)) ++ ([.int .i64 (tkF W n r q)] : List Value)).set 8 _ = _
      rw [List.set_append_right _ _ (by rw [tab_len]; exact Nat.le_refl 8), tab_len]
      rfl
    · rw [if_neg h, if_neg h]
end Go.Proofs.YtddmclkijheicaaDoor
