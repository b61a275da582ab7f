/- Marks on lists of phases. -/
import Derived.Test.YtddmclkijheicaaDoorMu
import Derived.Test.YtddmclkijheicaaDoorB1
namespace Go.Proofs.YtddmclkijheicaaDoor
open Go.RowKit
attribute [local irreducible] AW AOs AO AQ AQW thenA inBlockA postA ACalls Pure
set_option linter.unusedSimpArgs false
set_option linter.unusedVariables false
set_option linter.unusedSectionVars false

abbrev mkP (k : Int) (i : Nat) : Bool := decide ((k + i) % 3 = 0)
abbrev mkRows (n : Nat) (k : Int) : List Value := rows n fun q => tab 8 fun r => .bool (mkP k (q * 8 + r))
theorem flat_mkRows {n : Nat} {k : Int} : ∀ c ∈ mkRows n k, Flat c := flat_rows fun i => (by repeat' (first | exact Flat.bool _ | exact Flat.int _ _ | exact Flat.float _ _ | exact Flat.string _ | exact flat_nil | exact flat_tabL (fun _ => Flat.bool _) | exact flat_tabL (fun _ => Flat.int _ _) | exact flat_tabL (fun _ => Flat.float _ _) | refine flat_tuple ?_ | refine flat_agg ?_ | refine flat_cons ?_ ?_ | refine flat_append ?_ ?_))
/-- The first c cells are marked. -/
def mixC (f : Nat → Nat → Bool) (k : Int) (c q : Nat) : List Value := tab 8 fun r => .bool (if q * 8 + r < c then mkP k (q * 8 + r) else f q r)
theorem mixC_0 (n : Nat) (f : Nat → Nat → Bool) (k : Int) : rows n (mixC f k 0) = rows n fun q => tab 8 fun r => .bool (f q r) :=
  rows_congr fun q _ => tab_congr fun r _ => by rw [if_neg (by omega)]
theorem mixC_all (n : Nat) (f : Nat → Nat → Bool) (k : Int) : rows n (mixC f k (n * 8)) = mkRows n k :=
  rows_congr fun q hq => tab_congr fun r hr => by rw [if_pos (by omega)]
theorem mixC_step (n : Nat) (f : Nat → Nat → Bool) (k : Int) (i j : Nat) (hj : j < 8) : (rows n fun q => if q = i then (mixC f k (i * 8 + j) i).set j (.bool (mkP k (i * 8 + j))) else mixC f k (i * 8 + j) q) = rows n (mixC f k (i * 8 + (j + 1))) :=
  rows_congr fun q hq => by
    by_cases e : q = i
    · subst e
      rw [if_pos rfl]
      apply List.ext_getElem?
      intro x
      rw [List.getElem?_set]
      unfold mixC
      rw [tab_len]
      by_cases hx : x < 8
      · rw [tab_get hx, tab_get hx]
        by_cases ex : j = x
        · subst ex; rw [if_pos rfl, if_pos hj, if_pos (by omega)]
        · rw [if_neg ex]
          by_cases hl : x < j
          · rw [if_pos (by omega), if_pos (by omega)]
          · rw [if_neg (by omega), if_neg (by omega)]
      · rw [if_neg (by omega)]
        rw [List.getElem?_eq_none (by rw [tab_len]; omega), List.getElem?_eq_none (by rw [tab_len]; omega)]
    · rw [if_neg e]
      refine tab_congr fun r hr => ?_
      by_cases h : q < i
      · rw [if_pos (by omega), if_pos (by omega)]
      · rw [if_neg (by omega), if_neg (by omega)]
end Go.Proofs.YtddmclkijheicaaDoor
