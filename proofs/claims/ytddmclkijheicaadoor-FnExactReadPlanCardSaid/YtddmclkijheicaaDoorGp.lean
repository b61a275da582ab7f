/- The greatest phases: lists of numbers and of phases. -/
import Derived.Test.YtddmclkijheicaaDoorB2
import Derived.Test.YtddmclkijheicaaDoorBt
import Derived.Test.YtddmclkijheicaaDoorMu
namespace Go.Proofs.YtddmclkijheicaaDoor
open Go.RowKit
attribute [local irreducible] AW AOs AO AQ AQW thenA inBlockA postA ACalls Pure
set_option linter.unusedSimpArgs false
set_option linter.unusedVariables false
set_option linter.unusedSectionVars false

/-! ### Numbers and their bits -/
abbrev nP (n : Nat) (i : Nat) : Bool := n.testBit i
theorem two_pow_i {i : Nat} (hi : i < 8) : (2 ^ min (i : Int).toNat IntKind.i64.bits : Int) = ((2 ^ i : Nat) : Int) := by
  have : i = 0 ∨ i = 1 ∨ i = 2 ∨ i = 3 ∨ i = 4 ∨ i = 5 ∨ i = 6 ∨ i = 7 := by omega
  rcases this with rfl | rfl | rfl | rfl | rfl | rfl | rfl | rfl <;> rfl
theorem bit_nat {n i : Nat} (hn : n < 256) (hi : i < 8) : bits .and .i64 ((n : Int).fdiv (2 ^ min (i : Int).toNat IntKind.i64.bits)) 1 = ((n / 2 ^ i % 2 : Nat) : Int) := by
  rw [two_pow_i hi, Int.fdiv_eq_ediv_of_nonneg _ (Int.natCast_nonneg _), ← Int.natCast_ediv]
  have h1 : n / 2 ^ i ≤ n := Nat.div_le_self _ _
  have h := and_nat (n / 2 ^ i) 1 (by omega) (by omega)
  rw [Nat.and_one_is_mod] at h
  exact h
theorem bit_one {n i : Nat} (hn : n < 256) (hi : i < 8) (h : nP n i = true) : bits .and .i64 ((n : Int).fdiv (2 ^ min (i : Int).toNat IntKind.i64.bits)) 1 = 1 := by
  rw [bit_nat hn hi]
  rw [nP, Nat.testBit_eq_decide_div_mod_eq, decide_eq_true_eq] at h
  rw [h]; rfl
theorem bit_no {n i : Nat} (hn : n < 256) (hi : i < 8) (h : nP n i = false) : bits .and .i64 ((n : Int).fdiv (2 ^ min (i : Int).toNat IntKind.i64.bits)) 1 = 0 := by
  rw [bit_nat hn hi]
  rw [nP, Nat.testBit_eq_decide_div_mod_eq, decide_eq_false_iff_not] at h
  have : n / 2 ^ i % 2 = 0 := by omega
  rw [this]; rfl
theorem phP_nat {n i : Nat} (hn : n < 256) (hi : i < 8) : phP (n : Int) i = nP n i := by
  unfold phP
  cases h : nP n i
  · rw [bit_no hn hi h]; rfl
  · rw [bit_one hn hi h]; rfl
theorem or_bit {n i : Nat} (hn : n < 256) (hi : i < 8) : bits .or .i64 (n : Int) (IntKind.i64.wrap (1 * 2 ^ min (i : Int).toNat IntKind.i64.bits)) = ((n ||| 2 ^ i : Nat) : Int) := by
  have h3 : 2 ^ i ≤ 2 ^ 7 := Nat.pow_le_pow_right (by omega) (by omega)
  rw [wrap_pow hi, or_nat _ _ (by omega) (by omega)]
theorem or_lt {n i : Nat} (hn : n < 256) (hi : i < 8) : n ||| 2 ^ i < 256 := by
  have h3 : 2 ^ i ≤ 2 ^ 7 := Nat.pow_le_pow_right (by omega) (by omega)
  exact Nat.or_lt_two_pow (n := 8) hn (by omega)
theorem nP_or {n i j : Nat} : nP (n ||| 2 ^ i) j = if j = i then true else nP n j := by
  rw [nP, Nat.testBit_or, Nat.testBit_two_pow]
  by_cases h : j = i
  · subst h; simp
  · rw [if_neg h, decide_eq_false (fun e => h e.symm), Bool.or_false]
theorem iphaseOfN {n : Nat} (hn : n < 256) (M : Mem) : Pure Tryd.prog 15 [.int .i64 (n : Int)] M (.agg (tab 8 fun i => .bool (nP n i)).toArray) := by
  have h := iphaseOf (n : Int) M
  unfold bools at h
  rwa [tab_congr (fun i hi => by rw [phP_nat hn hi])] at h
theorem sl04PhaseN {n : Nat} (hn : n < 256) (M : Mem) : Pure Tryd.prog 11 [.int .i64 (n : Int)] M (.agg (tab 8 fun i => .bool (nP n i)).toArray) := by
  have h := sl04Phase (n : Int) M
  unfold bools at h
  rwa [tab_congr (fun i hi => by rw [phP_nat hn hi])] at h

/-! ### Clear and greatest -/
/-- The phase has a conflict. -/
def clr (c p : Nat → Bool) : Bool := (scanI (clash p c) 8 0).isSome
/-- The number is one of a clear phase to which no movement can be added. -/
def gr (c : Nat → Bool) (n : Nat) : Bool := !clr c (nP n) && okK (fun i => nP n i || clr c (nP (n ||| 2 ^ i))) 8 0
def gL (c : Nat → Bool) (n : Nat) : List Nat := (List.range n).filter (gr c)
theorem gL_yes {c : Nat → Bool} {n : Nat} (h : gr c n = true) : gL c (n + 1) = gL c n ++ [n] := by
  unfold gL; rw [List.range_succ, List.filter_append]; simp [h]
theorem gL_no {c : Nat → Bool} {n : Nat} (h : gr c n = false) : gL c (n + 1) = gL c n := by
  unfold gL; rw [List.range_succ, List.filter_append]; simp [h]
theorem gL_len (c : Nat → Bool) (n : Nat) : (gL c n).length ≤ n := by
  have h := List.length_filter_le (gr c) (List.range n)
  rw [List.length_range] at h; exact h
theorem gL_lt {c : Nat → Bool} {n q : Nat} (hq : q < (gL c n).length) : (gL c n).getD q 0 < n := by
  have h : (gL c n).getD q 0 ∈ gL c n := by
    rw [List.getD_eq_getElem?_getD, List.getElem?_eq_getElem hq]; exact List.getElem_mem hq
  exact List.mem_range.1 (List.mem_filter.1 h).1

end Go.Proofs.YtddmclkijheicaaDoor
