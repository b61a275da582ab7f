/- What the functions on tables of conflicts give. -/
import Derived.Test.YtepmlgabadegfaaB1
namespace Go.Proofs.Ytepmlgabadegfaa
open Go.RowKit
attribute [local irreducible] AW AOs AO AQ AQW thenA inBlockA postA ACalls Pure
set_option linter.unusedSimpArgs false
set_option linter.unusedVariables false
set_option linter.unusedSectionVars false

/-! ### The first light -/
def lightV (a b : Int) (r : Bool) : Value := .agg [.int .i64 a, .int .i64 b, .bool r].toArray

/-! ### The phase with a number -/
def phaseOfV (n : Int) : Value := if 0 ≤ n ∧ n ≤ 255 then .tuple #[.agg (bools 8 (phP n)).toArray, .int .i64 0] else .tuple #[.agg (bools 8 fun _ => false).toArray, .int .i64 2]
theorem flat_if {c : Prop} [Decidable c] {a b : Value} (ha : Flat a) (hb : Flat b) : Flat (if c then a else b) := by split <;> assumption

theorem phaseOfV_eq (a : Int) : ∃ p e, phaseOfV a = .tuple [.agg (bools 8 p).toArray, .int .i64 e].toArray := by
  unfold phaseOfV; split
  · exact ⟨_, _, rfl⟩
  · exact ⟨_, _, rfl⟩

/-! ### Tables -/
/-- The entry is well: as its mirror, and false on the ridge. -/
def tOk (c : Nat → Bool) (i k : Nat) : Bool := (c (i * 8 + k) == c (k * 8 + i)) && !(decide (i = k) && c (i * 8 + k))
def tabOk (c : Nat → Bool) : Bool := okK (fun i => okK (tOk c i) 8 0) 8 0
def tabOkS (c : Nat → Bool) : Bool := okK (fun i => okK (tOk c i) (i + 1) 0) 8 0

theorem tOk_symm (c : Nat → Bool) (i k : Nat) : tOk c i k = tOk c k i := by
  by_cases e : i = k
  · subst e; rfl
  · unfold tOk
    rw [decide_eq_false e, decide_eq_false (fun h => e h.symm)]
    cases c (i * 8 + k) <;> cases c (k * 8 + i) <;> rfl

theorem tabOk_eq (c : Nat → Bool) : tabOkS c = tabOk c := by
  rw [Bool.eq_iff_iff]
  unfold tabOk tabOkS
  simp only [okK_all]
  refine ⟨fun h i h1 h2 k h3 h4 => ?_, fun h i h1 h2 k h3 h4 => h i h1 h2 k h3 (by omega)⟩
  by_cases e : k ≤ i
  · exact h i h1 h2 k h3 (by omega)
  · rw [tOk_symm]; exact h k (by omega) (by omega) i (by omega) (by omega)

/-! ### Conflicts -/
def scanK (q : Nat → Bool) : Nat → Nat → Option Nat
  | 0, _ => none
  | n + 1, k => if q k then some k else scanK q n (k + 1)
def scanI (q : Nat → Nat → Bool) : Nat → Nat → Option (Nat × Nat)
  | 0, _ => none
  | n + 1, i => match scanK (q i) (7 - i) (i + 1) with
    | some k => some (i, k)
    | none => scanI q n (i + 1)
def clash (p c : Nat → Bool) (i k : Nat) : Bool := p i && p k && c (i * 8 + k)
def confV : Option (Nat × Nat) → Value
  | none => .tuple #[.int .i64 0, .int .i64 0, .bool false]
  | some (i, k) => .tuple #[.int .i64 i, .int .i64 k, .bool true]
theorem flat_confV (x : Option (Nat × Nat)) : Flat (confV x) := by
  unfold confV; split <;> exact (by repeat' (first | exact Flat.bool _ | exact Flat.int _ _ | exact Flat.float _ _ | exact Flat.string _ | exact flat_nil | exact flat_tabL (fun _ => Flat.bool _) | exact flat_tabL (fun _ => Flat.int _ _) | exact flat_tabL (fun _ => Flat.float _ _) | refine flat_tuple ?_ | refine flat_agg ?_ | refine flat_cons ?_ ?_ | refine flat_append ?_ ?_))
theorem confV_eq (x : Option (Nat × Nat)) : ∃ (i k : Nat), confV x = .tuple [.int .i64 i, .int .i64 k, .bool x.isSome].toArray := by
  cases x with
  | none => exact ⟨0, 0, rfl⟩
  | some x => exact ⟨x.1, x.2, rfl⟩

theorem scanK_succ {q : Nat → Bool} {n k : Nat} (h : 0 < n) : scanK q n k = if q k then some k else scanK q (n - 1) (k + 1) := by
  obtain ⟨m, rfl⟩ : ∃ m, n = m + 1 := ⟨n - 1, by omega⟩
  rfl
theorem scanI_succ {q : Nat → Nat → Bool} {n i : Nat} (h : 0 < n) : scanI q n i = match scanK (q i) (7 - i) (i + 1) with
    | some k => some (i, k)
    | none => scanI q (n - 1) (i + 1) := by
  obtain ⟨m, rfl⟩ : ∃ m, n = m + 1 := ⟨n - 1, by omega⟩
  rfl

def isClearV (c p : Nat → Bool) : Value := if tabOk c then .tuple [.bool (!(scanI (clash p c) 8 0).isSome), .int .i64 0].toArray else .tuple [.bool false, .int .i64 1].toArray
theorem isClearV_eq (c p : Nat → Bool) : ∃ b e, isClearV c p = .tuple [.bool b, .int .i64 e].toArray := by
  unfold isClearV; split <;> exact ⟨_, _, rfl⟩
def firstConflictV (c p : Nat → Bool) : Value :=
  if tabOk c then match scanI (clash p c) 8 0 with
    | some (i, k) => .tuple [.int .i64 i, .int .i64 k, .int .i64 0].toArray
    | none => .tuple [.int .i64 0, .int .i64 0, .int .i64 6].toArray
  else .tuple [.int .i64 0, .int .i64 0, .int .i64 1].toArray
theorem firstConflictV_eq (c p : Nat → Bool) : ∃ a b e, firstConflictV c p = .tuple [.int .i64 a, .int .i64 b, .int .i64 e].toArray := by
  unfold firstConflictV; split
  · split <;> exact ⟨_, _, _, rfl⟩
  · exact ⟨_, _, _, rfl⟩
theorem flat_firstConflictV (c p : Nat → Bool) : Flat (firstConflictV c p) := by
  obtain ⟨_, _, _, h⟩ := firstConflictV_eq c p
  rw [h]; exact (by repeat' (first | exact Flat.bool _ | exact Flat.int _ _ | exact Flat.float _ _ | exact Flat.string _ | exact flat_nil | exact flat_tabL (fun _ => Flat.bool _) | exact flat_tabL (fun _ => Flat.int _ _) | exact flat_tabL (fun _ => Flat.float _ _) | refine flat_tuple ?_ | refine flat_agg ?_ | refine flat_cons ?_ ?_ | refine flat_append ?_ ?_))
end Go.Proofs.Ytepmlgabadegfaa
