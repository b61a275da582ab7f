/- Valid plans, their cycles, lights. -/
import Derived.Test.YtpffdjleonkdoaaPl
namespace Go.Proofs.Ytpffdjleonkdoaa
open Go.RowKit
attribute [local irreducible] AW AOs AO AQ AQW thenA inBlockA postA ACalls Pure
set_option linter.unusedSimpArgs false
set_option linter.unusedVariables false
set_option linter.unusedSectionVars false

/-! ### The program's way -/
def idxK (p : Nat → Bool) : Nat → Nat → Int
  | 0, _ => -1
  | k + 1, i => if p i then (i : Int) else idxK p k (i + 1)
theorem idxK_pos {p : Nat → Bool} : ∀ (k i : Nat), (0 ≤ idxK p k i ↔ ∃ q, i ≤ q ∧ q < i + k ∧ p q = true)
  | 0, i => by simp [idxK]; intro q _ _; omega
  | k + 1, i => by
    simp only [idxK]
    by_cases h : p i = true
    · rw [if_pos h]; exact ⟨fun _ => ⟨i, by omega, by omega, h⟩, fun _ => by omega⟩
    · rw [if_neg h, idxK_pos k (i + 1)]
      constructor
      · rintro ⟨q, h1, h2, h3⟩; exact ⟨q, by omega, by omega, h3⟩
      · rintro ⟨q, h1, h2, h3⟩
        have : q ≠ i := fun e => h (by rw [← e]; exact h3)
        exact ⟨q, by omega, by omega, h3⟩
theorem idx_ok {n : Nat} {T : Nat → Int} : 0 ≤ idxK (fun q => !decide (1 ≤ T q ∧ T q ≤ 240)) n 0 ↔ ¬ slotsOkP n T := by
  rw [idxK_pos]
  unfold slotsOkP
  constructor
  · rintro ⟨q, _, h2, h3⟩ h
    have := h q (by omega)
    simp [this] at h3
  · intro h
    refine Classical.byContradiction fun hn => h fun q hq => ?_
    refine Classical.byContradiction fun hq2 => hn ⟨q, by omega, by omega, ?_⟩
    simp only [decide_eq_false hq2, Bool.not_false]

/-! ### The laws of valid plans and of their cycles -/
def cycV (n : Nat) (T : Nat → Int) (b o : Int) : Value := if planP n T b o then .tuple [.int .i64 (sumP T b n), .int .i64 0].toArray else .tuple [.int .i64 0, .int .i64 1].toArray
theorem cycV_eq (n : Nat) (T : Nat → Int) (b o : Int) : ∃ x y, cycV n T b o = .tuple [.int .i64 x, .int .i64 y].toArray := by unfold cycV; split <;> exact ⟨_, _, rfl⟩
theorem flat_ite2 {c : Prop} [Decidable c] {x y : Value} (hx : Flat x) (hy : Flat y) : Flat (if c then x else y) := by split <;> assumption
theorem slot_rows {n : Nat} {F : Nat → List Value} (h : ∀ i, i < n → Leaves (List.replicate 8 (.bool : Leaf) ++ ([.int .i64] : List Leaf)) (F i)) :
    ∃ (G : Nat → Nat → Bool) (T : Nat → Int), ∀ i, i < n → (F i).map canon = tab 8 (fun q => .bool (G i q)) ++ ([.int .i64 (T i)] : List Value) := by
  have key : ∀ i, ∃ (g : Nat → Bool) (t : Int), i < n → (F i).map canon = tab 8 (fun q => .bool (g q)) ++ ([.int .i64 t] : List Value) := fun i => by
    by_cases hi : i < n
    · obtain ⟨c1, c2, e, h1, h2⟩ := (h i hi).split
      obtain ⟨g, rfl⟩ := leaf_bools h1
      obtain ⟨_, _, rfl, ⟨t, rfl, _⟩, h3⟩ := h2.cons
      obtain rfl := h3.nil
      exact ⟨g, t, fun _ => by rw [e, List.map_append, tab_map]; rfl⟩
    · exact ⟨fun _ => false, 0, fun h => absurd h hi⟩
  exact ⟨fun i => Classical.choose (key i), fun i => Classical.choose (Classical.choose_spec (key i)), fun i hi => Classical.choose_spec (Classical.choose_spec (key i)) hi⟩
theorem two_ints {c : List Value} (h : Leaves [.int .i64, .int .i64] c) : ∃ b o : Int, c = [.int .i64 b, .int .i64 o] := by
  obtain ⟨_, _, rfl, ⟨b, rfl, _⟩, g1⟩ := h.cons
  obtain ⟨_, _, rfl, ⟨o, rfl, _⟩, g2⟩ := g1.cons
  obtain rfl := g2.nil
  exact ⟨b, o, rfl⟩
end Go.Proofs.Ytpffdjleonkdoaa
