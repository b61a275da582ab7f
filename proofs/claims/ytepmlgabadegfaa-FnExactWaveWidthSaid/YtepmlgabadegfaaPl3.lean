/- Sound plans, and what is green at a tick. -/
import Derived.Test.YtepmlgabadegfaaPl2
import Derived.Test.YtepmlgabadegfaaB2
import Derived.Test.YtepmlgabadegfaaCd
namespace Go.Proofs.Ytepmlgabadegfaa
open Go.RowKit
attribute [local irreducible] AW AOs AO AQ AQW thenA inBlockA postA ACalls Pure
set_option linter.unusedSimpArgs false
set_option linter.unusedVariables false
set_option linter.unusedSectionVars false

/-! ### Sound plans -/
def soundR (c : Nat → Bool) (G : Nat → Nat → Bool) : Nat → Nat → Value
  | 0, _ => .tuple [.int .i64 (-1), .int .i64 0, .int .i64 0, .int .i64 0].toArray
  | k + 1, i => match scanI (clash (G i) c) 8 0 with
    | some (x, y) => .tuple [.int .i64 i, .int .i64 x, .int .i64 y, .int .i64 8].toArray
    | none => soundR c G k (i + 1)
theorem soundR_eq (c : Nat → Bool) (G : Nat → Nat → Bool) : ∀ k i, ∃ x y z u, soundR c G k i = .tuple [.int .i64 x, .int .i64 y, .int .i64 z, .int .i64 u].toArray
  | 0, _ => ⟨_, _, _, _, rfl⟩
  | k + 1, i => by
    unfold soundR
    split
    · exact ⟨_, _, _, _, rfl⟩
    · exact soundR_eq c G k (i + 1)
def soundV (c : Nat → Bool) (n : Nat) (b o : Int) (G : Nat → Nat → Bool) (T : Nat → Int) : Value := if tabOk c = true ∧ planP n T b o then soundR c G n 0 else .tuple [.int .i64 0, .int .i64 0, .int .i64 0, .int .i64 1].toArray
theorem soundV_eq (c : Nat → Bool) (n : Nat) (b o : Int) (G : Nat → Nat → Bool) (T : Nat → Int) : ∃ x y z u, soundV c n b o G T = .tuple [.int .i64 x, .int .i64 y, .int .i64 z, .int .i64 u].toArray := by
  unfold soundV; split
  · exact soundR_eq c G n 0
  · exact ⟨_, _, _, _, rfl⟩
theorem flat_soundV (c : Nat → Bool) (n : Nat) (b o : Int) (G : Nat → Nat → Bool) (T : Nat → Int) : Flat (soundV c n b o G T) := by
  obtain ⟨x, y, z, u, e⟩ := soundV_eq c n b o G T
  rw [e]; exact (by repeat' (first | exact Flat.bool _ | exact Flat.int _ _ | exact Flat.float _ _ | exact Flat.string _ | exact flat_nil | exact flat_tabL (fun _ => Flat.bool _) | exact flat_tabL (fun _ => Flat.int _ _) | exact flat_tabL (fun _ => Flat.float _ _) | refine flat_tuple ?_ | refine flat_agg ?_ | refine flat_cons ?_ ?_ | refine flat_append ?_ ?_))
end Go.Proofs.Ytepmlgabadegfaa
