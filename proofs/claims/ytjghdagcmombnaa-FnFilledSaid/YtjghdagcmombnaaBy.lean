/- Lists of bytes, as arguments. -/
import Derived.Test.YtjghdagcmombnaaArgs
import Derived.Test.YtjghdagcmombnaaDr2

namespace Go.Proofs.Ytjghdagcmombnaa
open Go.RowKit
attribute [local irreducible] AW AOs AO AQ AQW thenA inBlockA postA ACalls Pure
set_option linter.unusedSimpArgs false
set_option linter.unusedVariables false
set_option linter.unusedSectionVars false

theorem byte_wf {a : Int} (h : (Lit.int .u8 a).wf = true) : 0 ≤ a ∧ a ≤ 255 := by
  simp [Lit.wf, IntKind.min, IntKind.max, IntKind.signed, IntKind.bits] at h
  omega
def byteOf (cs : List Value) : Int := match cs[0]? with
  | some (Value.int _ z) => z
  | _ => 0
theorem byte_rows {n : Nat} {F : Nat → List Value} (h : ∀ i, i < n → Leaves [.int .u8] (F i)) :
    ∃ cd : Nat → Int, (∀ q, 0 ≤ cd q ∧ cd q ≤ 255) ∧ rows n (fun i => (F i).map canon) = tab n fun i => .int .u8 (cd i) := by
  refine ⟨fun i => if i < n then byteOf (F i) else 0, fun q => ?_, ?_⟩
  · by_cases hi : q < n
    · obtain ⟨_, _, e, ⟨a, rfl, hw⟩, g0⟩ := (h q hi).cons
      obtain rfl := g0.nil
      have := byte_wf hw
      simp only [hi, if_true, e]
      exact this
    · simp [hi]
  · rw [← rows_tab]
    refine rows_congr fun i hi => ?_
    obtain ⟨_, _, e, ⟨a, rfl, _⟩, g0⟩ := (h i hi).cons
    obtain rfl := g0.nil
    simp only [hi, if_true, e]
    rfl
end Go.Proofs.Ytjghdagcmombnaa
