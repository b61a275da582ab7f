/- Roads: flows, steps. -/
import Derived.Test.YtgdpcomemkimhaaGreatDoorSh
import Derived.Test.YtgdpcomemkimhaaGreatDoorOpW

namespace Go.Proofs.YtgdpcomemkimhaaGreatDoor
open Go.RowKit
attribute [local irreducible] AW AOs AO AQ AQW thenA inBlockA postA ACalls Pure
set_option linter.unusedSimpArgs false
set_option linter.unusedVariables false
set_option linter.unusedSectionVars false

theorem st_stepB (f c : Nat → Nat) (i p b l v : Nat) (hv : f i = v) : (⟨tab 16 (fun q => if q = i then Value.float .f32 v else (fun q => .float .f32 (if q < i then f q else c q)) q) ++ ([.float .f32 p, .float .f32 b, .float .f32 l] : List Value), none, true⟩ : Blk) = rdB (fun q => if q < i + 1 then f q else c q) p b l := by
  unfold rdB rdC
  rw [tab_congr fun q _ => by
    show (if q = i then Value.float .f32 v else .float .f32 (if q < i then f q else c q)) = .float .f32 (if q < i + 1 then f q else c q)
    by_cases h : q = i
    · subst h; rw [if_pos rfl, if_pos (by omega), hv]
    · rw [if_neg h]
      by_cases h2 : q < i
      · rw [if_pos h2, if_pos (by omega)]
      · rw [if_neg h2, if_neg (by omega)]]
theorem st_allB (f c : Nat → Nat) (p b l : Nat) : rdB (fun q => if q < 16 then f q else c q) p b l = rdB f p b l := by
  unfold rdB rdC
  rw [tab_congr (f := fun q => Value.float .f32 (if q < 16 then f q else c q)) (g := fun q => .float .f32 (f q)) fun q hq => by rw [if_pos hq]]
section
variable {c : Nat → Nat} {p b l : Nat}
variable (hr : RdOk c p b l)
include hr
end
end Go.Proofs.YtgdpcomemkimhaaGreatDoor
