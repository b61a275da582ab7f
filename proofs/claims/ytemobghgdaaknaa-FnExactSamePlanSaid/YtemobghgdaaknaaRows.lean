/-
  No cell of these rows narrows 'for every input' (looked for: loops, veiled, ifaces, maps, wideKeys, modest, calm, conditions, laid).
  DERIVED. THE GIVEN ROWS OF THIS SEAT. 12 by the template 'for every input the law returns true; each argument reads behind the call as it read before'; 0 by the template 'total and deterministic' (their statements: YtemobghgdaaknaaTotals.lean).
  GIVEN WITH THE SEED: the statements are not yours to turn. If you find one false, say at which input.
  Laid BY PROGRAM, IN A SANDBOX (cutbox-rows.mjs): the forced cells as the released guide's own fill.sh prints them over the translation 341d693c8bee025c… (all of the seat's roots in one cut). By AI agents, Wed Nov 11 2026. No macro, syntax, notation, axiom, sorry.
-/
import Derived.Test.YtemobghgdaaknaaChecked
import GoSem.Claim
import GoSem.ClaimJoined
import GoSem.ClaimMapViews
import Derived.JoinedTies
import Derived.KernelRfl
namespace Go.Proofs.Ytemobghgdaaknaa
/- THE CELL 'sum', in the pinned program and in every row, IS THE sha256 OF THE DUMP (.gsa) THAT YtemobghgdaaknaaProg.lean LOADS. Nothing in Lean hashes anything: it is a label: what it is worth is what the hold of that sum in a sandbox is worth. -/
noncomputable def Try.pinned : Pinned := { name := "ytemobghgdaaknaa", sum := "341d693c8bee025c9094ee940a368c9d682ac4f5f7016628130037836b01906d", checked := Try.checked }
namespace Rows
def none {H : Type} : Left H := { results := [], args := [] }

/-- 'laws.FnExactSumOfTallies': WHATEVER THE INPUT: true; the input reads as it did. -/
def fnExactSumOfTalliesSpec : ChangeSpec := { name := "fnExactSumOfTallies", fn := fun _ => fun
  | [d] => { results := [.lit (.bool true)], args := [d] }
  | _ => none }
def fnExactSumOfTalliesRow : OpenClaim := { program := "ytemobghgdaaknaa", sum := "341d693c8bee025c9094ee940a368c9d682ac4f5f7016628130037836b01906d", func := "loop.example/g01227/laws.FnExactSumOfTallies", spec := "fnExactSumOfTallies", apart := false }
def FnExactSumOfTalliesSaid : Prop := fnExactSumOfTalliesRow.holds Try.pinned (OpenSpec.ofChange fnExactSumOfTalliesSpec)

/-- ITS FALSE NEIGHBOUR: 'it returns false'. Refute it at one input. -/
def fnExactSumOfTalliesWrong : ChangeSpec := { name := "fnExactSumOfTallies", fn := fun _ => fun
  | [d] => { results := [.lit (.bool false)], args := [d] }
  | _ => none }
def FnExactSumOfTalliesWrongFalsely : Prop := fnExactSumOfTalliesRow.holds Try.pinned (OpenSpec.ofChange fnExactSumOfTalliesWrong)

/-- 'laws.FnExactCallsOf': WHATEVER THE INPUT: true; the input reads as it did. -/
def fnExactCallsOfSpec : ChangeSpec := { name := "fnExactCallsOf", fn := fun _ => fun
  | [d1, d2] => { results := [.lit (.bool true)], args := [d1, d2] }
  | _ => none }
def fnExactCallsOfRow : OpenClaim := { program := "ytemobghgdaaknaa", sum := "341d693c8bee025c9094ee940a368c9d682ac4f5f7016628130037836b01906d", func := "loop.example/g01227/laws.FnExactCallsOf", spec := "fnExactCallsOf", apart := false }
def FnExactCallsOfSaid : Prop := fnExactCallsOfRow.holds Try.pinned (OpenSpec.ofChange fnExactCallsOfSpec)

/-- ITS FALSE NEIGHBOUR: 'it returns false'. Refute it at one input. -/
def fnExactCallsOfWrong : ChangeSpec := { name := "fnExactCallsOf", fn := fun _ => fun
  | [d1, d2] => { results := [.lit (.bool false)], args := [d1, d2] }
  | _ => none }
def FnExactCallsOfWrongFalsely : Prop := fnExactCallsOfRow.holds Try.pinned (OpenSpec.ofChange fnExactCallsOfWrong)

/-- 'laws.FnExactBusiestTurn': WHATEVER THE INPUT: true; the input reads as it did. -/
def fnExactBusiestTurnSpec : ChangeSpec := { name := "fnExactBusiestTurn", fn := fun _ => fun
  | [d] => { results := [.lit (.bool true)], args := [d] }
  | _ => none }
def fnExactBusiestTurnRow : OpenClaim := { program := "ytemobghgdaaknaa", sum := "341d693c8bee025c9094ee940a368c9d682ac4f5f7016628130037836b01906d", func := "loop.example/g01227/laws.FnExactBusiestTurn", spec := "fnExactBusiestTurn", apart := false }
def FnExactBusiestTurnSaid : Prop := fnExactBusiestTurnRow.holds Try.pinned (OpenSpec.ofChange fnExactBusiestTurnSpec)

/-- ITS FALSE NEIGHBOUR: 'it returns false'. Refute it at one input. -/
def fnExactBusiestTurnWrong : ChangeSpec := { name := "fnExactBusiestTurn", fn := fun _ => fun
  | [d] => { results := [.lit (.bool false)], args := [d] }
  | _ => none }
def FnExactBusiestTurnWrongFalsely : Prop := fnExactBusiestTurnRow.holds Try.pinned (OpenSpec.ofChange fnExactBusiestTurnWrong)

/-- 'laws.FnExactMeanFull': WHATEVER THE INPUT: true; the input reads as it did. -/
def fnExactMeanFullSpec : ChangeSpec := { name := "fnExactMeanFull", fn := fun _ => fun
  | [d] => { results := [.lit (.bool true)], args := [d] }
  | _ => none }
def fnExactMeanFullRow : OpenClaim := { program := "ytemobghgdaaknaa", sum := "341d693c8bee025c9094ee940a368c9d682ac4f5f7016628130037836b01906d", func := "loop.example/g01227/laws.FnExactMeanFull", spec := "fnExactMeanFull", apart := false }
def FnExactMeanFullSaid : Prop := fnExactMeanFullRow.holds Try.pinned (OpenSpec.ofChange fnExactMeanFullSpec)

/-- ITS FALSE NEIGHBOUR: 'it returns false'. Refute it at one input. -/
def fnExactMeanFullWrong : ChangeSpec := { name := "fnExactMeanFull", fn := fun _ => fun
  | [d] => { results := [.lit (.bool false)], args := [d] }
  | _ => none }
def FnExactMeanFullWrongFalsely : Prop := fnExactMeanFullRow.holds Try.pinned (OpenSpec.ofChange fnExactMeanFullWrong)

/-- 'laws.FnExactFirstStuck': WHATEVER THE INPUT: true; the input reads as it did. -/
def fnExactFirstStuckSpec : ChangeSpec := { name := "fnExactFirstStuck", fn := fun _ => fun
  | [d1, d2] => { results := [.lit (.bool true)], args := [d1, d2] }
  | _ => none }
def fnExactFirstStuckRow : OpenClaim := { program := "ytemobghgdaaknaa", sum := "341d693c8bee025c9094ee940a368c9d682ac4f5f7016628130037836b01906d", func := "loop.example/g01227/laws.FnExactFirstStuck", spec := "fnExactFirstStuck", apart := false }
def FnExactFirstStuckSaid : Prop := fnExactFirstStuckRow.holds Try.pinned (OpenSpec.ofChange fnExactFirstStuckSpec)

/-- ITS FALSE NEIGHBOUR: 'it returns false'. Refute it at one input. -/
def fnExactFirstStuckWrong : ChangeSpec := { name := "fnExactFirstStuck", fn := fun _ => fun
  | [d1, d2] => { results := [.lit (.bool false)], args := [d1, d2] }
  | _ => none }
def FnExactFirstStuckWrongFalsely : Prop := fnExactFirstStuckRow.holds Try.pinned (OpenSpec.ofChange fnExactFirstStuckWrong)

/-- 'laws.FnExactWithoutWrong': WHATEVER THE INPUT: true; the input reads as it did. -/
def fnExactWithoutWrongSpec : ChangeSpec := { name := "fnExactWithoutWrong", fn := fun _ => fun
  | [d1, d2] => { results := [.lit (.bool true)], args := [d1, d2] }
  | _ => none }
def fnExactWithoutWrongRow : OpenClaim := { program := "ytemobghgdaaknaa", sum := "341d693c8bee025c9094ee940a368c9d682ac4f5f7016628130037836b01906d", func := "loop.example/g01227/laws.FnExactWithoutWrong", spec := "fnExactWithoutWrong", unfollowed := true, recurses := true, apart := false }
def FnExactWithoutWrongSaid : Prop := fnExactWithoutWrongRow.holds Try.pinned (OpenSpec.ofChange fnExactWithoutWrongSpec)

/-- ITS FALSE NEIGHBOUR: 'it returns false'. Refute it at one input. -/
def fnExactWithoutWrongWrong : ChangeSpec := { name := "fnExactWithoutWrong", fn := fun _ => fun
  | [d1, d2] => { results := [.lit (.bool false)], args := [d1, d2] }
  | _ => none }
def FnExactWithoutWrongWrongFalsely : Prop := fnExactWithoutWrongRow.holds Try.pinned (OpenSpec.ofChange fnExactWithoutWrongWrong)

/-- 'laws.FnExactCrossTable': WHATEVER THE INPUT: true; the input reads as it did. -/
def fnExactCrossTableSpec : ChangeSpec := { name := "fnExactCrossTable", fn := fun _ => fun
  | [d1, d2, d3] => { results := [.lit (.bool true)], args := [d1, d2, d3] }
  | _ => none }
def fnExactCrossTableRow : OpenClaim := { program := "ytemobghgdaaknaa", sum := "341d693c8bee025c9094ee940a368c9d682ac4f5f7016628130037836b01906d", func := "loop.example/g01227/laws.FnExactCrossTable", spec := "fnExactCrossTable", unfollowed := true, recurses := true, apart := false }
def FnExactCrossTableSaid : Prop := fnExactCrossTableRow.holds Try.pinned (OpenSpec.ofChange fnExactCrossTableSpec)

/-- ITS FALSE NEIGHBOUR: 'it returns false'. Refute it at one input. -/
def fnExactCrossTableWrong : ChangeSpec := { name := "fnExactCrossTable", fn := fun _ => fun
  | [d1, d2, d3] => { results := [.lit (.bool false)], args := [d1, d2, d3] }
  | _ => none }
def FnExactCrossTableWrongFalsely : Prop := fnExactCrossTableRow.holds Try.pinned (OpenSpec.ofChange fnExactCrossTableWrong)

/-- 'laws.FnExactSamePlan': WHATEVER THE INPUT: true; the input reads as it did. -/
def fnExactSamePlanSpec : ChangeSpec := { name := "fnExactSamePlan", fn := fun _ => fun
  | [d1, d2] => { results := [.lit (.bool true)], args := [d1, d2] }
  | _ => none }
def fnExactSamePlanRow : OpenClaim := { program := "ytemobghgdaaknaa", sum := "341d693c8bee025c9094ee940a368c9d682ac4f5f7016628130037836b01906d", func := "loop.example/g01227/laws.FnExactSamePlan", spec := "fnExactSamePlan", apart := false }
def FnExactSamePlanSaid : Prop := fnExactSamePlanRow.holds Try.pinned (OpenSpec.ofChange fnExactSamePlanSpec)

/-- ITS FALSE NEIGHBOUR: 'it returns false'. Refute it at one input. -/
def fnExactSamePlanWrong : ChangeSpec := { name := "fnExactSamePlan", fn := fun _ => fun
  | [d1, d2] => { results := [.lit (.bool false)], args := [d1, d2] }
  | _ => none }
def FnExactSamePlanWrongFalsely : Prop := fnExactSamePlanRow.holds Try.pinned (OpenSpec.ofChange fnExactSamePlanWrong)

/-- 'laws.FnExactValidPlan': WHATEVER THE INPUT: true; the input reads as it did. -/
def fnExactValidPlanSpec : ChangeSpec := { name := "fnExactValidPlan", fn := fun _ => fun
  | [d] => { results := [.lit (.bool true)], args := [d] }
  | _ => none }
def fnExactValidPlanRow : OpenClaim := { program := "ytemobghgdaaknaa", sum := "341d693c8bee025c9094ee940a368c9d682ac4f5f7016628130037836b01906d", func := "loop.example/g01227/laws.FnExactValidPlan", spec := "fnExactValidPlan", unfollowed := true, recurses := true, apart := false }
def FnExactValidPlanSaid : Prop := fnExactValidPlanRow.holds Try.pinned (OpenSpec.ofChange fnExactValidPlanSpec)

/-- ITS FALSE NEIGHBOUR: 'it returns false'. Refute it at one input. -/
def fnExactValidPlanWrong : ChangeSpec := { name := "fnExactValidPlan", fn := fun _ => fun
  | [d] => { results := [.lit (.bool false)], args := [d] }
  | _ => none }
def FnExactValidPlanWrongFalsely : Prop := fnExactValidPlanRow.holds Try.pinned (OpenSpec.ofChange fnExactValidPlanWrong)

/-- 'laws.FnExactCycleOf': WHATEVER THE INPUT: true; the input reads as it did. -/
def fnExactCycleOfSpec : ChangeSpec := { name := "fnExactCycleOf", fn := fun _ => fun
  | [d] => { results := [.lit (.bool true)], args := [d] }
  | _ => none }
def fnExactCycleOfRow : OpenClaim := { program := "ytemobghgdaaknaa", sum := "341d693c8bee025c9094ee940a368c9d682ac4f5f7016628130037836b01906d", func := "loop.example/g01227/laws.FnExactCycleOf", spec := "fnExactCycleOf", unfollowed := true, recurses := true, apart := false }
def FnExactCycleOfSaid : Prop := fnExactCycleOfRow.holds Try.pinned (OpenSpec.ofChange fnExactCycleOfSpec)

/-- ITS FALSE NEIGHBOUR: 'it returns false'. Refute it at one input. -/
def fnExactCycleOfWrong : ChangeSpec := { name := "fnExactCycleOf", fn := fun _ => fun
  | [d] => { results := [.lit (.bool false)], args := [d] }
  | _ => none }
def FnExactCycleOfWrongFalsely : Prop := fnExactCycleOfRow.holds Try.pinned (OpenSpec.ofChange fnExactCycleOfWrong)

/-- 'laws.FnExactLightPhase': WHATEVER THE INPUT: true; the input reads as it did. -/
def fnExactLightPhaseSpec : ChangeSpec := { name := "fnExactLightPhase", fn := fun _ => fun
  | [d1, d2] => { results := [.lit (.bool true)], args := [d1, d2] }
  | _ => none }
def fnExactLightPhaseRow : OpenClaim := { program := "ytemobghgdaaknaa", sum := "341d693c8bee025c9094ee940a368c9d682ac4f5f7016628130037836b01906d", func := "loop.example/g01227/laws.FnExactLightPhase", spec := "fnExactLightPhase", unfollowed := true, recurses := true, apart := false }
def FnExactLightPhaseSaid : Prop := fnExactLightPhaseRow.holds Try.pinned (OpenSpec.ofChange fnExactLightPhaseSpec)

/-- ITS FALSE NEIGHBOUR: 'it returns false'. Refute it at one input. -/
def fnExactLightPhaseWrong : ChangeSpec := { name := "fnExactLightPhase", fn := fun _ => fun
  | [d1, d2] => { results := [.lit (.bool false)], args := [d1, d2] }
  | _ => none }
def FnExactLightPhaseWrongFalsely : Prop := fnExactLightPhaseRow.holds Try.pinned (OpenSpec.ofChange fnExactLightPhaseWrong)

/-- 'laws.FnExactGreatestPhases': WHATEVER THE INPUT: true; the input reads as it did. -/
def fnExactGreatestPhasesSpec : ChangeSpec := { name := "fnExactGreatestPhases", fn := fun _ => fun
  | [d] => { results := [.lit (.bool true)], args := [d] }
  | _ => none }
def fnExactGreatestPhasesRow : OpenClaim := { program := "ytemobghgdaaknaa", sum := "341d693c8bee025c9094ee940a368c9d682ac4f5f7016628130037836b01906d", func := "loop.example/g01227/laws.FnExactGreatestPhases", spec := "fnExactGreatestPhases", apart := false }
def FnExactGreatestPhasesSaid : Prop := fnExactGreatestPhasesRow.holds Try.pinned (OpenSpec.ofChange fnExactGreatestPhasesSpec)

/-- ITS FALSE NEIGHBOUR: 'it returns false'. Refute it at one input. -/
def fnExactGreatestPhasesWrong : ChangeSpec := { name := "fnExactGreatestPhases", fn := fun _ => fun
  | [d] => { results := [.lit (.bool false)], args := [d] }
  | _ => none }
def FnExactGreatestPhasesWrongFalsely : Prop := fnExactGreatestPhasesRow.holds Try.pinned (OpenSpec.ofChange fnExactGreatestPhasesWrong)

/- THE SECOND FORM. 'bulk': how many values and letters a reading holds, each counted each time it is reached (what is shared counts as often as it is met; a slice's spare places count too). A statement '..UptoSaid' is the law's where the arguments, and the package variables that the reading takes, are together of bulk at most 1048576: NARROWER than '..Said'. Prove '..Said' where nothing that the law and all that it calls make is longer than what came in: it says more and counts as full. Else prove '..UptoSaid'. A law counts once. -/
mutual
def uptoBulk {H : Type} : DataW H → Nat
  | .lit (.string bytes) => bytes.length + 1
  | .lit _ => 1
  | .nil => 1
  | .ptr d => uptoBulk d + 1
  | .slice elems spare => uptoBulkAll elems + uptoBulkAll spare + 1
  | .agg parts => uptoBulkAll parts + 1
  | .iface _ d => uptoBulk d + 1
  | .map entries => uptoBulkEntries entries + 1
  | .held _ => 1
def uptoBulkAll {H : Type} : List (DataW H) → Nat
  | [] => 0
  | d :: r => uptoBulk d + uptoBulkAll r
def uptoBulkEntries {H : Type} : List (Lit × DataW H) → Nat
  | [] => 0
  | x :: r => uptoBulkEntry x + uptoBulkEntries r
def uptoBulkEntry {H : Type} : Lit × DataW H → Nat
  | (.string bytes, d) => bytes.length + uptoBulk d + 1
  | (_, d) => uptoBulk d + 1
 end
def uptoSmall : (H : Type) → List (DataW H) → Bool := fun _ ds => decide (uptoBulkAll ds ≤ 1048576)
def OpenSpec.upto (s : _root_.Go.ChangeSpec) : _root_.Go.OpenSpec := { _root_.Go.OpenSpec.ofChange s with cond := some uptoSmall }

/-- 'laws.FnExactSumOfTallies', WHERE WHAT IT READS IS OF BULK AT MOST 1048576: true; the input reads as it did. -/
def fnExactSumOfTalliesUptoRow : OpenClaim := { program := "ytemobghgdaaknaa", sum := "341d693c8bee025c9094ee940a368c9d682ac4f5f7016628130037836b01906d", func := "loop.example/g01227/laws.FnExactSumOfTallies", spec := "fnExactSumOfTallies", apart := false, narrowed := true }
def FnExactSumOfTalliesUptoSaid : Prop := fnExactSumOfTalliesUptoRow.holds Try.pinned (OpenSpec.upto fnExactSumOfTalliesSpec)

/-- 'laws.FnExactCallsOf', WHERE WHAT IT READS IS OF BULK AT MOST 1048576: true; the input reads as it did. -/
def fnExactCallsOfUptoRow : OpenClaim := { program := "ytemobghgdaaknaa", sum := "341d693c8bee025c9094ee940a368c9d682ac4f5f7016628130037836b01906d", func := "loop.example/g01227/laws.FnExactCallsOf", spec := "fnExactCallsOf", apart := false, narrowed := true }
def FnExactCallsOfUptoSaid : Prop := fnExactCallsOfUptoRow.holds Try.pinned (OpenSpec.upto fnExactCallsOfSpec)

/-- 'laws.FnExactBusiestTurn', WHERE WHAT IT READS IS OF BULK AT MOST 1048576: true; the input reads as it did. -/
def fnExactBusiestTurnUptoRow : OpenClaim := { program := "ytemobghgdaaknaa", sum := "341d693c8bee025c9094ee940a368c9d682ac4f5f7016628130037836b01906d", func := "loop.example/g01227/laws.FnExactBusiestTurn", spec := "fnExactBusiestTurn", apart := false, narrowed := true }
def FnExactBusiestTurnUptoSaid : Prop := fnExactBusiestTurnUptoRow.holds Try.pinned (OpenSpec.upto fnExactBusiestTurnSpec)

/-- 'laws.FnExactMeanFull', WHERE WHAT IT READS IS OF BULK AT MOST 1048576: true; the input reads as it did. -/
def fnExactMeanFullUptoRow : OpenClaim := { program := "ytemobghgdaaknaa", sum := "341d693c8bee025c9094ee940a368c9d682ac4f5f7016628130037836b01906d", func := "loop.example/g01227/laws.FnExactMeanFull", spec := "fnExactMeanFull", apart := false, narrowed := true }
def FnExactMeanFullUptoSaid : Prop := fnExactMeanFullUptoRow.holds Try.pinned (OpenSpec.upto fnExactMeanFullSpec)

/-- 'laws.FnExactFirstStuck', WHERE WHAT IT READS IS OF BULK AT MOST 1048576: true; the input reads as it did. -/
def fnExactFirstStuckUptoRow : OpenClaim := { program := "ytemobghgdaaknaa", sum := "341d693c8bee025c9094ee940a368c9d682ac4f5f7016628130037836b01906d", func := "loop.example/g01227/laws.FnExactFirstStuck", spec := "fnExactFirstStuck", apart := false, narrowed := true }
def FnExactFirstStuckUptoSaid : Prop := fnExactFirstStuckUptoRow.holds Try.pinned (OpenSpec.upto fnExactFirstStuckSpec)

/-- 'laws.FnExactWithoutWrong', WHERE WHAT IT READS IS OF BULK AT MOST 1048576: true; the input reads as it did. -/
def fnExactWithoutWrongUptoRow : OpenClaim := { program := "ytemobghgdaaknaa", sum := "341d693c8bee025c9094ee940a368c9d682ac4f5f7016628130037836b01906d", func := "loop.example/g01227/laws.FnExactWithoutWrong", spec := "fnExactWithoutWrong", unfollowed := true, recurses := true, apart := false, narrowed := true }
def FnExactWithoutWrongUptoSaid : Prop := fnExactWithoutWrongUptoRow.holds Try.pinned (OpenSpec.upto fnExactWithoutWrongSpec)

/-- 'laws.FnExactCrossTable', WHERE WHAT IT READS IS OF BULK AT MOST 1048576: true; the input reads as it did. -/
def fnExactCrossTableUptoRow : OpenClaim := { program := "ytemobghgdaaknaa", sum := "341d693c8bee025c9094ee940a368c9d682ac4f5f7016628130037836b01906d", func := "loop.example/g01227/laws.FnExactCrossTable", spec := "fnExactCrossTable", unfollowed := true, recurses := true, apart := false, narrowed := true }
def FnExactCrossTableUptoSaid : Prop := fnExactCrossTableUptoRow.holds Try.pinned (OpenSpec.upto fnExactCrossTableSpec)

/-- 'laws.FnExactSamePlan', WHERE WHAT IT READS IS OF BULK AT MOST 1048576: true; the input reads as it did. -/
def fnExactSamePlanUptoRow : OpenClaim := { program := "ytemobghgdaaknaa", sum := "341d693c8bee025c9094ee940a368c9d682ac4f5f7016628130037836b01906d", func := "loop.example/g01227/laws.FnExactSamePlan", spec := "fnExactSamePlan", apart := false, narrowed := true }
def FnExactSamePlanUptoSaid : Prop := fnExactSamePlanUptoRow.holds Try.pinned (OpenSpec.upto fnExactSamePlanSpec)

/-- 'laws.FnExactValidPlan', WHERE WHAT IT READS IS OF BULK AT MOST 1048576: true; the input reads as it did. -/
def fnExactValidPlanUptoRow : OpenClaim := { program := "ytemobghgdaaknaa", sum := "341d693c8bee025c9094ee940a368c9d682ac4f5f7016628130037836b01906d", func := "loop.example/g01227/laws.FnExactValidPlan", spec := "fnExactValidPlan", unfollowed := true, recurses := true, apart := false, narrowed := true }
def FnExactValidPlanUptoSaid : Prop := fnExactValidPlanUptoRow.holds Try.pinned (OpenSpec.upto fnExactValidPlanSpec)

/-- 'laws.FnExactCycleOf', WHERE WHAT IT READS IS OF BULK AT MOST 1048576: true; the input reads as it did. -/
def fnExactCycleOfUptoRow : OpenClaim := { program := "ytemobghgdaaknaa", sum := "341d693c8bee025c9094ee940a368c9d682ac4f5f7016628130037836b01906d", func := "loop.example/g01227/laws.FnExactCycleOf", spec := "fnExactCycleOf", unfollowed := true, recurses := true, apart := false, narrowed := true }
def FnExactCycleOfUptoSaid : Prop := fnExactCycleOfUptoRow.holds Try.pinned (OpenSpec.upto fnExactCycleOfSpec)

/-- 'laws.FnExactLightPhase', WHERE WHAT IT READS IS OF BULK AT MOST 1048576: true; the input reads as it did. -/
def fnExactLightPhaseUptoRow : OpenClaim := { program := "ytemobghgdaaknaa", sum := "341d693c8bee025c9094ee940a368c9d682ac4f5f7016628130037836b01906d", func := "loop.example/g01227/laws.FnExactLightPhase", spec := "fnExactLightPhase", unfollowed := true, recurses := true, apart := false, narrowed := true }
def FnExactLightPhaseUptoSaid : Prop := fnExactLightPhaseUptoRow.holds Try.pinned (OpenSpec.upto fnExactLightPhaseSpec)

/-- 'laws.FnExactGreatestPhases', WHERE WHAT IT READS IS OF BULK AT MOST 1048576: true; the input reads as it did. -/
def fnExactGreatestPhasesUptoRow : OpenClaim := { program := "ytemobghgdaaknaa", sum := "341d693c8bee025c9094ee940a368c9d682ac4f5f7016628130037836b01906d", func := "loop.example/g01227/laws.FnExactGreatestPhases", spec := "fnExactGreatestPhases", apart := false, narrowed := true }
def FnExactGreatestPhasesUptoSaid : Prop := fnExactGreatestPhasesUptoRow.holds Try.pinned (OpenSpec.upto fnExactGreatestPhasesSpec)

end Rows
end Go.Proofs.Ytemobghgdaaknaa
