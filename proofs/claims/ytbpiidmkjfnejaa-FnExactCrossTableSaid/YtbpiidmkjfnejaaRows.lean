/-
  No cell of these rows narrows 'for every input' (looked for: loops, veiled, ifaces, maps, wideKeys, modest, calm, conditions, laid).
  DERIVED. THE GIVEN ROWS OF THIS SEAT. 12 by the template 'for every input the law returns true; each argument reads behind the call as it read before'; 0 by the template 'total and deterministic' (their statements: YtbpiidmkjfnejaaTotals.lean).
  GIVEN WITH THE SEED: the statements are not yours to turn. If you find one false, say at which input.
  Laid BY PROGRAM, IN A SANDBOX (cutbox-rows.mjs): the forced cells as the released guide's own fill.sh prints them over the translation bb78cecc69e54c73… (all of the seat's roots in one cut). By AI agents, Wed Nov 11 2026. No macro, syntax, notation, axiom, sorry.
-/
import Derived.Test.YtbpiidmkjfnejaaChecked
import GoSem.Claim
import GoSem.ClaimJoined
import GoSem.ClaimMapViews
import Derived.JoinedTies
import Derived.KernelRfl
namespace Go.Proofs.Ytbpiidmkjfnejaa
/- THE CELL 'sum', in the pinned program and in every row, IS THE sha256 OF THE DUMP (.gsa) THAT YtbpiidmkjfnejaaProg.lean LOADS. Nothing in Lean hashes anything: it is a label: what it is worth is what the hold of that sum in a sandbox is worth. -/
noncomputable def Try.pinned : Pinned := { name := "ytbpiidmkjfnejaa", sum := "bb78cecc69e54c73c58c0b46e9a78cf80896332550eb0191adb07ba15ef5ef87", checked := Try.checked }
namespace Rows
def none {H : Type} : Left H := { results := [], args := [] }

/-- 'laws.FnExactWithoutWrong': WHATEVER THE INPUT: true; the input reads as it did. -/
def fnExactWithoutWrongSpec : ChangeSpec := { name := "fnExactWithoutWrong", fn := fun _ => fun
  | [d1, d2] => { results := [.lit (.bool true)], args := [d1, d2] }
  | _ => none }
def fnExactWithoutWrongRow : OpenClaim := { program := "ytbpiidmkjfnejaa", sum := "bb78cecc69e54c73c58c0b46e9a78cf80896332550eb0191adb07ba15ef5ef87", func := "loop.example/g01227/laws.FnExactWithoutWrong", spec := "fnExactWithoutWrong", unfollowed := true, recurses := true, apart := false }
def FnExactWithoutWrongSaid : Prop := fnExactWithoutWrongRow.holds Try.pinned (OpenSpec.ofChange fnExactWithoutWrongSpec)

/-- ITS FALSE NEIGHBOUR: 'it returns false'. Refute it at one input. -/
def fnExactWithoutWrongWrong : ChangeSpec := { name := "fnExactWithoutWrong", fn := fun _ => fun
  | [d1, d2] => { results := [.lit (.bool false)], args := [d1, d2] }
  | _ => none }
def FnExactWithoutWrongWrongFalsely : Prop := fnExactWithoutWrongRow.holds Try.pinned (OpenSpec.ofChange fnExactWithoutWrongWrong)

/-- 'laws.FnExactCrossTable': WHATEVER THE INPUT: true; the input reads as it did. -/
def fnExactCrossTableSpec : ChangeSpec := { name := "fnExactCrossTable", fn := fun _ => fun
  | [d1, d2, d3] => { results := [.lit (.bool true)], args := [d1, d2, d3] }
  | _ => none }
def fnExactCrossTableRow : OpenClaim := { program := "ytbpiidmkjfnejaa", sum := "bb78cecc69e54c73c58c0b46e9a78cf80896332550eb0191adb07ba15ef5ef87", func := "loop.example/g01227/laws.FnExactCrossTable", spec := "fnExactCrossTable", unfollowed := true, recurses := true, apart := false }
def FnExactCrossTableSaid : Prop := fnExactCrossTableRow.holds Try.pinned (OpenSpec.ofChange fnExactCrossTableSpec)

/-- ITS FALSE NEIGHBOUR: 'it returns false'. Refute it at one input. -/
def fnExactCrossTableWrong : ChangeSpec := { name := "fnExactCrossTable", fn := fun _ => fun
  | [d1, d2, d3] => { results := [.lit (.bool false)], args := [d1, d2, d3] }
  | _ => none }
def FnExactCrossTableWrongFalsely : Prop := fnExactCrossTableRow.holds Try.pinned (OpenSpec.ofChange fnExactCrossTableWrong)

/-- 'laws.FnExactSamePlan': WHATEVER THE INPUT: true; the input reads as it did. -/
def fnExactSamePlanSpec : ChangeSpec := { name := "fnExactSamePlan", fn := fun _ => fun
  | [d1, d2] => { results := [.lit (.bool true)], args := [d1, d2] }
  | _ => none }
def fnExactSamePlanRow : OpenClaim := { program := "ytbpiidmkjfnejaa", sum := "bb78cecc69e54c73c58c0b46e9a78cf80896332550eb0191adb07ba15ef5ef87", func := "loop.example/g01227/laws.FnExactSamePlan", spec := "fnExactSamePlan", apart := false }
def FnExactSamePlanSaid : Prop := fnExactSamePlanRow.holds Try.pinned (OpenSpec.ofChange fnExactSamePlanSpec)

/-- ITS FALSE NEIGHBOUR: 'it returns false'. Refute it at one input. -/
def fnExactSamePlanWrong : ChangeSpec := { name := "fnExactSamePlan", fn := fun _ => fun
  | [d1, d2] => { results := [.lit (.bool false)], args := [d1, d2] }
  | _ => none }
def FnExactSamePlanWrongFalsely : Prop := fnExactSamePlanRow.holds Try.pinned (OpenSpec.ofChange fnExactSamePlanWrong)

/-- 'laws.FnExactValidPlan': WHATEVER THE INPUT: true; the input reads as it did. -/
def fnExactValidPlanSpec : ChangeSpec := { name := "fnExactValidPlan", fn := fun _ => fun
  | [d] => { results := [.lit (.bool true)], args := [d] }
  | _ => none }
def fnExactValidPlanRow : OpenClaim := { program := "ytbpiidmkjfnejaa", sum := "bb78cecc69e54c73c58c0b46e9a78cf80896332550eb0191adb07ba15ef5ef87", func := "loop.example/g01227/laws.FnExactValidPlan", spec := "fnExactValidPlan", unfollowed := true, recurses := true, apart := false }
def FnExactValidPlanSaid : Prop := fnExactValidPlanRow.holds Try.pinned (OpenSpec.ofChange fnExactValidPlanSpec)

/-- ITS FALSE NEIGHBOUR: 'it returns false'. Refute it at one input. -/
def fnExactValidPlanWrong : ChangeSpec := { name := "fnExactValidPlan", fn := fun _ => fun
  | [d] => { results := [.lit (.bool false)], args := [d] }
  | _ => none }
def FnExactValidPlanWrongFalsely : Prop := fnExactValidPlanRow.holds Try.pinned (OpenSpec.ofChange fnExactValidPlanWrong)

/-- 'laws.FnExactCycleOf': WHATEVER THE INPUT: true; the input reads as it did. -/
def fnExactCycleOfSpec : ChangeSpec := { name := "fnExactCycleOf", fn := fun _ => fun
  | [d] => { results := [.lit (.bool true)], args := [d] }
  | _ => none }
def fnExactCycleOfRow : OpenClaim := { program := "ytbpiidmkjfnejaa", sum := "bb78cecc69e54c73c58c0b46e9a78cf80896332550eb0191adb07ba15ef5ef87", func := "loop.example/g01227/laws.FnExactCycleOf", spec := "fnExactCycleOf", unfollowed := true, recurses := true, apart := false }
def FnExactCycleOfSaid : Prop := fnExactCycleOfRow.holds Try.pinned (OpenSpec.ofChange fnExactCycleOfSpec)

/-- ITS FALSE NEIGHBOUR: 'it returns false'. Refute it at one input. -/
def fnExactCycleOfWrong : ChangeSpec := { name := "fnExactCycleOf", fn := fun _ => fun
  | [d] => { results := [.lit (.bool false)], args := [d] }
  | _ => none }
def FnExactCycleOfWrongFalsely : Prop := fnExactCycleOfRow.holds Try.pinned (OpenSpec.ofChange fnExactCycleOfWrong)

/-- 'laws.FnExactLightPhase': WHATEVER THE INPUT: true; the input reads as it did. -/
def fnExactLightPhaseSpec : ChangeSpec := { name := "fnExactLightPhase", fn := fun _ => fun
  | [d1, d2] => { results := [.lit (.bool true)], args := [d1, d2] }
  | _ => none }
def fnExactLightPhaseRow : OpenClaim := { program := "ytbpiidmkjfnejaa", sum := "bb78cecc69e54c73c58c0b46e9a78cf80896332550eb0191adb07ba15ef5ef87", func := "loop.example/g01227/laws.FnExactLightPhase", spec := "fnExactLightPhase", unfollowed := true, recurses := true, apart := false }
def FnExactLightPhaseSaid : Prop := fnExactLightPhaseRow.holds Try.pinned (OpenSpec.ofChange fnExactLightPhaseSpec)

/-- ITS FALSE NEIGHBOUR: 'it returns false'. Refute it at one input. -/
def fnExactLightPhaseWrong : ChangeSpec := { name := "fnExactLightPhase", fn := fun _ => fun
  | [d1, d2] => { results := [.lit (.bool false)], args := [d1, d2] }
  | _ => none }
def FnExactLightPhaseWrongFalsely : Prop := fnExactLightPhaseRow.holds Try.pinned (OpenSpec.ofChange fnExactLightPhaseWrong)

/-- 'laws.FnExactGreatestPhases': WHATEVER THE INPUT: true; the input reads as it did. -/
def fnExactGreatestPhasesSpec : ChangeSpec := { name := "fnExactGreatestPhases", fn := fun _ => fun
  | [d] => { results := [.lit (.bool true)], args := [d] }
  | _ => none }
def fnExactGreatestPhasesRow : OpenClaim := { program := "ytbpiidmkjfnejaa", sum := "bb78cecc69e54c73c58c0b46e9a78cf80896332550eb0191adb07ba15ef5ef87", func := "loop.example/g01227/laws.FnExactGreatestPhases", spec := "fnExactGreatestPhases", apart := false }
def FnExactGreatestPhasesSaid : Prop := fnExactGreatestPhasesRow.holds Try.pinned (OpenSpec.ofChange fnExactGreatestPhasesSpec)

/-- ITS FALSE NEIGHBOUR: 'it returns false'. Refute it at one input. -/
def fnExactGreatestPhasesWrong : ChangeSpec := { name := "fnExactGreatestPhases", fn := fun _ => fun
  | [d] => { results := [.lit (.bool false)], args := [d] }
  | _ => none }
def FnExactGreatestPhasesWrongFalsely : Prop := fnExactGreatestPhasesRow.holds Try.pinned (OpenSpec.ofChange fnExactGreatestPhasesWrong)

/-- 'laws.FnExactSoundPlan': WHATEVER THE INPUT: true; the input reads as it did. -/
def fnExactSoundPlanSpec : ChangeSpec := { name := "fnExactSoundPlan", fn := fun _ => fun
  | [d1, d2] => { results := [.lit (.bool true)], args := [d1, d2] }
  | _ => none }
def fnExactSoundPlanRow : OpenClaim := { program := "ytbpiidmkjfnejaa", sum := "bb78cecc69e54c73c58c0b46e9a78cf80896332550eb0191adb07ba15ef5ef87", func := "loop.example/g01227/laws.FnExactSoundPlan", spec := "fnExactSoundPlan", unfollowed := true, recurses := true, apart := false }
def FnExactSoundPlanSaid : Prop := fnExactSoundPlanRow.holds Try.pinned (OpenSpec.ofChange fnExactSoundPlanSpec)

/-- ITS FALSE NEIGHBOUR: 'it returns false'. Refute it at one input. -/
def fnExactSoundPlanWrong : ChangeSpec := { name := "fnExactSoundPlan", fn := fun _ => fun
  | [d1, d2] => { results := [.lit (.bool false)], args := [d1, d2] }
  | _ => none }
def FnExactSoundPlanWrongFalsely : Prop := fnExactSoundPlanRow.holds Try.pinned (OpenSpec.ofChange fnExactSoundPlanWrong)

/-- 'laws.FnExactGreenAt': WHATEVER THE INPUT: true; the input reads as it did. -/
def fnExactGreenAtSpec : ChangeSpec := { name := "fnExactGreenAt", fn := fun _ => fun
  | [d1, d2] => { results := [.lit (.bool true)], args := [d1, d2] }
  | _ => none }
def fnExactGreenAtRow : OpenClaim := { program := "ytbpiidmkjfnejaa", sum := "bb78cecc69e54c73c58c0b46e9a78cf80896332550eb0191adb07ba15ef5ef87", func := "loop.example/g01227/laws.FnExactGreenAt", spec := "fnExactGreenAt", unfollowed := true, recurses := true, apart := false }
def FnExactGreenAtSaid : Prop := fnExactGreenAtRow.holds Try.pinned (OpenSpec.ofChange fnExactGreenAtSpec)

/-- ITS FALSE NEIGHBOUR: 'it returns false'. Refute it at one input. -/
def fnExactGreenAtWrong : ChangeSpec := { name := "fnExactGreenAt", fn := fun _ => fun
  | [d1, d2] => { results := [.lit (.bool false)], args := [d1, d2] }
  | _ => none }
def FnExactGreenAtWrongFalsely : Prop := fnExactGreenAtRow.holds Try.pinned (OpenSpec.ofChange fnExactGreenAtWrong)

/-- 'laws.FnExactStepLight': WHATEVER THE INPUT: true; the input reads as it did. -/
def fnExactStepLightSpec : ChangeSpec := { name := "fnExactStepLight", fn := fun _ => fun
  | [d1, d2, d3, d4, d5] => { results := [.lit (.bool true)], args := [d1, d2, d3, d4, d5] }
  | _ => none }
def fnExactStepLightRow : OpenClaim := { program := "ytbpiidmkjfnejaa", sum := "bb78cecc69e54c73c58c0b46e9a78cf80896332550eb0191adb07ba15ef5ef87", func := "loop.example/g01227/laws.FnExactStepLight", spec := "fnExactStepLight", unfollowed := true, recurses := true, apart := false }
def FnExactStepLightSaid : Prop := fnExactStepLightRow.holds Try.pinned (OpenSpec.ofChange fnExactStepLightSpec)

/-- ITS FALSE NEIGHBOUR: 'it returns false'. Refute it at one input. -/
def fnExactStepLightWrong : ChangeSpec := { name := "fnExactStepLight", fn := fun _ => fun
  | [d1, d2, d3, d4, d5] => { results := [.lit (.bool false)], args := [d1, d2, d3, d4, d5] }
  | _ => none }
def FnExactStepLightWrongFalsely : Prop := fnExactStepLightRow.holds Try.pinned (OpenSpec.ofChange fnExactStepLightWrong)

/-- 'laws.FnExactFewestPhases': WHATEVER THE INPUT: true; the input reads as it did. -/
def fnExactFewestPhasesSpec : ChangeSpec := { name := "fnExactFewestPhases", fn := fun _ => fun
  | [d1, d2] => { results := [.lit (.bool true)], args := [d1, d2] }
  | _ => none }
def fnExactFewestPhasesRow : OpenClaim := { program := "ytbpiidmkjfnejaa", sum := "bb78cecc69e54c73c58c0b46e9a78cf80896332550eb0191adb07ba15ef5ef87", func := "loop.example/g01227/laws.FnExactFewestPhases", spec := "fnExactFewestPhases", recurses := true, apart := false }
def FnExactFewestPhasesSaid : Prop := fnExactFewestPhasesRow.holds Try.pinned (OpenSpec.ofChange fnExactFewestPhasesSpec)

/-- ITS FALSE NEIGHBOUR: 'it returns false'. Refute it at one input. -/
def fnExactFewestPhasesWrong : ChangeSpec := { name := "fnExactFewestPhases", fn := fun _ => fun
  | [d1, d2] => { results := [.lit (.bool false)], args := [d1, d2] }
  | _ => none }
def FnExactFewestPhasesWrongFalsely : Prop := fnExactFewestPhasesRow.holds Try.pinned (OpenSpec.ofChange fnExactFewestPhasesWrong)

/-- 'laws.FnExactShareGreen': WHATEVER THE INPUT: true; the input reads as it did. -/
def fnExactShareGreenSpec : ChangeSpec := { name := "fnExactShareGreen", fn := fun _ => fun
  | [d1, d2, d3, d4] => { results := [.lit (.bool true)], args := [d1, d2, d3, d4] }
  | _ => none }
def fnExactShareGreenRow : OpenClaim := { program := "ytbpiidmkjfnejaa", sum := "bb78cecc69e54c73c58c0b46e9a78cf80896332550eb0191adb07ba15ef5ef87", func := "loop.example/g01227/laws.FnExactShareGreen", spec := "fnExactShareGreen", inPlace := ["math.Float32bits", "math.Float64bits"], unfollowed := true, recurses := true, apart := false }
def FnExactShareGreenSaid : Prop := fnExactShareGreenRow.holds Try.pinned (OpenSpec.ofChange fnExactShareGreenSpec)

/-- ITS FALSE NEIGHBOUR: 'it returns false'. Refute it at one input. -/
def fnExactShareGreenWrong : ChangeSpec := { name := "fnExactShareGreen", fn := fun _ => fun
  | [d1, d2, d3, d4] => { results := [.lit (.bool false)], args := [d1, d2, d3, d4] }
  | _ => none }
def FnExactShareGreenWrongFalsely : Prop := fnExactShareGreenRow.holds Try.pinned (OpenSpec.ofChange fnExactShareGreenWrong)

/- THE SECOND FORM. 'bulk': how many values and letters a reading holds, each counted each time it is reached (what is shared counts as often as it is met; a slice's spare places count too). A statement '..UptoSaid' is the law's where the arguments, and the package variables that the reading takes, are together of bulk at most 1048576: NARROWER than '..Said'. Prove '..Said' where nothing that the law and all that it calls make is longer than what came in: it says more and counts as full. Else prove '..UptoSaid'. A law counts once. -/
mutual
def uptoBulk {H : Type} : DataW H → Nat
  | .lit (.string bytes) => bytes.length + 1
  | .lit _ => 1
  | .nil => 1
  | .ptr d => uptoBulk d + 1
  | .slice elems spare => uptoBulkAll elems + uptoBulkAll spare + 1
  | .agg parts => uptoBulkAll parts + 1
  | .iface _ d => uptoBulk d + 1
  | .map entries => uptoBulkEntries entries + 1
  | .held _ => 1
def uptoBulkAll {H : Type} : List (DataW H) → Nat
  | [] => 0
  | d :: r => uptoBulk d + uptoBulkAll r
def uptoBulkEntries {H : Type} : List (Lit × DataW H) → Nat
  | [] => 0
  | x :: r => uptoBulkEntry x + uptoBulkEntries r
def uptoBulkEntry {H : Type} : Lit × DataW H → Nat
  | (.string bytes, d) => bytes.length + uptoBulk d + 1
  | (_, d) => uptoBulk d + 1
 end
def uptoSmall : (H : Type) → List (DataW H) → Bool := fun _ ds => decide (uptoBulkAll ds ≤ 1048576)
def OpenSpec.upto (s : _root_.Go.ChangeSpec) : _root_.Go.OpenSpec := { _root_.Go.OpenSpec.ofChange s with cond := some uptoSmall }

/-- 'laws.FnExactWithoutWrong', WHERE WHAT IT READS IS OF BULK AT MOST 1048576: true; the input reads as it did. -/
def fnExactWithoutWrongUptoRow : OpenClaim := { program := "ytbpiidmkjfnejaa", sum := "bb78cecc69e54c73c58c0b46e9a78cf80896332550eb0191adb07ba15ef5ef87", func := "loop.example/g01227/laws.FnExactWithoutWrong", spec := "fnExactWithoutWrong", unfollowed := true, recurses := true, apart := false, narrowed := true }
def FnExactWithoutWrongUptoSaid : Prop := fnExactWithoutWrongUptoRow.holds Try.pinned (OpenSpec.upto fnExactWithoutWrongSpec)

/-- 'laws.FnExactCrossTable', WHERE WHAT IT READS IS OF BULK AT MOST 1048576: true; the input reads as it did. -/
def fnExactCrossTableUptoRow : OpenClaim := { program := "ytbpiidmkjfnejaa", sum := "bb78cecc69e54c73c58c0b46e9a78cf80896332550eb0191adb07ba15ef5ef87", func := "loop.example/g01227/laws.FnExactCrossTable", spec := "fnExactCrossTable", unfollowed := true, recurses := true, apart := false, narrowed := true }
def FnExactCrossTableUptoSaid : Prop := fnExactCrossTableUptoRow.holds Try.pinned (OpenSpec.upto fnExactCrossTableSpec)

/-- 'laws.FnExactSamePlan', WHERE WHAT IT READS IS OF BULK AT MOST 1048576: true; the input reads as it did. -/
def fnExactSamePlanUptoRow : OpenClaim := { program := "ytbpiidmkjfnejaa", sum := "bb78cecc69e54c73c58c0b46e9a78cf80896332550eb0191adb07ba15ef5ef87", func := "loop.example/g01227/laws.FnExactSamePlan", spec := "fnExactSamePlan", apart := false, narrowed := true }
def FnExactSamePlanUptoSaid : Prop := fnExactSamePlanUptoRow.holds Try.pinned (OpenSpec.upto fnExactSamePlanSpec)

/-- 'laws.FnExactValidPlan', WHERE WHAT IT READS IS OF BULK AT MOST 1048576: true; the input reads as it did. -/
def fnExactValidPlanUptoRow : OpenClaim := { program := "ytbpiidmkjfnejaa", sum := "bb78cecc69e54c73c58c0b46e9a78cf80896332550eb0191adb07ba15ef5ef87", func := "loop.example/g01227/laws.FnExactValidPlan", spec := "fnExactValidPlan", unfollowed := true, recurses := true, apart := false, narrowed := true }
def FnExactValidPlanUptoSaid : Prop := fnExactValidPlanUptoRow.holds Try.pinned (OpenSpec.upto fnExactValidPlanSpec)

/-- 'laws.FnExactCycleOf', WHERE WHAT IT READS IS OF BULK AT MOST 1048576: true; the input reads as it did. -/
def fnExactCycleOfUptoRow : OpenClaim := { program := "ytbpiidmkjfnejaa", sum := "bb78cecc69e54c73c58c0b46e9a78cf80896332550eb0191adb07ba15ef5ef87", func := "loop.example/g01227/laws.FnExactCycleOf", spec := "fnExactCycleOf", unfollowed := true, recurses := true, apart := false, narrowed := true }
def FnExactCycleOfUptoSaid : Prop := fnExactCycleOfUptoRow.holds Try.pinned (OpenSpec.upto fnExactCycleOfSpec)

/-- 'laws.FnExactLightPhase', WHERE WHAT IT READS IS OF BULK AT MOST 1048576: true; the input reads as it did. -/
def fnExactLightPhaseUptoRow : OpenClaim := { program := "ytbpiidmkjfnejaa", sum := "bb78cecc69e54c73c58c0b46e9a78cf80896332550eb0191adb07ba15ef5ef87", func := "loop.example/g01227/laws.FnExactLightPhase", spec := "fnExactLightPhase", unfollowed := true, recurses := true, apart := false, narrowed := true }
def FnExactLightPhaseUptoSaid : Prop := fnExactLightPhaseUptoRow.holds Try.pinned (OpenSpec.upto fnExactLightPhaseSpec)

/-- 'laws.FnExactGreatestPhases', WHERE WHAT IT READS IS OF BULK AT MOST 1048576: true; the input reads as it did. -/
def fnExactGreatestPhasesUptoRow : OpenClaim := { program := "ytbpiidmkjfnejaa", sum := "bb78cecc69e54c73c58c0b46e9a78cf80896332550eb0191adb07ba15ef5ef87", func := "loop.example/g01227/laws.FnExactGreatestPhases", spec := "fnExactGreatestPhases", apart := false, narrowed := true }
def FnExactGreatestPhasesUptoSaid : Prop := fnExactGreatestPhasesUptoRow.holds Try.pinned (OpenSpec.upto fnExactGreatestPhasesSpec)

/-- 'laws.FnExactSoundPlan', WHERE WHAT IT READS IS OF BULK AT MOST 1048576: true; the input reads as it did. -/
def fnExactSoundPlanUptoRow : OpenClaim := { program := "ytbpiidmkjfnejaa", sum := "bb78cecc69e54c73c58c0b46e9a78cf80896332550eb0191adb07ba15ef5ef87", func := "loop.example/g01227/laws.FnExactSoundPlan", spec := "fnExactSoundPlan", unfollowed := true, recurses := true, apart := false, narrowed := true }
def FnExactSoundPlanUptoSaid : Prop := fnExactSoundPlanUptoRow.holds Try.pinned (OpenSpec.upto fnExactSoundPlanSpec)

/-- 'laws.FnExactGreenAt', WHERE WHAT IT READS IS OF BULK AT MOST 1048576: true; the input reads as it did. -/
def fnExactGreenAtUptoRow : OpenClaim := { program := "ytbpiidmkjfnejaa", sum := "bb78cecc69e54c73c58c0b46e9a78cf80896332550eb0191adb07ba15ef5ef87", func := "loop.example/g01227/laws.FnExactGreenAt", spec := "fnExactGreenAt", unfollowed := true, recurses := true, apart := false, narrowed := true }
def FnExactGreenAtUptoSaid : Prop := fnExactGreenAtUptoRow.holds Try.pinned (OpenSpec.upto fnExactGreenAtSpec)

/-- 'laws.FnExactStepLight', WHERE WHAT IT READS IS OF BULK AT MOST 1048576: true; the input reads as it did. -/
def fnExactStepLightUptoRow : OpenClaim := { program := "ytbpiidmkjfnejaa", sum := "bb78cecc69e54c73c58c0b46e9a78cf80896332550eb0191adb07ba15ef5ef87", func := "loop.example/g01227/laws.FnExactStepLight", spec := "fnExactStepLight", unfollowed := true, recurses := true, apart := false, narrowed := true }
def FnExactStepLightUptoSaid : Prop := fnExactStepLightUptoRow.holds Try.pinned (OpenSpec.upto fnExactStepLightSpec)

/-- 'laws.FnExactFewestPhases', WHERE WHAT IT READS IS OF BULK AT MOST 1048576: true; the input reads as it did. -/
def fnExactFewestPhasesUptoRow : OpenClaim := { program := "ytbpiidmkjfnejaa", sum := "bb78cecc69e54c73c58c0b46e9a78cf80896332550eb0191adb07ba15ef5ef87", func := "loop.example/g01227/laws.FnExactFewestPhases", spec := "fnExactFewestPhases", recurses := true, apart := false, narrowed := true }
def FnExactFewestPhasesUptoSaid : Prop := fnExactFewestPhasesUptoRow.holds Try.pinned (OpenSpec.upto fnExactFewestPhasesSpec)

/-- 'laws.FnExactShareGreen', WHERE WHAT IT READS IS OF BULK AT MOST 1048576: true; the input reads as it did. -/
def fnExactShareGreenUptoRow : OpenClaim := { program := "ytbpiidmkjfnejaa", sum := "bb78cecc69e54c73c58c0b46e9a78cf80896332550eb0191adb07ba15ef5ef87", func := "loop.example/g01227/laws.FnExactShareGreen", spec := "fnExactShareGreen", inPlace := ["math.Float32bits", "math.Float64bits"], unfollowed := true, recurses := true, apart := false, narrowed := true }
def FnExactShareGreenUptoSaid : Prop := fnExactShareGreenUptoRow.holds Try.pinned (OpenSpec.upto fnExactShareGreenSpec)

end Rows
end Go.Proofs.Ytbpiidmkjfnejaa
