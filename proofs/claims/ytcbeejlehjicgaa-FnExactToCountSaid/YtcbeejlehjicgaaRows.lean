/-
  No cell of these rows narrows 'for every input' (looked for: loops, veiled, ifaces, maps, wideKeys, modest, calm, conditions, laid).
  DERIVED. THE GIVEN ROWS OF THIS SEAT. 11 by the template 'for every input the law returns true; each argument reads behind the call as it read before'; 0 by the template 'total and deterministic' (their statements: YtcbeejlehjicgaaTotals.lean).
  GIVEN WITH THE SEED: the statements are not yours to turn. If you find one false, say at which input.
  Laid BY PROGRAM, IN A SANDBOX (cutbox-rows.mjs): the forced cells as the released guide's own fill.sh prints them over the translation bf8ad66013513fe3… (all of the seat's roots in one cut). By AI agents, Wed Nov 11 2026. No macro, syntax, notation, axiom, sorry.
-/
import Derived.Test.YtcbeejlehjicgaaChecked
import GoSem.Claim
import GoSem.ClaimJoined
import GoSem.ClaimMapViews
import Derived.JoinedTies
import Derived.KernelRfl
namespace Go.Proofs.Ytcbeejlehjicgaa
/- THE CELL 'sum', in the pinned program and in every row, IS THE sha256 OF THE DUMP (.gsa) THAT YtcbeejlehjicgaaProg.lean LOADS. Nothing in Lean hashes anything: it is a label: what it is worth is what the hold of that sum in a sandbox is worth. -/
noncomputable def Try.pinned : Pinned := { name := "ytcbeejlehjicgaa", sum := "bf8ad66013513fe398946c53468ca885642abeae1fc44adc211dc879de13f77c", checked := Try.checked }
namespace Rows
def none {H : Type} : Left H := { results := [], args := [] }

/-- 'laws.FnExactFirstLight': WHATEVER THE INPUT: true; the input reads as it did. -/
def fnExactFirstLightSpec : ChangeSpec := { name := "fnExactFirstLight", fn := fun _ => fun
  | [] => { results := [.lit (.bool true)], args := [] }
  | _ => none }
def fnExactFirstLightRow : OpenClaim := { program := "ytcbeejlehjicgaa", sum := "bf8ad66013513fe398946c53468ca885642abeae1fc44adc211dc879de13f77c", func := "loop.example/g01227/laws.FnExactFirstLight", spec := "fnExactFirstLight", apart := false }
def FnExactFirstLightSaid : Prop := fnExactFirstLightRow.holds Try.pinned (OpenSpec.ofChange fnExactFirstLightSpec)

/-- ITS FALSE NEIGHBOUR: 'it returns false'. Refute it at one input. -/
def fnExactFirstLightWrong : ChangeSpec := { name := "fnExactFirstLight", fn := fun _ => fun
  | [] => { results := [.lit (.bool false)], args := [] }
  | _ => none }
def FnExactFirstLightWrongFalsely : Prop := fnExactFirstLightRow.holds Try.pinned (OpenSpec.ofChange fnExactFirstLightWrong)

/-- 'laws.FnExactNumberOfPhase': WHATEVER THE INPUT: true; the input reads as it did. -/
def fnExactNumberOfPhaseSpec : ChangeSpec := { name := "fnExactNumberOfPhase", fn := fun _ => fun
  | [d] => { results := [.lit (.bool true)], args := [d] }
  | _ => none }
def fnExactNumberOfPhaseRow : OpenClaim := { program := "ytcbeejlehjicgaa", sum := "bf8ad66013513fe398946c53468ca885642abeae1fc44adc211dc879de13f77c", func := "loop.example/g01227/laws.FnExactNumberOfPhase", spec := "fnExactNumberOfPhase", apart := false }
def FnExactNumberOfPhaseSaid : Prop := fnExactNumberOfPhaseRow.holds Try.pinned (OpenSpec.ofChange fnExactNumberOfPhaseSpec)

/-- ITS FALSE NEIGHBOUR: 'it returns false'. Refute it at one input. -/
def fnExactNumberOfPhaseWrong : ChangeSpec := { name := "fnExactNumberOfPhase", fn := fun _ => fun
  | [d] => { results := [.lit (.bool false)], args := [d] }
  | _ => none }
def FnExactNumberOfPhaseWrongFalsely : Prop := fnExactNumberOfPhaseRow.holds Try.pinned (OpenSpec.ofChange fnExactNumberOfPhaseWrong)

/-- 'laws.FnExactValidDetector': WHATEVER THE INPUT: true; the input reads as it did. -/
def fnExactValidDetectorSpec : ChangeSpec := { name := "fnExactValidDetector", fn := fun _ => fun
  | [d] => { results := [.lit (.bool true)], args := [d] }
  | _ => none }
def fnExactValidDetectorRow : OpenClaim := { program := "ytcbeejlehjicgaa", sum := "bf8ad66013513fe398946c53468ca885642abeae1fc44adc211dc879de13f77c", func := "loop.example/g01227/laws.FnExactValidDetector", spec := "fnExactValidDetector", inPlace := ["math.Float32bits", "math.Float64bits"], apart := false }
def FnExactValidDetectorSaid : Prop := fnExactValidDetectorRow.holds Try.pinned (OpenSpec.ofChange fnExactValidDetectorSpec)

/-- ITS FALSE NEIGHBOUR: 'it returns false'. Refute it at one input. -/
def fnExactValidDetectorWrong : ChangeSpec := { name := "fnExactValidDetector", fn := fun _ => fun
  | [d] => { results := [.lit (.bool false)], args := [d] }
  | _ => none }
def FnExactValidDetectorWrongFalsely : Prop := fnExactValidDetectorRow.holds Try.pinned (OpenSpec.ofChange fnExactValidDetectorWrong)

/-- 'laws.FnExactSameDetector': WHATEVER THE INPUT: true; the input reads as it did. -/
def fnExactSameDetectorSpec : ChangeSpec := { name := "fnExactSameDetector", fn := fun _ => fun
  | [d1, d2] => { results := [.lit (.bool true)], args := [d1, d2] }
  | _ => none }
def fnExactSameDetectorRow : OpenClaim := { program := "ytcbeejlehjicgaa", sum := "bf8ad66013513fe398946c53468ca885642abeae1fc44adc211dc879de13f77c", func := "loop.example/g01227/laws.FnExactSameDetector", spec := "fnExactSameDetector", inPlace := ["math.Float32bits"], apart := false }
def FnExactSameDetectorSaid : Prop := fnExactSameDetectorRow.holds Try.pinned (OpenSpec.ofChange fnExactSameDetectorSpec)

/-- ITS FALSE NEIGHBOUR: 'it returns false'. Refute it at one input. -/
def fnExactSameDetectorWrong : ChangeSpec := { name := "fnExactSameDetector", fn := fun _ => fun
  | [d1, d2] => { results := [.lit (.bool false)], args := [d1, d2] }
  | _ => none }
def FnExactSameDetectorWrongFalsely : Prop := fnExactSameDetectorRow.holds Try.pinned (OpenSpec.ofChange fnExactSameDetectorWrong)

/-- 'laws.FnExactValidTable': WHATEVER THE INPUT: true; the input reads as it did. -/
def fnExactValidTableSpec : ChangeSpec := { name := "fnExactValidTable", fn := fun _ => fun
  | [d] => { results := [.lit (.bool true)], args := [d] }
  | _ => none }
def fnExactValidTableRow : OpenClaim := { program := "ytcbeejlehjicgaa", sum := "bf8ad66013513fe398946c53468ca885642abeae1fc44adc211dc879de13f77c", func := "loop.example/g01227/laws.FnExactValidTable", spec := "fnExactValidTable", apart := false }
def FnExactValidTableSaid : Prop := fnExactValidTableRow.holds Try.pinned (OpenSpec.ofChange fnExactValidTableSpec)

/-- ITS FALSE NEIGHBOUR: 'it returns false'. Refute it at one input. -/
def fnExactValidTableWrong : ChangeSpec := { name := "fnExactValidTable", fn := fun _ => fun
  | [d] => { results := [.lit (.bool false)], args := [d] }
  | _ => none }
def FnExactValidTableWrongFalsely : Prop := fnExactValidTableRow.holds Try.pinned (OpenSpec.ofChange fnExactValidTableWrong)

/-- 'laws.FnExactPhaseOf': WHATEVER THE INPUT: true; the input reads as it did. -/
def fnExactPhaseOfSpec : ChangeSpec := { name := "fnExactPhaseOf", fn := fun _ => fun
  | [d] => { results := [.lit (.bool true)], args := [d] }
  | _ => none }
def fnExactPhaseOfRow : OpenClaim := { program := "ytcbeejlehjicgaa", sum := "bf8ad66013513fe398946c53468ca885642abeae1fc44adc211dc879de13f77c", func := "loop.example/g01227/laws.FnExactPhaseOf", spec := "fnExactPhaseOf", apart := false }
def FnExactPhaseOfSaid : Prop := fnExactPhaseOfRow.holds Try.pinned (OpenSpec.ofChange fnExactPhaseOfSpec)

/-- ITS FALSE NEIGHBOUR: 'it returns false'. Refute it at one input. -/
def fnExactPhaseOfWrong : ChangeSpec := { name := "fnExactPhaseOf", fn := fun _ => fun
  | [d] => { results := [.lit (.bool false)], args := [d] }
  | _ => none }
def FnExactPhaseOfWrongFalsely : Prop := fnExactPhaseOfRow.holds Try.pinned (OpenSpec.ofChange fnExactPhaseOfWrong)

/-- 'laws.FnExactPlaceDetector': WHATEVER THE INPUT: true; the input reads as it did. -/
def fnExactPlaceDetectorSpec : ChangeSpec := { name := "fnExactPlaceDetector", fn := fun _ => fun
  | [d] => { results := [.lit (.bool true)], args := [d] }
  | _ => none }
def fnExactPlaceDetectorRow : OpenClaim := { program := "ytcbeejlehjicgaa", sum := "bf8ad66013513fe398946c53468ca885642abeae1fc44adc211dc879de13f77c", func := "loop.example/g01227/laws.FnExactPlaceDetector", spec := "fnExactPlaceDetector", apart := false }
def FnExactPlaceDetectorSaid : Prop := fnExactPlaceDetectorRow.holds Try.pinned (OpenSpec.ofChange fnExactPlaceDetectorSpec)

/-- ITS FALSE NEIGHBOUR: 'it returns false'. Refute it at one input. -/
def fnExactPlaceDetectorWrong : ChangeSpec := { name := "fnExactPlaceDetector", fn := fun _ => fun
  | [d] => { results := [.lit (.bool false)], args := [d] }
  | _ => none }
def FnExactPlaceDetectorWrongFalsely : Prop := fnExactPlaceDetectorRow.holds Try.pinned (OpenSpec.ofChange fnExactPlaceDetectorWrong)

/-- 'laws.FnExactToCount': WHATEVER THE INPUT: true; the input reads as it did. -/
def fnExactToCountSpec : ChangeSpec := { name := "fnExactToCount", fn := fun _ => fun
  | [d] => { results := [.lit (.bool true)], args := [d] }
  | _ => none }
def fnExactToCountRow : OpenClaim := { program := "ytcbeejlehjicgaa", sum := "bf8ad66013513fe398946c53468ca885642abeae1fc44adc211dc879de13f77c", func := "loop.example/g01227/laws.FnExactToCount", spec := "fnExactToCount", inPlace := ["math.RoundToEven"], apart := false }
def FnExactToCountSaid : Prop := fnExactToCountRow.holds Try.pinned (OpenSpec.ofChange fnExactToCountSpec)

/-- ITS FALSE NEIGHBOUR: 'it returns false'. Refute it at one input. -/
def fnExactToCountWrong : ChangeSpec := { name := "fnExactToCount", fn := fun _ => fun
  | [d] => { results := [.lit (.bool false)], args := [d] }
  | _ => none }
def FnExactToCountWrongFalsely : Prop := fnExactToCountRow.holds Try.pinned (OpenSpec.ofChange fnExactToCountWrong)

/-- 'laws.FnExactValidTallies': WHATEVER THE INPUT: true; the input reads as it did. -/
def fnExactValidTalliesSpec : ChangeSpec := { name := "fnExactValidTallies", fn := fun _ => fun
  | [d] => { results := [.lit (.bool true)], args := [d] }
  | _ => none }
def fnExactValidTalliesRow : OpenClaim := { program := "ytcbeejlehjicgaa", sum := "bf8ad66013513fe398946c53468ca885642abeae1fc44adc211dc879de13f77c", func := "loop.example/g01227/laws.FnExactValidTallies", spec := "fnExactValidTallies", apart := false }
def FnExactValidTalliesSaid : Prop := fnExactValidTalliesRow.holds Try.pinned (OpenSpec.ofChange fnExactValidTalliesSpec)

/-- ITS FALSE NEIGHBOUR: 'it returns false'. Refute it at one input. -/
def fnExactValidTalliesWrong : ChangeSpec := { name := "fnExactValidTallies", fn := fun _ => fun
  | [d] => { results := [.lit (.bool false)], args := [d] }
  | _ => none }
def FnExactValidTalliesWrongFalsely : Prop := fnExactValidTalliesRow.holds Try.pinned (OpenSpec.ofChange fnExactValidTalliesWrong)

/-- 'laws.FnExactIsClear': WHATEVER THE INPUT: true; the input reads as it did. -/
def fnExactIsClearSpec : ChangeSpec := { name := "fnExactIsClear", fn := fun _ => fun
  | [d1, d2] => { results := [.lit (.bool true)], args := [d1, d2] }
  | _ => none }
def fnExactIsClearRow : OpenClaim := { program := "ytcbeejlehjicgaa", sum := "bf8ad66013513fe398946c53468ca885642abeae1fc44adc211dc879de13f77c", func := "loop.example/g01227/laws.FnExactIsClear", spec := "fnExactIsClear", apart := false }
def FnExactIsClearSaid : Prop := fnExactIsClearRow.holds Try.pinned (OpenSpec.ofChange fnExactIsClearSpec)

/-- ITS FALSE NEIGHBOUR: 'it returns false'. Refute it at one input. -/
def fnExactIsClearWrong : ChangeSpec := { name := "fnExactIsClear", fn := fun _ => fun
  | [d1, d2] => { results := [.lit (.bool false)], args := [d1, d2] }
  | _ => none }
def FnExactIsClearWrongFalsely : Prop := fnExactIsClearRow.holds Try.pinned (OpenSpec.ofChange fnExactIsClearWrong)

/-- 'laws.FnExactFirstConflict': WHATEVER THE INPUT: true; the input reads as it did. -/
def fnExactFirstConflictSpec : ChangeSpec := { name := "fnExactFirstConflict", fn := fun _ => fun
  | [d1, d2] => { results := [.lit (.bool true)], args := [d1, d2] }
  | _ => none }
def fnExactFirstConflictRow : OpenClaim := { program := "ytcbeejlehjicgaa", sum := "bf8ad66013513fe398946c53468ca885642abeae1fc44adc211dc879de13f77c", func := "loop.example/g01227/laws.FnExactFirstConflict", spec := "fnExactFirstConflict", apart := false }
def FnExactFirstConflictSaid : Prop := fnExactFirstConflictRow.holds Try.pinned (OpenSpec.ofChange fnExactFirstConflictSpec)

/-- ITS FALSE NEIGHBOUR: 'it returns false'. Refute it at one input. -/
def fnExactFirstConflictWrong : ChangeSpec := { name := "fnExactFirstConflict", fn := fun _ => fun
  | [d1, d2] => { results := [.lit (.bool false)], args := [d1, d2] }
  | _ => none }
def FnExactFirstConflictWrongFalsely : Prop := fnExactFirstConflictRow.holds Try.pinned (OpenSpec.ofChange fnExactFirstConflictWrong)

/- THE SECOND FORM. 'bulk': how many values and letters a reading holds, each counted each time it is reached (what is shared counts as often as it is met; a slice's spare places count too). A statement '..UptoSaid' is the law's where the arguments, and the package variables that the reading takes, are together of bulk at most 1048576: NARROWER than '..Said'. Prove '..Said' where nothing that the law and all that it calls make is longer than what came in: it says more and counts as full. Else prove '..UptoSaid'. A law counts once. -/
mutual
def uptoBulk {H : Type} : DataW H → Nat
  | .lit (.string bytes) => bytes.length + 1
  | .lit _ => 1
  | .nil => 1
  | .ptr d => uptoBulk d + 1
  | .slice elems spare => uptoBulkAll elems + uptoBulkAll spare + 1
  | .agg parts => uptoBulkAll parts + 1
  | .iface _ d => uptoBulk d + 1
  | .map entries => uptoBulkEntries entries + 1
  | .held _ => 1
def uptoBulkAll {H : Type} : List (DataW H) → Nat
  | [] => 0
  | d :: r => uptoBulk d + uptoBulkAll r
def uptoBulkEntries {H : Type} : List (Lit × DataW H) → Nat
  | [] => 0
  | x :: r => uptoBulkEntry x + uptoBulkEntries r
def uptoBulkEntry {H : Type} : Lit × DataW H → Nat
  | (.string bytes, d) => bytes.length + uptoBulk d + 1
  | (_, d) => uptoBulk d + 1
 end
def uptoSmall : (H : Type) → List (DataW H) → Bool := fun _ ds => decide (uptoBulkAll ds ≤ 1048576)
def OpenSpec.upto (s : _root_.Go.ChangeSpec) : _root_.Go.OpenSpec := { _root_.Go.OpenSpec.ofChange s with cond := some uptoSmall }

/-- 'laws.FnExactFirstLight', WHERE WHAT IT READS IS OF BULK AT MOST 1048576: true; the input reads as it did. -/
def fnExactFirstLightUptoRow : OpenClaim := { program := "ytcbeejlehjicgaa", sum := "bf8ad66013513fe398946c53468ca885642abeae1fc44adc211dc879de13f77c", func := "loop.example/g01227/laws.FnExactFirstLight", spec := "fnExactFirstLight", apart := false, narrowed := true }
def FnExactFirstLightUptoSaid : Prop := fnExactFirstLightUptoRow.holds Try.pinned (OpenSpec.upto fnExactFirstLightSpec)

/-- 'laws.FnExactNumberOfPhase', WHERE WHAT IT READS IS OF BULK AT MOST 1048576: true; the input reads as it did. -/
def fnExactNumberOfPhaseUptoRow : OpenClaim := { program := "ytcbeejlehjicgaa", sum := "bf8ad66013513fe398946c53468ca885642abeae1fc44adc211dc879de13f77c", func := "loop.example/g01227/laws.FnExactNumberOfPhase", spec := "fnExactNumberOfPhase", apart := false, narrowed := true }
def FnExactNumberOfPhaseUptoSaid : Prop := fnExactNumberOfPhaseUptoRow.holds Try.pinned (OpenSpec.upto fnExactNumberOfPhaseSpec)

/-- 'laws.FnExactValidDetector', WHERE WHAT IT READS IS OF BULK AT MOST 1048576: true; the input reads as it did. -/
def fnExactValidDetectorUptoRow : OpenClaim := { program := "ytcbeejlehjicgaa", sum := "bf8ad66013513fe398946c53468ca885642abeae1fc44adc211dc879de13f77c", func := "loop.example/g01227/laws.FnExactValidDetector", spec := "fnExactValidDetector", inPlace := ["math.Float32bits", "math.Float64bits"], apart := false, narrowed := true }
def FnExactValidDetectorUptoSaid : Prop := fnExactValidDetectorUptoRow.holds Try.pinned (OpenSpec.upto fnExactValidDetectorSpec)

/-- 'laws.FnExactSameDetector', WHERE WHAT IT READS IS OF BULK AT MOST 1048576: true; the input reads as it did. -/
def fnExactSameDetectorUptoRow : OpenClaim := { program := "ytcbeejlehjicgaa", sum := "bf8ad66013513fe398946c53468ca885642abeae1fc44adc211dc879de13f77c", func := "loop.example/g01227/laws.FnExactSameDetector", spec := "fnExactSameDetector", inPlace := ["math.Float32bits"], apart := false, narrowed := true }
def FnExactSameDetectorUptoSaid : Prop := fnExactSameDetectorUptoRow.holds Try.pinned (OpenSpec.upto fnExactSameDetectorSpec)

/-- 'laws.FnExactValidTable', WHERE WHAT IT READS IS OF BULK AT MOST 1048576: true; the input reads as it did. -/
def fnExactValidTableUptoRow : OpenClaim := { program := "ytcbeejlehjicgaa", sum := "bf8ad66013513fe398946c53468ca885642abeae1fc44adc211dc879de13f77c", func := "loop.example/g01227/laws.FnExactValidTable", spec := "fnExactValidTable", apart := false, narrowed := true }
def FnExactValidTableUptoSaid : Prop := fnExactValidTableUptoRow.holds Try.pinned (OpenSpec.upto fnExactValidTableSpec)

/-- 'laws.FnExactPhaseOf', WHERE WHAT IT READS IS OF BULK AT MOST 1048576: true; the input reads as it did. -/
def fnExactPhaseOfUptoRow : OpenClaim := { program := "ytcbeejlehjicgaa", sum := "bf8ad66013513fe398946c53468ca885642abeae1fc44adc211dc879de13f77c", func := "loop.example/g01227/laws.FnExactPhaseOf", spec := "fnExactPhaseOf", apart := false, narrowed := true }
def FnExactPhaseOfUptoSaid : Prop := fnExactPhaseOfUptoRow.holds Try.pinned (OpenSpec.upto fnExactPhaseOfSpec)

/-- 'laws.FnExactPlaceDetector', WHERE WHAT IT READS IS OF BULK AT MOST 1048576: true; the input reads as it did. -/
def fnExactPlaceDetectorUptoRow : OpenClaim := { program := "ytcbeejlehjicgaa", sum := "bf8ad66013513fe398946c53468ca885642abeae1fc44adc211dc879de13f77c", func := "loop.example/g01227/laws.FnExactPlaceDetector", spec := "fnExactPlaceDetector", apart := false, narrowed := true }
def FnExactPlaceDetectorUptoSaid : Prop := fnExactPlaceDetectorUptoRow.holds Try.pinned (OpenSpec.upto fnExactPlaceDetectorSpec)

/-- 'laws.FnExactToCount', WHERE WHAT IT READS IS OF BULK AT MOST 1048576: true; the input reads as it did. -/
def fnExactToCountUptoRow : OpenClaim := { program := "ytcbeejlehjicgaa", sum := "bf8ad66013513fe398946c53468ca885642abeae1fc44adc211dc879de13f77c", func := "loop.example/g01227/laws.FnExactToCount", spec := "fnExactToCount", inPlace := ["math.RoundToEven"], apart := false, narrowed := true }
def FnExactToCountUptoSaid : Prop := fnExactToCountUptoRow.holds Try.pinned (OpenSpec.upto fnExactToCountSpec)

/-- 'laws.FnExactValidTallies', WHERE WHAT IT READS IS OF BULK AT MOST 1048576: true; the input reads as it did. -/
def fnExactValidTalliesUptoRow : OpenClaim := { program := "ytcbeejlehjicgaa", sum := "bf8ad66013513fe398946c53468ca885642abeae1fc44adc211dc879de13f77c", func := "loop.example/g01227/laws.FnExactValidTallies", spec := "fnExactValidTallies", apart := false, narrowed := true }
def FnExactValidTalliesUptoSaid : Prop := fnExactValidTalliesUptoRow.holds Try.pinned (OpenSpec.upto fnExactValidTalliesSpec)

/-- 'laws.FnExactIsClear', WHERE WHAT IT READS IS OF BULK AT MOST 1048576: true; the input reads as it did. -/
def fnExactIsClearUptoRow : OpenClaim := { program := "ytcbeejlehjicgaa", sum := "bf8ad66013513fe398946c53468ca885642abeae1fc44adc211dc879de13f77c", func := "loop.example/g01227/laws.FnExactIsClear", spec := "fnExactIsClear", apart := false, narrowed := true }
def FnExactIsClearUptoSaid : Prop := fnExactIsClearUptoRow.holds Try.pinned (OpenSpec.upto fnExactIsClearSpec)

/-- 'laws.FnExactFirstConflict', WHERE WHAT IT READS IS OF BULK AT MOST 1048576: true; the input reads as it did. -/
def fnExactFirstConflictUptoRow : OpenClaim := { program := "ytcbeejlehjicgaa", sum := "bf8ad66013513fe398946c53468ca885642abeae1fc44adc211dc879de13f77c", func := "loop.example/g01227/laws.FnExactFirstConflict", spec := "fnExactFirstConflict", apart := false, narrowed := true }
def FnExactFirstConflictUptoSaid : Prop := fnExactFirstConflictUptoRow.holds Try.pinned (OpenSpec.upto fnExactFirstConflictSpec)

end Rows
end Go.Proofs.Ytcbeejlehjicgaa
