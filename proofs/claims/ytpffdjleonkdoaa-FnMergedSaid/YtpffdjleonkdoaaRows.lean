/-
  No cell of these rows narrows 'for every input' (looked for: loops, veiled, ifaces, maps, wideKeys, modest, calm, conditions, laid).
  DERIVED. THE GIVEN ROWS OF THIS SEAT. 4 by the template 'for every input the law returns true; each argument reads behind the call as it read before'; 0 by the template 'total and deterministic' (their statements: YtpffdjleonkdoaaTotals.lean).
  GIVEN WITH THE SEED: the statements are not yours to turn. If you find one false, say at which input.
  Laid BY PROGRAM, IN A SANDBOX (cutbox-rows.mjs): the forced cells as the released guide's own fill.sh prints them over the translation 408667d07dfcb940… (all of the seat's roots in one cut). By AI agents, Wed Nov 11 2026. No macro, syntax, notation, axiom, sorry.
-/
import Derived.Test.YtpffdjleonkdoaaChecked
import GoSem.Claim
import GoSem.ClaimJoined
import GoSem.ClaimMapViews
import Derived.JoinedTies
import Derived.KernelRfl
namespace Go.Proofs.Ytpffdjleonkdoaa
/- THE CELL 'sum', in the pinned program and in every row, IS THE sha256 OF THE DUMP (.gsa) THAT YtpffdjleonkdoaaProg.lean LOADS. Nothing in Lean hashes anything: it is a label: what it is worth is what the hold of that sum in a sandbox is worth. -/
noncomputable def Try.pinned : Pinned := { name := "ytpffdjleonkdoaa", sum := "408667d07dfcb9402603194a2d35612edf9b4a1dfda54e8c7fcb7213f78fc7a6", checked := Try.checked }
namespace Rows
def none {H : Type} : Left H := { results := [], args := [] }

/-- 'laws.FnEmptied': WHATEVER THE INPUT: true; the input reads as it did. -/
def fnEmptiedSpec : ChangeSpec := { name := "fnEmptied", fn := fun _ => fun
  | [d1, d2] => { results := [.lit (.bool true)], args := [d1, d2] }
  | _ => none }
def fnEmptiedRow : OpenClaim := { program := "ytpffdjleonkdoaa", sum := "408667d07dfcb9402603194a2d35612edf9b4a1dfda54e8c7fcb7213f78fc7a6", func := "loop.example/g01227/laws.FnEmptied", spec := "fnEmptied", inPlace := ["math.Float64bits", "math.Float32bits"], unfollowed := true, recurses := true, apart := false }
def FnEmptiedSaid : Prop := fnEmptiedRow.holds Try.pinned (OpenSpec.ofChange fnEmptiedSpec)

/-- ITS FALSE NEIGHBOUR: 'it returns false'. Refute it at one input. -/
def fnEmptiedWrong : ChangeSpec := { name := "fnEmptied", fn := fun _ => fun
  | [d1, d2] => { results := [.lit (.bool false)], args := [d1, d2] }
  | _ => none }
def FnEmptiedWrongFalsely : Prop := fnEmptiedRow.holds Try.pinned (OpenSpec.ofChange fnEmptiedWrong)

/-- 'laws.FnStill': WHATEVER THE INPUT: true; the input reads as it did. -/
def fnStillSpec : ChangeSpec := { name := "fnStill", fn := fun _ => fun
  | [d1, d2] => { results := [.lit (.bool true)], args := [d1, d2] }
  | _ => none }
def fnStillRow : OpenClaim := { program := "ytpffdjleonkdoaa", sum := "408667d07dfcb9402603194a2d35612edf9b4a1dfda54e8c7fcb7213f78fc7a6", func := "loop.example/g01227/laws.FnStill", spec := "fnStill", inPlace := ["math.Float64bits"], unfollowed := true, recurses := true, apart := false }
def FnStillSaid : Prop := fnStillRow.holds Try.pinned (OpenSpec.ofChange fnStillSpec)

/-- ITS FALSE NEIGHBOUR: 'it returns false'. Refute it at one input. -/
def fnStillWrong : ChangeSpec := { name := "fnStill", fn := fun _ => fun
  | [d1, d2] => { results := [.lit (.bool false)], args := [d1, d2] }
  | _ => none }
def FnStillWrongFalsely : Prop := fnStillRow.holds Try.pinned (OpenSpec.ofChange fnStillWrong)

/-- 'laws.FnSent': WHATEVER THE INPUT: true; the input reads as it did. -/
def fnSentSpec : ChangeSpec := { name := "fnSent", fn := fun _ => fun
  | [d1, d2] => { results := [.lit (.bool true)], args := [d1, d2] }
  | _ => none }
def fnSentRow : OpenClaim := { program := "ytpffdjleonkdoaa", sum := "408667d07dfcb9402603194a2d35612edf9b4a1dfda54e8c7fcb7213f78fc7a6", func := "loop.example/g01227/laws.FnSent", spec := "fnSent", inPlace := ["math.Float64bits", "math.Float32bits"], unfollowed := true, recurses := true, apart := false }
def FnSentSaid : Prop := fnSentRow.holds Try.pinned (OpenSpec.ofChange fnSentSpec)

/-- ITS FALSE NEIGHBOUR: 'it returns false'. Refute it at one input. -/
def fnSentWrong : ChangeSpec := { name := "fnSent", fn := fun _ => fun
  | [d1, d2] => { results := [.lit (.bool false)], args := [d1, d2] }
  | _ => none }
def FnSentWrongFalsely : Prop := fnSentRow.holds Try.pinned (OpenSpec.ofChange fnSentWrong)

/-- 'laws.FnMerged': WHATEVER THE INPUT: true; the input reads as it did. -/
def fnMergedSpec : ChangeSpec := { name := "fnMerged", fn := fun _ => fun
  | [d1, d2] => { results := [.lit (.bool true)], args := [d1, d2] }
  | _ => none }
def fnMergedRow : OpenClaim := { program := "ytpffdjleonkdoaa", sum := "408667d07dfcb9402603194a2d35612edf9b4a1dfda54e8c7fcb7213f78fc7a6", func := "loop.example/g01227/laws.FnMerged", spec := "fnMerged", inPlace := ["math.Float64bits", "math.Float32bits"], unfollowed := true, recurses := true, apart := false }
def FnMergedSaid : Prop := fnMergedRow.holds Try.pinned (OpenSpec.ofChange fnMergedSpec)

/-- ITS FALSE NEIGHBOUR: 'it returns false'. Refute it at one input. -/
def fnMergedWrong : ChangeSpec := { name := "fnMerged", fn := fun _ => fun
  | [d1, d2] => { results := [.lit (.bool false)], args := [d1, d2] }
  | _ => none }
def FnMergedWrongFalsely : Prop := fnMergedRow.holds Try.pinned (OpenSpec.ofChange fnMergedWrong)

/- THE SECOND FORM. 'bulk': how many values and letters a reading holds, each counted each time it is reached (what is shared counts as often as it is met; a slice's spare places count too). A statement '..UptoSaid' is the law's where the arguments, and the package variables that the reading takes, are together of bulk at most 1048576: NARROWER than '..Said'. Prove '..Said' where nothing that the law and all that it calls make is longer than what came in: it says more and counts as full. Else prove '..UptoSaid'. A law counts once. -/
mutual
def uptoBulk {H : Type} : DataW H → Nat
  | .lit (.string bytes) => bytes.length + 1
  | .lit _ => 1
  | .nil => 1
  | .ptr d => uptoBulk d + 1
  | .slice elems spare => uptoBulkAll elems + uptoBulkAll spare + 1
  | .agg parts => uptoBulkAll parts + 1
  | .iface _ d => uptoBulk d + 1
  | .map entries => uptoBulkEntries entries + 1
  | .held _ => 1
def uptoBulkAll {H : Type} : List (DataW H) → Nat
  | [] => 0
  | d :: r => uptoBulk d + uptoBulkAll r
def uptoBulkEntries {H : Type} : List (Lit × DataW H) → Nat
  | [] => 0
  | x :: r => uptoBulkEntry x + uptoBulkEntries r
def uptoBulkEntry {H : Type} : Lit × DataW H → Nat
  | (.string bytes, d) => bytes.length + uptoBulk d + 1
  | (_, d) => uptoBulk d + 1
 end
def uptoSmall : (H : Type) → List (DataW H) → Bool := fun _ ds => decide (uptoBulkAll ds ≤ 1048576)
def OpenSpec.upto (s : _root_.Go.ChangeSpec) : _root_.Go.OpenSpec := { _root_.Go.OpenSpec.ofChange s with cond := some uptoSmall }

/-- 'laws.FnEmptied', WHERE WHAT IT READS IS OF BULK AT MOST 1048576: true; the input reads as it did. -/
def fnEmptiedUptoRow : OpenClaim := { program := "ytpffdjleonkdoaa", sum := "408667d07dfcb9402603194a2d35612edf9b4a1dfda54e8c7fcb7213f78fc7a6", func := "loop.example/g01227/laws.FnEmptied", spec := "fnEmptied", inPlace := ["math.Float64bits", "math.Float32bits"], unfollowed := true, recurses := true, apart := false, narrowed := true }
def FnEmptiedUptoSaid : Prop := fnEmptiedUptoRow.holds Try.pinned (OpenSpec.upto fnEmptiedSpec)

/-- 'laws.FnStill', WHERE WHAT IT READS IS OF BULK AT MOST 1048576: true; the input reads as it did. -/
def fnStillUptoRow : OpenClaim := { program := "ytpffdjleonkdoaa", sum := "408667d07dfcb9402603194a2d35612edf9b4a1dfda54e8c7fcb7213f78fc7a6", func := "loop.example/g01227/laws.FnStill", spec := "fnStill", inPlace := ["math.Float64bits"], unfollowed := true, recurses := true, apart := false, narrowed := true }
def FnStillUptoSaid : Prop := fnStillUptoRow.holds Try.pinned (OpenSpec.upto fnStillSpec)

/-- 'laws.FnSent', WHERE WHAT IT READS IS OF BULK AT MOST 1048576: true; the input reads as it did. -/
def fnSentUptoRow : OpenClaim := { program := "ytpffdjleonkdoaa", sum := "408667d07dfcb9402603194a2d35612edf9b4a1dfda54e8c7fcb7213f78fc7a6", func := "loop.example/g01227/laws.FnSent", spec := "fnSent", inPlace := ["math.Float64bits", "math.Float32bits"], unfollowed := true, recurses := true, apart := false, narrowed := true }
def FnSentUptoSaid : Prop := fnSentUptoRow.holds Try.pinned (OpenSpec.upto fnSentSpec)

/-- 'laws.FnMerged', WHERE WHAT IT READS IS OF BULK AT MOST 1048576: true; the input reads as it did. -/
def fnMergedUptoRow : OpenClaim := { program := "ytpffdjleonkdoaa", sum := "408667d07dfcb9402603194a2d35612edf9b4a1dfda54e8c7fcb7213f78fc7a6", func := "loop.example/g01227/laws.FnMerged", spec := "fnMerged", inPlace := ["math.Float64bits", "math.Float32bits"], unfollowed := true, recurses := true, apart := false, narrowed := true }
def FnMergedUptoSaid : Prop := fnMergedUptoRow.holds Try.pinned (OpenSpec.upto fnMergedSpec)

end Rows
end Go.Proofs.Ytpffdjleonkdoaa
