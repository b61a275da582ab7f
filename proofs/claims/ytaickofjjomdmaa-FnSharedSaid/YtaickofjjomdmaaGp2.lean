/- The greatest phases: what both give. -/
import Derived.Test.YtaickofjjomdmaaGp
namespace Go.Proofs.Ytaickofjjomdmaa
open Go.RowKit
attribute [local irreducible] AW AOs AO AQ AQW thenA inBlockA postA ACalls Pure
set_option linter.unusedSimpArgs false

abbrev gF (c : Nat → Bool) (q : Nat) : Nat := (gL c 256).getD q 0
abbrev phRows (n : Nat) (f : Nat → Nat) : List Value := rows n (fun q => tab 8 fun i => .bool (nP (f q) i))
theorem flat_phRows {n : Nat} {f : Nat → Nat} : ∀ c ∈ phRows n f, Flat c := flat_rows fun i => (by repeat' (first | exact Flat.bool _ | exact Flat.int _ _ | exact Flat.float _ _ | exact Flat.string _ | exact flat_nil | exact flat_tabL (fun _ => Flat.bool _) | exact flat_tabL (fun _ => Flat.int _ _) | exact flat_tabL (fun _ => Flat.float _ _) | refine flat_tuple ?_ | refine flat_agg ?_ | refine flat_cons ?_ ?_ | refine flat_append ?_ ?_))
end Go.Proofs.Ytaickofjjomdmaa
