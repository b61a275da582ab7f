/- A byte of a constant string. -/
import Derived.Test.YtafakhhcgbkfoaaDoorMu
namespace Go.Proofs.YtafakhhcgbkfoaaDoor
open Go.RowKit
attribute [local irreducible] AW AOs AO AQ AQW thenA inBlockA postA ACalls Pure
set_option linter.unusedSimpArgs false
set_option linter.unusedVariables false
set_option linter.unusedSectionVars false

section
variable {P : Program} {ops l : List Oper} {K : St → Prop} {n : Nat} {t : Env} {m : Mem} {d ty : Nat} {pos : String} {af : Array Edge}
theorem o_ixStr {xt : TypeId} {x ix : Operand} {s : ByteArray} {ik : IntKind} {i : Int} {b : UInt8} {z : Int} (hu : P.underlying xt = some .string) (hx : evalA t x = .string s) (hi : evalA t ix = .int ik i := by (conv => (lhs; whnf)); first | done | rfl) (h0 : 0 ≤ i := by omega) (hb : s[i.toNat]? = some b) (hz : ((b.toNat : Nat) : Int) = z) (hd : Nat.blt d n = true := by rfl)
    (h : AOs P ops l K ⟨n, (d, .int .u8 z) :: t, m⟩) : AOs P ops (⟨some d, .index xt x ix, ty, pos, af, none⟩ :: l) K ⟨n, t, m⟩ :=
  AOs.val (v := .int .u8 z) rfl hd (fun B0 w0 r a w hs => by
    have hx1 := hs.eval x
    have hi1 := hs.eval ix
    rw [hx] at hx1
    rw [hi] at hi1
    have hx2 := hx1.string_inv
    have hi2 := hi1.int_inv
    refine ⟨.int .u8 z, ?_, VR.int r _ _⟩
    rw [← hz]
    simp [execOp, hx2, hi2, Instr.index, asIntOf, run_underlying hu, h0, hb]) h
end
end Go.Proofs.YtafakhhcgbkfoaaDoor
