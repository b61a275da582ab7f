/- A slice of an array that lies in memory. No program in sight. -/
import Derived.Test.YtddmclkijheicaaDoorMu
namespace Go.Proofs.YtddmclkijheicaaDoor
open Go.RowKit
set_option linter.unusedSimpArgs false
set_option linter.unusedVariables false

section
variable {P : Program} {ops l : List Oper} {K : St → Prop} {n : Nat} {t : Env} {m : Mem} {d ty : Nat} {pos : String} {af : Array Edge}
theorem o_slArr {at_ len k e : Nat} [ha : ArrT P at_ len k e] {x : Operand} {j o : Nat} (hx : evalA t x = .pointer (some ⟨j, o, none⟩) := by (conv => (lhs; whnf)); first | done | rfl) (hl : len ≠ 0 := by decide) (hd : Nat.blt d n = true := by rfl)
    (h : AOs P ops l K ⟨n, (d, .slice (some ⟨j, o, none⟩) len len) :: t, m⟩) : AOs P ops (⟨some d, .slice at_ x none none none, ty, pos, af, none⟩ :: l) K ⟨n, t, m⟩ :=
  AOs.val (v := .slice (some ⟨j, o, none⟩) len len) rfl hd (fun B0 w0 r a w hs => by
    have hx1 := hs.eval x
    rw [hx] at hx1
    obtain ⟨c, z, he, hr⟩ := hx1.ptr_inv
    obtain ⟨hu, hsz⟩ := arr_facts (P := P) (at_ := at_)
    refine ⟨.slice (some ⟨c, zo none z + o, none⟩) len len, ?_, .base ⟨c, z, len, rfl, hr, .inl ⟨rfl, rfl⟩⟩⟩
    simp [execOp, he, Instr.sliceAt, Instr.sureAddr, Instr.sliceBounds, Instr.sliceBound, run_underlying hu, hsz, addr_add, hl]) h
end
end Go.Proofs.YtddmclkijheicaaDoor
