/- Arithmetic that is told. -/
import Derived.Test.YtpffdjleonkdoaaCc
namespace Go.Proofs.Ytpffdjleonkdoaa
open Go.RowKit
set_option linter.unusedSimpArgs false
set_option linter.unusedVariables false

/-! ### Arithmetic that is told -/
structure DivT (k : FloatKind) (a b c : Nat) : Prop where
  e : fdiv k a b = c
structure MulT (k : FloatKind) (a b c : Nat) : Prop where
  e : fmul k a b = c
structure AddT (k : FloatKind) (a b c : Nat) : Prop where
  e : fadd k a b = c
structure SubT (k : FloatKind) (a b c : Nat) : Prop where
  e : fsub k a b = c
section
variable {P : Program} {ops l : List Oper} {K : St → Prop} {n : Nat} {t : Env} {m : Mem} {d ty : Nat} {pos : String} {af : Array Edge}
theorem o_fdivE {xt yt : TypeId} {x y : Operand} {k : FloatKind} {a b c : Nat} (hx : evalA t x = .float k a := by (conv => (lhs; whnf)); first | done | rfl) (hy : evalA t y = .float k b := by (conv => (lhs; whnf)); first | done | rfl) (he : DivT k a b c := by assumption) (hd : Nat.blt d n = true := by rfl) (h : AOs P ops l K ⟨n, (d, .float k c) :: t, m⟩) :
    AOs P ops (⟨some d, .binOp .quo xt x y yt, ty, pos, af, none⟩ :: l) K ⟨n, t, m⟩ := o_fdiv hx hy hd (by rw [he.e]; exact h)
theorem o_fmulE {xt yt : TypeId} {x y : Operand} {k : FloatKind} {a b c : Nat} (hx : evalA t x = .float k a := by (conv => (lhs; whnf)); first | done | rfl) (hy : evalA t y = .float k b := by (conv => (lhs; whnf)); first | done | rfl) (he : MulT k a b c := by assumption) (hd : Nat.blt d n = true := by rfl) (h : AOs P ops l K ⟨n, (d, .float k c) :: t, m⟩) :
    AOs P ops (⟨some d, .binOp .mul xt x y yt, ty, pos, af, none⟩ :: l) K ⟨n, t, m⟩ := o_fmul hx hy hd (by rw [he.e]; exact h)
theorem o_faddE {xt yt : TypeId} {x y : Operand} {k : FloatKind} {a b c : Nat} (hx : evalA t x = .float k a := by (conv => (lhs; whnf)); first | done | rfl) (hy : evalA t y = .float k b := by (conv => (lhs; whnf)); first | done | rfl) (he : AddT k a b c := by assumption) (hd : Nat.blt d n = true := by rfl) (h : AOs P ops l K ⟨n, (d, .float k c) :: t, m⟩) :
    AOs P ops (⟨some d, .binOp .add xt x y yt, ty, pos, af, none⟩ :: l) K ⟨n, t, m⟩ := o_fadd hx hy hd (by rw [he.e]; exact h)
theorem o_fsubE {xt yt : TypeId} {x y : Operand} {k : FloatKind} {a b c : Nat} (hx : evalA t x = .float k a := by (conv => (lhs; whnf)); first | done | rfl) (hy : evalA t y = .float k b := by (conv => (lhs; whnf)); first | done | rfl) (he : SubT k a b c := by assumption) (hd : Nat.blt d n = true := by rfl) (h : AOs P ops l K ⟨n, (d, .float k c) :: t, m⟩) :
    AOs P ops (⟨some d, .binOp .sub xt x y yt, ty, pos, af, none⟩ :: l) K ⟨n, t, m⟩ := o_fsub hx hy hd (by rw [he.e]; exact h)
end
theorem told_div {k : FloatKind} {a b : Nat} : DivT k a b (fdiv k a b) := ⟨rfl⟩
theorem told_mul {k : FloatKind} {a b : Nat} : MulT k a b (fmul k a b) := ⟨rfl⟩
theorem told_add {k : FloatKind} {a b : Nat} : AddT k a b (fadd k a b) := ⟨rfl⟩
theorem told_sub {k : FloatKind} {a b : Nat} : SubT k a b (fsub k a b) := ⟨rfl⟩
end Go.Proofs.Ytpffdjleonkdoaa
