/- Comparisons whose outcome is known; results of five. No program in sight. -/
import Derived.Test.YtddmclkijheicaaGreatDoorAf

namespace Go.Proofs.YtddmclkijheicaaGreatDoor
open Go.RowKit
set_option linter.unusedSimpArgs false
set_option linter.unusedVariables false

section
variable {P : Program} {ops l : List Oper} {K : St → Prop} {n : Nat} {t : Env} {m : Mem} {d ty : Nat} {pos : String} {af : Array Edge}
theorem o_fneS {xt yt : TypeId} {x y : Operand} {k : FloatKind} {a : Nat} (hx : evalA t x = .float k a := by (conv => (lhs; whnf)); first | done | rfl) (hy : evalA t y = .float k a := by (conv => (lhs; whnf)); first | done | rfl) (hn : fnan k a = false := by assumption) (hd : Nat.blt d n = true := by rfl) (h : AOs P ops l K ⟨n, (d, .bool false) :: t, m⟩) :
    AOs P ops (⟨some d, .binOp .neq xt x y yt, ty, pos, af, none⟩ :: l) K ⟨n, t, m⟩ := o_fisnan hx hy hd (by rw [hn]; exact h)
theorem o_fneC {xt yt : TypeId} {x y : Operand} {k : FloatKind} {a b : Nat} {c : Bool} (hx : evalA t x = .float k a := by (conv => (lhs; whnf)); first | done | rfl) (hy : evalA t y = .float k b := by (conv => (lhs; whnf)); first | done | rfl) (hc : feq k a b = c := by assumption) (hd : Nat.blt d n = true := by rfl) (h : AOs P ops l K ⟨n, (d, .bool (!c)) :: t, m⟩) :
    AOs P ops (⟨some d, .binOp .neq xt x y yt, ty, pos, af, none⟩ :: l) K ⟨n, t, m⟩ := o_fne hx hy hd (by rw [hc]; exact h)
theorem o_feqC {xt yt : TypeId} {x y : Operand} {k : FloatKind} {a b : Nat} {c : Bool} (hx : evalA t x = .float k a := by (conv => (lhs; whnf)); first | done | rfl) (hy : evalA t y = .float k b := by (conv => (lhs; whnf)); first | done | rfl) (hc : feq k a b = c := by assumption) (hd : Nat.blt d n = true := by rfl) (h : AOs P ops l K ⟨n, (d, .bool c) :: t, m⟩) :
    AOs P ops (⟨some d, .binOp .eql xt x y yt, ty, pos, af, none⟩ :: l) K ⟨n, t, m⟩ := o_feq hx hy hd (by rw [hc]; exact h)
theorem o_fltC {xt yt : TypeId} {x y : Operand} {k : FloatKind} {a b : Nat} {c : Bool} (hx : evalA t x = .float k a := by (conv => (lhs; whnf)); first | done | rfl) (hy : evalA t y = .float k b := by (conv => (lhs; whnf)); first | done | rfl) (hc : flt k a b = c := by assumption) (hd : Nat.blt d n = true := by rfl) (h : AOs P ops l K ⟨n, (d, .bool c) :: t, m⟩) :
    AOs P ops (⟨some d, .binOp .lss xt x y yt, ty, pos, af, none⟩ :: l) K ⟨n, t, m⟩ := o_flt hx hy hd (by rw [hc]; exact h)
theorem o_fgtC {xt yt : TypeId} {x y : Operand} {k : FloatKind} {a b : Nat} {c : Bool} (hx : evalA t x = .float k a := by (conv => (lhs; whnf)); first | done | rfl) (hy : evalA t y = .float k b := by (conv => (lhs; whnf)); first | done | rfl) (hc : fgt k a b = c := by assumption) (hd : Nat.blt d n = true := by rfl) (h : AOs P ops l K ⟨n, (d, .bool c) :: t, m⟩) :
    AOs P ops (⟨some d, .binOp .gtr xt x y yt, ty, pos, af, none⟩ :: l) K ⟨n, t, m⟩ := o_fgt hx hy hd (by rw [hc]; exact h)
theorem o_fleC {xt yt : TypeId} {x y : Operand} {k : FloatKind} {a b : Nat} {c : Bool} (hx : evalA t x = .float k a := by (conv => (lhs; whnf)); first | done | rfl) (hy : evalA t y = .float k b := by (conv => (lhs; whnf)); first | done | rfl) (hc : fle k a b = c := by assumption) (hd : Nat.blt d n = true := by rfl) (h : AOs P ops l K ⟨n, (d, .bool c) :: t, m⟩) :
    AOs P ops (⟨some d, .binOp .leq xt x y yt, ty, pos, af, none⟩ :: l) K ⟨n, t, m⟩ := o_fle hx hy hd (by rw [hc]; exact h)
theorem o_fgeC {xt yt : TypeId} {x y : Operand} {k : FloatKind} {a b : Nat} {c : Bool} (hx : evalA t x = .float k a := by (conv => (lhs; whnf)); first | done | rfl) (hy : evalA t y = .float k b := by (conv => (lhs; whnf)); first | done | rfl) (hc : fge k a b = c := by assumption) (hd : Nat.blt d n = true := by rfl) (h : AOs P ops l K ⟨n, (d, .bool c) :: t, m⟩) :
    AOs P ops (⟨some d, .binOp .geq xt x y yt, ty, pos, af, none⟩ :: l) K ⟨n, t, m⟩ := o_fge hx hy hd (by rw [hc]; exact h)
end
section
variable {P : Program} {fn : Func} {s : St} {x1 x2 x3 x4 x5 : ResultVar} {v1 v2 v3 v4 v5 v0 : Value} {M T : Mem}
end
end Go.Proofs.YtddmclkijheicaaGreatDoor
