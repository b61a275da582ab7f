/- The clean rules, operation by operation. No program in sight. -/
import Derived.Test.YtjghdagcmombnaaAbs
import Derived.Laws.Rows
import Derived.Laws.CopyRow
import Derived.Laws.IdiomCopy

namespace Go.Proofs.Ytjghdagcmombnaa
open Go.RowKit

inductive TK where
  | one
  | agg (n : Nat)
  deriving DecidableEq

/-- How a type lies in memory. -/
def tk (P : Program) (t : TypeId) : Option TK :=
  match P.underlying t, P.info? t with
  | some (.struct _), some i => some (.agg i.size)
  | some (.array _ _), some i => some (.agg i.size)
  | some _, some _ => some .one
  | _, _ => none

class TyK (P : Program) (t : TypeId) (k : outParam TK) : Prop where
  out : tk P t = some k

/-- A type's zero value. -/
class TyZ (P : Program) (t : TypeId) (v : outParam Value) : Prop where
  out : (P.info? t).bind (·.zero) = some v
  ok : constOk v = true

/-- A field's place. -/
def fldAt (P : Program) (s f : Nat) : Option Nat :=
  match P.underlying s with
  | some (.struct fs) => match fs[f]? with
    | some x => match P.info? x.type with
      | some i => if i.size = 0 then none else some x.offset
      | none => none
    | none => none
  | _ => none
class FldAt (P : Program) (s f : Nat) (o : outParam Nat) : Prop where
  out : fldAt P s f = some o

def arrAt (P : Program) (t : Nat) : Option (Nat × Nat × Nat) :=
  match P.underlying t with
  | some (.array n e) => match P.info? e with
    | some i => some (n, i.size, e)
    | none => none
  | _ => none
/-- An array type: how many elements, of how many cells, of which type. -/
class ArrT (P : Program) (t : Nat) (n k e : outParam Nat) : Prop where
  out : arrAt P t = some (n, k, e)
  big : 1 < n

def slAt (P : Program) (t : Nat) : Option (Nat × Nat × Nat) :=
  match P.underlying t with
  | some (.slice e) => match P.info? e with
    | some i => some (i.size, i.bytes, e)
    | none => none
  | _ => none
/-- A slice type: its elements' cells and bytes, and their type. -/
class SlT (P : Program) (t : Nat) (k b e : outParam Nat) : Prop where
  out : slAt P t = some (k, b, e)

section
variable {P : Program} {ops l : List Oper} {K : St → Prop} {n : Nat} {t : Env} {m : Mem} {d ty : Nat} {pos : String} {af : Array Edge}

theorem AOs.of_AO {o : Oper} {s : St} (hg : o.guard = none) (h : AO P o (AOs P ops l K) s) : AOs P ops (o :: l) K s := by
  unfold AOs wantA
  rw [hg]
  exact h

theorem AOs.nil {s : St} (h : K s) : AOs P ops [] K s := h

theorem AOs.val {o : Oper} {v : Value} {s : St} (hg : o.guard = none) (hd : dlt o.dst s.n = true)
    (hrun : ∀ B0 w0 r a w, SimSt B0 w0 r s a w → ∃ d, (execOp a.eval o).run P w = .ok (.value d) w ∧ VR r v d) (h : AOs P ops l K (s.put o.dst v)) : AOs P ops (o :: l) K s := by
  refine AOs.of_AO hg fun B0 w0 r a w Q' hs => ?_
  obtain ⟨x, hx, hv⟩ := hrun B0 w0 r a w hs
  unfold Oper.wp
  rw [hx]
  exact ⟨r, _, Ext.refl r, hs.put (Ext.refl r) hs.sim hd hv, h⟩

/-! Guards. -/
theorem g_yes {op : Op} {dst : Option Nat} {j : Nat} {b : Bool} {g : Nat} (hj : (ops[j]?).bind (·.dst) = some g := by rfl) (hx : look t g = .bool b := by (conv => (lhs; whnf)); first | done | rfl)
    (h : AOs P ops (⟨dst, op, ty, pos, af, none⟩ :: l) K ⟨n, t, m⟩) : AOs P ops (⟨dst, op, ty, pos, af, some (j, b)⟩ :: l) K ⟨n, t, m⟩ := by
  unfold AOs wantA at h ⊢
  simp only [hj, hx, beq_self_eq_true]
  exact h
theorem g_no {op : Op} {d j : Nat} {b x : Bool} {g : Nat} (hj : (ops[j]?).bind (·.dst) = some g := by rfl) (hx : look t g = .bool x := by (conv => (lhs; whnf)); first | done | rfl) (hb : x = (!b) := by rfl) (hd : Nat.blt d n = true := by rfl)
    (h : AOs P ops l K ⟨n, (d, undef) :: t, m⟩) : AOs P ops (⟨some d, op, ty, pos, af, some (j, b)⟩ :: l) K ⟨n, t, m⟩ := by
  unfold AOs wantA
  have e2 : (x == b) = false := by subst hb; cases b <;> rfl
  simp only [hj, hx, e2]
  exact ⟨hd, h⟩
theorem g_undef {op : Op} {d j : Nat} {b : Bool} {g : Nat} {xs : Array Value} (hj : (ops[j]?).bind (·.dst) = some g := by rfl) (hx : look t g = .tuple xs := by (conv => (lhs; whnf)); first | done | rfl) (hd : Nat.blt d n = true := by rfl)
    (h : AOs P ops l K ⟨n, (d, undef) :: t, m⟩) : AOs P ops (⟨some d, op, ty, pos, af, some (j, b)⟩ :: l) K ⟨n, t, m⟩ := by
  unfold AOs wantA
  simp only [hj, hx]
  exact ⟨hd, h⟩
theorem g_true {op : Op} {d j : Nat} {x : Bool} {g : Nat} (hj : (ops[j]?).bind (·.dst) = some g := by rfl) (hx : look t g = .bool x := by (conv => (lhs; whnf)); first | done | rfl) (hd : Nat.blt d n = true := by rfl)
    (h1 : x = true → AOs P ops (⟨some d, op, ty, pos, af, none⟩ :: l) K ⟨n, t, m⟩)
    (h0 : x = false → AOs P ops l K ⟨n, (d, undef) :: t, m⟩) : AOs P ops (⟨some d, op, ty, pos, af, some (j, true)⟩ :: l) K ⟨n, t, m⟩ := by
  cases x with
  | true => exact g_yes hj hx (h1 rfl)
  | false => exact g_no hj hx rfl hd (h0 rfl)
theorem g_false {op : Op} {d j : Nat} {x : Bool} {g : Nat} (hj : (ops[j]?).bind (·.dst) = some g := by rfl) (hx : look t g = .bool x := by (conv => (lhs; whnf)); first | done | rfl) (hd : Nat.blt d n = true := by rfl)
    (h1 : x = true → AOs P ops l K ⟨n, (d, undef) :: t, m⟩)
    (h0 : x = false → AOs P ops (⟨some d, op, ty, pos, af, none⟩ :: l) K ⟨n, t, m⟩) : AOs P ops (⟨some d, op, ty, pos, af, some (j, false)⟩ :: l) K ⟨n, t, m⟩ := by
  cases x with
  | false => exact g_yes hj hx (h0 rfl)
  | true => exact g_no hj hx rfl hd (h1 rfl)

theorem o_move {x : Operand} {v : Value} (hv : evalA t x = v := by (conv => (lhs; whnf)); first | done | rfl) (hd : Nat.blt d n = true := by rfl) (h : AOs P ops l K ⟨n, (d, v) :: t, m⟩) :
    AOs P ops (⟨some d, .move x, ty, pos, af, none⟩ :: l) K ⟨n, t, m⟩ :=
  AOs.val (v := v) rfl hd (fun _ _ r a w hs => ⟨a.eval x, rfl, by have := hs.eval x; rw [hv] at this; exact this⟩) h
theorem o_assign {x : Operand} {v : Value} (hv : evalA t x = v := by (conv => (lhs; whnf)); first | done | rfl) (hd : Nat.blt d n = true := by rfl) (h : AOs P ops l K ⟨n, (d, v) :: t, m⟩) :
    AOs P ops (⟨some d, .assign x, ty, pos, af, none⟩ :: l) K ⟨n, t, m⟩ :=
  AOs.val (v := v) rfl hd (fun _ _ r a w hs => ⟨a.eval x, rfl, by have := hs.eval x; rw [hv] at this; exact this⟩) h
theorem o_pick {c x y : Operand} {b : Bool} {v : Value} (hc : evalA t c = .bool b := by (conv => (lhs; whnf)); first | done | rfl) (hv : evalA t (bif b then x else y) = v := by (conv => (lhs; whnf)); first | done | rfl) (hd : Nat.blt d n = true := by rfl) (h : AOs P ops l K ⟨n, (d, v) :: t, m⟩) :
    AOs P ops (⟨some d, .pick c x y, ty, pos, af, none⟩ :: l) K ⟨n, t, m⟩ :=
  AOs.val (v := v) rfl hd (fun _ _ r a w hs => by
    have h1 := hs.eval c
    rw [hc] at h1
    have h2 := hs.eval (bif b then x else y)
    rw [hv] at h2
    refine ⟨a.eval (bif b then x else y), ?_, h2⟩
    simp only [execOp, h1.bool_inv, asBool]
    cases b <;> rfl) h

/-- Operations on whole numbers, truth values and texts: what the model gives. -/
theorem o_bin {bop : BinOp} {xt yt : TypeId} {x y : Operand} {u v z : Value} (hx : evalA t x = u) (hy : evalA t y = v) (hu : ∀ r a, VR r u a → a = u) (hv : ∀ r a, VR r v a → a = v)
    (hrun : ∀ w, ((do eqGuard bop xt x y u v; binOp bop xt u v : Sem Value)).run P w = .ok z w) (hz : ∀ r, VR r z z) (hd : Nat.blt d n = true) (h : AOs P ops l K ⟨n, (d, z) :: t, m⟩) :
    AOs P ops (⟨some d, .binOp bop xt x y yt, ty, pos, af, none⟩ :: l) K ⟨n, t, m⟩ :=
  AOs.val (v := z) rfl hd (fun _ _ r a w hs => by
    have h1 := hs.eval x
    have h2 := hs.eval y
    rw [hx] at h1
    rw [hy] at h2
    refine ⟨z, ?_, hz r⟩
    simp only [execOp, hu _ _ h1, hv _ _ h2]
    rw [Sem.run_bind, hrun w]
    rfl) h

theorem rig_int (k : IntKind) (a : Int) : ∀ r y, VR r (.int k a) y → y = .int k a := fun _ _ h => h.int_inv
theorem rig_bool (a : Bool) : ∀ r y, VR r (.bool a) y → y = .bool a := fun _ _ h => h.bool_inv
theorem VR.int (r : Ren) (k : IntKind) (a : Int) : VR r (.int k a) (.int k a) := .base rfl
theorem VR.bool (r : Ren) (b : Bool) : VR r (.bool b) (.bool b) := .base rfl
theorem VR.string (r : Ren) (s : ByteArray) : VR r (.string s) (.string s) := .base rfl

section ints
variable {xt yt : TypeId} {x y : Operand} {k : IntKind} {a b : Int}
theorem o_add (hx : evalA t x = .int k a := by (conv => (lhs; whnf)); first | done | rfl) (hy : evalA t y = .int k b := by (conv => (lhs; whnf)); first | done | rfl) (hd : Nat.blt d n = true := by rfl) (h : AOs P ops l K ⟨n, (d, .int k (k.wrap (a + b))) :: t, m⟩) :
    AOs P ops (⟨some d, .binOp .add xt x y yt, ty, pos, af, none⟩ :: l) K ⟨n, t, m⟩ :=
  o_bin hx hy (rig_int k a) (rig_int k b) (fun w => by cases k <;> rfl) (fun r => VR.int r k _) hd h
theorem o_sub (hx : evalA t x = .int k a := by (conv => (lhs; whnf)); first | done | rfl) (hy : evalA t y = .int k b := by (conv => (lhs; whnf)); first | done | rfl) (hd : Nat.blt d n = true := by rfl) (h : AOs P ops l K ⟨n, (d, .int k (k.wrap (a - b))) :: t, m⟩) :
    AOs P ops (⟨some d, .binOp .sub xt x y yt, ty, pos, af, none⟩ :: l) K ⟨n, t, m⟩ :=
  o_bin hx hy (rig_int k a) (rig_int k b) (fun w => by cases k <;> rfl) (fun r => VR.int r k _) hd h
theorem o_mul (hx : evalA t x = .int k a := by (conv => (lhs; whnf)); first | done | rfl) (hy : evalA t y = .int k b := by (conv => (lhs; whnf)); first | done | rfl) (hd : Nat.blt d n = true := by rfl) (h : AOs P ops l K ⟨n, (d, .int k (k.wrap (a * b))) :: t, m⟩) :
    AOs P ops (⟨some d, .binOp .mul xt x y yt, ty, pos, af, none⟩ :: l) K ⟨n, t, m⟩ :=
  o_bin hx hy (rig_int k a) (rig_int k b) (fun w => by cases k <;> rfl) (fun r => VR.int r k _) hd h
theorem o_quo (hx : evalA t x = .int k a := by (conv => (lhs; whnf)); first | done | rfl) (hy : evalA t y = .int k b := by (conv => (lhs; whnf)); first | done | rfl) (hb : b ≠ 0 := by omega) (hd : Nat.blt d n = true := by rfl) (h : AOs P ops l K ⟨n, (d, .int k (k.wrap (a.tdiv b))) :: t, m⟩) :
    AOs P ops (⟨some d, .binOp .quo xt x y yt, ty, pos, af, none⟩ :: l) K ⟨n, t, m⟩ :=
  o_bin hx hy (rig_int k a) (rig_int k b) (fun w => by cases k <;> simp [eqGuard, binOp, Op.intDiv, hb]) (fun r => VR.int r k _) hd h
theorem o_rem (hx : evalA t x = .int k a := by (conv => (lhs; whnf)); first | done | rfl) (hy : evalA t y = .int k b := by (conv => (lhs; whnf)); first | done | rfl) (hb : b ≠ 0 := by omega) (hd : Nat.blt d n = true := by rfl) (h : AOs P ops l K ⟨n, (d, .int k (a.tmod b)) :: t, m⟩) :
    AOs P ops (⟨some d, .binOp .rem xt x y yt, ty, pos, af, none⟩ :: l) K ⟨n, t, m⟩ :=
  o_bin hx hy (rig_int k a) (rig_int k b) (fun w => by cases k <;> simp [eqGuard, binOp, Op.intDiv, hb]) (fun r => VR.int r k _) hd h
theorem o_eqi (hx : evalA t x = .int k a := by (conv => (lhs; whnf)); first | done | rfl) (hy : evalA t y = .int k b := by (conv => (lhs; whnf)); first | done | rfl) (hd : Nat.blt d n = true := by rfl) (h : AOs P ops l K ⟨n, (d, .bool (decide (a = b))) :: t, m⟩) :
    AOs P ops (⟨some d, .binOp .eql xt x y yt, ty, pos, af, none⟩ :: l) K ⟨n, t, m⟩ :=
  o_bin hx hy (rig_int k a) (rig_int k b) (fun w => by cases k <;> rfl) (fun r => VR.bool r _) hd h
theorem o_nei (hx : evalA t x = .int k a := by (conv => (lhs; whnf)); first | done | rfl) (hy : evalA t y = .int k b := by (conv => (lhs; whnf)); first | done | rfl) (hd : Nat.blt d n = true := by rfl) (h : AOs P ops l K ⟨n, (d, .bool (!decide (a = b))) :: t, m⟩) :
    AOs P ops (⟨some d, .binOp .neq xt x y yt, ty, pos, af, none⟩ :: l) K ⟨n, t, m⟩ :=
  o_bin hx hy (rig_int k a) (rig_int k b) (fun w => by cases k <;> rfl) (fun r => VR.bool r _) hd h
theorem o_lss (hx : evalA t x = .int k a := by (conv => (lhs; whnf)); first | done | rfl) (hy : evalA t y = .int k b := by (conv => (lhs; whnf)); first | done | rfl) (hd : Nat.blt d n = true := by rfl) (h : AOs P ops l K ⟨n, (d, .bool (decide (a < b))) :: t, m⟩) :
    AOs P ops (⟨some d, .binOp .lss xt x y yt, ty, pos, af, none⟩ :: l) K ⟨n, t, m⟩ :=
  o_bin hx hy (rig_int k a) (rig_int k b) (fun w => by cases k <;> rfl) (fun r => VR.bool r _) hd h
theorem o_leq (hx : evalA t x = .int k a := by (conv => (lhs; whnf)); first | done | rfl) (hy : evalA t y = .int k b := by (conv => (lhs; whnf)); first | done | rfl) (hd : Nat.blt d n = true := by rfl) (h : AOs P ops l K ⟨n, (d, .bool (decide (a ≤ b))) :: t, m⟩) :
    AOs P ops (⟨some d, .binOp .leq xt x y yt, ty, pos, af, none⟩ :: l) K ⟨n, t, m⟩ :=
  o_bin hx hy (rig_int k a) (rig_int k b) (fun w => by cases k <;> rfl) (fun r => VR.bool r _) hd h
theorem o_gtr (hx : evalA t x = .int k a := by (conv => (lhs; whnf)); first | done | rfl) (hy : evalA t y = .int k b := by (conv => (lhs; whnf)); first | done | rfl) (hd : Nat.blt d n = true := by rfl) (h : AOs P ops l K ⟨n, (d, .bool (decide (b < a))) :: t, m⟩) :
    AOs P ops (⟨some d, .binOp .gtr xt x y yt, ty, pos, af, none⟩ :: l) K ⟨n, t, m⟩ :=
  o_bin hx hy (rig_int k a) (rig_int k b) (fun w => by cases k <;> rfl) (fun r => VR.bool r _) hd h
theorem o_geq (hx : evalA t x = .int k a := by (conv => (lhs; whnf)); first | done | rfl) (hy : evalA t y = .int k b := by (conv => (lhs; whnf)); first | done | rfl) (hd : Nat.blt d n = true := by rfl) (h : AOs P ops l K ⟨n, (d, .bool (decide (b ≤ a))) :: t, m⟩) :
    AOs P ops (⟨some d, .binOp .geq xt x y yt, ty, pos, af, none⟩ :: l) K ⟨n, t, m⟩ :=
  o_bin hx hy (rig_int k a) (rig_int k b) (fun w => by cases k <;> rfl) (fun r => VR.bool r _) hd h
theorem o_bits {bop : BinOp} (hop : bop = .and ∨ bop = .or ∨ bop = .xor ∨ bop = .andNot := by simp) (hx : evalA t x = .int k a := by (conv => (lhs; whnf)); first | done | rfl) (hy : evalA t y = .int k b := by (conv => (lhs; whnf)); first | done | rfl) (hd : Nat.blt d n = true := by rfl) (h : AOs P ops l K ⟨n, (d, .int k (bits bop k a b)) :: t, m⟩) :
    AOs P ops (⟨some d, .binOp bop xt x y yt, ty, pos, af, none⟩ :: l) K ⟨n, t, m⟩ :=
  o_bin hx hy (rig_int k a) (rig_int k b) (fun w => by rcases hop with rfl | rfl | rfl | rfl <;> cases k <;> rfl) (fun r => VR.int r k _) hd h
theorem o_shl {k' : IntKind} (hx : evalA t x = .int k a := by (conv => (lhs; whnf)); first | done | rfl) (hy : evalA t y = .int k' b := by (conv => (lhs; whnf)); first | done | rfl) (hb : 0 ≤ b := by omega) (hd : Nat.blt d n = true := by rfl) (h : AOs P ops l K ⟨n, (d, .int k (k.wrap (a * 2 ^ min b.toNat k.bits))) :: t, m⟩) :
    AOs P ops (⟨some d, .binOp .shl xt x y yt, ty, pos, af, none⟩ :: l) K ⟨n, t, m⟩ :=
  o_bin hx hy (rig_int k a) (rig_int k' b) (fun w => by have : ¬ b < 0 := by omega
                                                        simp [eqGuard, binOp, Op.shift, this]) (fun r => VR.int r k _) hd h
theorem o_shr {k' : IntKind} (hx : evalA t x = .int k a := by (conv => (lhs; whnf)); first | done | rfl) (hy : evalA t y = .int k' b := by (conv => (lhs; whnf)); first | done | rfl) (hb : 0 ≤ b := by omega) (hd : Nat.blt d n = true := by rfl) (h : AOs P ops l K ⟨n, (d, .int k (a.fdiv (2 ^ min b.toNat k.bits))) :: t, m⟩) :
    AOs P ops (⟨some d, .binOp .shr xt x y yt, ty, pos, af, none⟩ :: l) K ⟨n, t, m⟩ :=
  o_bin hx hy (rig_int k a) (rig_int k' b) (fun w => by have : ¬ b < 0 := by omega
                                                        simp [eqGuard, binOp, Op.shift, this]) (fun r => VR.int r k _) hd h
/-- The same where the sum fits. -/
theorem o_addS (hx : evalA t x = .int k a := by (conv => (lhs; whnf)); first | done | rfl) (hy : evalA t y = .int k b := by (conv => (lhs; whnf)); first | done | rfl) (hk : k = .i64 := by rfl) (hb : -9223372036854775808 ≤ a + b ∧ a + b ≤ 9223372036854775807 := by omega) (hd : Nat.blt d n = true := by rfl) (h : AOs P ops l K ⟨n, (d, .int k (a + b)) :: t, m⟩) :
    AOs P ops (⟨some d, .binOp .add xt x y yt, ty, pos, af, none⟩ :: l) K ⟨n, t, m⟩ := by
  subst hk
  exact o_add hx hy hd (by rw [IntKind.wrap_i64]; rw [show (a + b + 9223372036854775808) % 18446744073709551616 - 9223372036854775808 = a + b by omega]; exact h)
end ints
end
end Go.Proofs.Ytjghdagcmombnaa

/- The clean rules for memory. No program in sight. -/
namespace Go.Proofs.Ytjghdagcmombnaa
open Go.RowKit

theorem addr_add (b o n : Nat) : (⟨b, o, none⟩ : Addr).add n = ⟨b, o + n, none⟩ := by unfold Addr.add; split <;> simp_all

theorem VRs.nil (r : Ren) : VRs r [] [] := ⟨rfl, by simp⟩
theorem VRs.cons {r : Ren} {x y : Value} {xs ys : List Value} (h : VR r x y) (hs : VRs r xs ys) : VRs r (x :: xs) (y :: ys) :=
  ⟨by simp [hs.1], fun i a b ha hb => by
    cases i with
    | zero => simp at ha hb; subst ha; subst hb; exact h
    | succ i => simp at ha hb; exact hs.2 i a b ha hb⟩

/-- What a value's cells are, cleanly. -/
def cellsA : Value → List Value
  | .agg cs => cs.toList
  | v => [v]

/-- Values of one cell. -/
def one : Value → Bool
  | .bool _ | .int _ _ | .float _ _ | .string _ | .pointer _ | .slice _ _ _ | .nilFunc | .nilIface | .func _ _ _ | .iface _ _ => true
  | _ => false

theorem VR.one_inv {r : Ren} {x y : Value} (h : VR r x y) (hx : one x = true) : y.oneCell' = true ∧ y.cells = #[y] := by
  cases h with
  | base h =>
    cases x <;> try (cases hx; done)
    case bool => simp only [VS] at h; subst h; exact ⟨rfl, rfl⟩
    case int => simp only [VS] at h; subst h; exact ⟨rfl, rfl⟩
    case float => obtain ⟨b, rfl, _⟩ := h; exact ⟨rfl, rfl⟩
    case string => simp only [VS] at h; subst h; exact ⟨rfl, rfl⟩
    case pointer a =>
      cases a with
      | none => simp only [VS] at h; subst h; exact ⟨rfl, rfl⟩
      | some a => obtain ⟨c, z, rfl, _⟩ := h; exact ⟨rfl, rfl⟩
    case slice a n m =>
      cases a with
      | none =>
        rcases h with ⟨_, ⟨_, rfl⟩ | ⟨_, b, o, rfl⟩ | ⟨_, b, o, rfl⟩⟩ <;> exact ⟨rfl, rfl⟩
      | some a => obtain ⟨c, z, m', rfl, _⟩ := h; exact ⟨rfl, rfl⟩
    case nilFunc => simp only [VS] at h; subst h; exact ⟨rfl, rfl⟩
    case nilIface => simp only [VS] at h; subst h; exact ⟨rfl, rfl⟩
    case func => exact h.elim
    case iface => exact h.elim
  | agg => cases hx
  | tuple => cases hx
  | func => exact ⟨rfl, rfl⟩
  | iface => exact ⟨rfl, rfl⟩

/-- Values that a variable may hold: one cell, or cells side by side. -/
def whole : Value → Bool
  | .agg cs => cs.toList.all one
  | v => one v

theorem VR.whole_inv {r : Ren} {x y : Value} (h : VR r x y) (hx : whole x = true) : VRs r (cellsA x) y.cells.toList ∧ ∀ v ∈ y.cells.toList, v.oneCell' = true := by
  by_cases ha : ∃ cs, x = .agg cs
  · obtain ⟨cs, rfl⟩ := ha
    obtain ⟨ys, rfl, hl⟩ := h.agg_inv
    refine ⟨hl, fun v hv => ?_⟩
    obtain ⟨i, hi⟩ := List.getElem?_of_mem hv
    simp only [whole, List.all_eq_true] at hx
    have hi' : ys[i]? = some v := hi
    have hlt : i < cs.toList.length := by rw [hl.1]; exact (List.getElem?_eq_some_iff.1 hi').1
    have hx' : cs.toList[i]? = some cs.toList[i] := List.getElem?_eq_getElem hlt
    exact ((hl.2 i _ _ hx' hi').one_inv (hx _ (List.getElem_mem hlt))).1
  · have hx1 : one x = true := by cases x <;> first | exact hx | (exact (ha ⟨_, rfl⟩).elim)
    have hc : cellsA x = [x] := by cases x <;> first | rfl | (exact (ha ⟨_, rfl⟩).elim)
    obtain ⟨h1, h2⟩ := h.one_inv hx1
    rw [hc, h2]
    exact ⟨VRs.cons h (VRs.nil r), by simpa using h1⟩

section sim
variable {B0 : Nat} {w0 : World} {r : Ren} {M : Mem} {w : World}

/-- The new block's renaming. -/
def addR (r : Ren) (j : Nat) (t : Option Nat) (c : Nat) : Ren := fun i u => if i = j ∧ u = t then some (c, 0) else r i u

theorem Sim.fresh (hs : Sim B0 w0 r M w) (t : Option Nat) : r M.length t = none := by
  cases h : r M.length t with
  | none => rfl
  | some c =>
    obtain ⟨b, hb, _⟩ := hs.dom _ _ _ h
    simp at hb

theorem Sim.ext_new (hs : Sim B0 w0 r M w) (t : Option Nat) (c : Nat) : Ext r (addR r M.length t c) := fun j u x h => by
  unfold addR
  rw [if_neg]
  · exact h
  · rintro ⟨rfl, rfl⟩
    rw [hs.fresh] at h; cases h

theorem BlkOk.mono {b : Blk} {c z : Nat} {r' : Ren} {w' : World} (h : BlkOk B0 r b c z w) (he : Ext r r') (hw : w'.heap[c]? = w.heap[c]?) : BlkOk B0 r' b c z w' := by
  unfold BlkOk at *
  split at h
  · rename_i hb
    rw [if_pos hb]
    obtain ⟨hz, ds, ty, hh, hB, hl, hc⟩ := h
    exact ⟨hz, ds, ty, by rw [hw]; exact hh, hB, hl, fun i x y hx hy => (hc i x y hx hy).mono he⟩
  · rename_i hb
    rw [if_neg hb]
    refine ⟨h.1, fun i x hx => ?_⟩
    obtain ⟨y, hy, hv⟩ := h.2 i x hx
    refine ⟨y, ?_, hv.mono he⟩
    rw [← hy]
    exact World.cell?_of_block (w := w) hw

theorem Sim.push (hs : Sim B0 w0 r M w) {xs ys : List Value} (hv : VRs r xs ys) (t : Option Nat) (ht0 : t = none ∨ (t = some 0 ∧ xs = [])) (ty : TypeId) :
    Sim B0 w0 (addR r M.length t w.heap.size) (M ++ [⟨xs, t, true⟩]) (w.alloc (.cells ys.toArray ty)) := by
  have he := hs.ext_new t w.heap.size
  have hsz := hs.below.size
  have old : ∀ {c}, c < w.heap.size → (w.alloc (.cells ys.toArray ty)).heap[c]? = w.heap[c]? := fun {c} hc => Below.heap_alloc _ _ _ hc
  refine ⟨hs.below.alloc (Nat.le_trans hs.base.1 hsz) _, hs.base, fun j u c h => ?_, fun j u c z h => ?_, fun j b hb => ?_, fun j k b b' c z z' hb hb' hw hc hc' => ?_⟩
  · unfold addR at h
    split at h
    · rename_i e; obtain ⟨rfl, rfl⟩ := e
      exact ⟨⟨xs, u, true⟩, by simp, by cases u <;> simp [tagLe]⟩
    · obtain ⟨b, hb, ht⟩ := hs.dom _ _ _ h
      exact ⟨b, by rw [List.getElem?_append_left (List.getElem?_eq_some_iff.1 hb).1]; exact hb, ht⟩
  · unfold addR at h
    split at h
    · cases h; simp
    · have := hs.lt _ _ _ _ h; simp; omega
  · by_cases hj : j < M.length
    · rw [List.getElem?_append_left hj] at hb
      rcases hs.blk j b hb with hg | ⟨c, z, hr, hok⟩
      · refine .inl ⟨hg.1, fun u => ?_⟩
        unfold addR; rw [if_neg (fun h => by omega)]; exact hg.2 u
      exact .inr ⟨c, z, he _ _ _ hr, hok.mono he (old (hs.lt _ _ _ _ hr))⟩
    · rw [List.getElem?_append_right (by omega)] at hb
      have hj2 : j = M.length := by
        have := (List.getElem?_eq_some_iff.1 hb).1; simp at this; omega
      subst hj2
      simp at hb
      subst hb
      refine .inr ⟨w.heap.size, 0, by unfold addR; rw [if_pos ⟨rfl, rfl⟩], ?_⟩
      unfold BlkOk
      rw [if_pos rfl]
      exact ⟨by rcases ht0 with rfl | ⟨rfl, _⟩ <;> rfl, ys.toArray, ty, heap_alloc_new _ _, Nat.le_trans hs.base.1 hsz, by rcases ht0 with rfl | ⟨rfl, rfl⟩ <;> simp [lenOk, ← hv.1], fun i x y hx hy => (hv.2 i x y hx (by simpa using hy)).mono he⟩
  · have inO : ∀ {j b}, (M ++ [(⟨xs, t, true⟩ : Blk)])[j]? = some b → (j < M.length ∧ M[j]? = some b) ∨ (j = M.length ∧ b = ⟨xs, t, true⟩) := fun {j b} hb => by
      by_cases hj : j < M.length
      · rw [List.getElem?_append_left hj] at hb; exact .inl ⟨hj, hb⟩
      · rw [List.getElem?_append_right (by omega)] at hb
        have hj2 : j = M.length := by
          have := (List.getElem?_eq_some_iff.1 hb).1; simp at this; omega
        subst hj2; simp at hb; exact .inr ⟨rfl, hb.symm⟩
    have rOld : ∀ {j u c z}, j < M.length → addR r M.length t w.heap.size j u = some (c, z) → r j u = some (c, z) ∧ c < w.heap.size := fun {j u c z} hj h => by
      unfold addR at h
      rw [if_neg (by rintro ⟨e, _⟩; omega)] at h
      exact ⟨h, hs.lt _ _ _ _ h⟩
    have rNew : ∀ {c z}, addR r M.length t w.heap.size M.length t = some (c, z) → c = w.heap.size := fun {c z} h => by
      unfold addR at h; rw [if_pos ⟨rfl, rfl⟩] at h; cases h; rfl
    rcases inO hb with ⟨hj, hb⟩ | ⟨rfl, rfl⟩ <;> rcases inO hb' with ⟨hk, hb'⟩ | ⟨rfl, rfl⟩
    · exact hs.inj j k b b' c z z' hb hb' hw (rOld hj hc).1 (rOld hk hc').1
    · have := (rOld hj hc).2; have := rNew hc'; omega
    · have := (rOld hk hc').2; have := rNew hc; omega
    · rfl

/-- Reading. -/
theorem Sim.cell (hs : Sim B0 w0 r M w) {j : Nat} {b : Blk} (hb : M[j]? = some b) {c z : Nat} (hr : r j b.tag = some (c, z)) {i : Nat} {x : Value} (hx : b.cells[i]? = some x) :
    ∃ y, w.cell? ⟨c, zo b.tag z + i, none⟩ = some y ∧ VR r x y := by
  rcases hs.blk j b hb with hg | ⟨c', z', hr', hok⟩
  · rw [hg.1.1] at hx; cases hx
  rw [hr] at hr'; cases hr'
  unfold BlkOk at hok
  split at hok
  · obtain ⟨hz0, ds, ty, hh, _, hl, hc⟩ := hok
    have hl := hl.le
    have hi : i < ds.size := by have := (List.getElem?_eq_some_iff.1 hx).1; omega
    refine ⟨ds[i], ?_, hc i x _ hx (by simp [hi])⟩
    rw [hz0, Nat.zero_add, cell_of_row w c i ds ty _ hh]
    simp [hi]
  · exact hok.2 i x hx

theorem Sim.cells (hs : Sim B0 w0 r M w) {j : Nat} {b : Blk} (hb : M[j]? = some b) {c z : Nat} (hr : r j b.tag = some (c, z)) {o : Nat} {xs : List Value}
    (hx : ∀ (i : Nat) (x : Value), xs[i]? = some x → b.cells[o + i]? = some x) : ∃ ys : List Value, (∀ (i : Nat) (y : Value), ys[i]? = some y → w.cell? ⟨c, zo b.tag z + o + i, none⟩ = some y) ∧ VRs r xs ys := by
  have step : ∀ i (hi : i < xs.length), ∃ y, w.cell? ⟨c, zo b.tag z + o + i, none⟩ = some y ∧ VR r xs[i] y := fun i hi => by
    have := hs.cell hb hr (hx i xs[i] (by simp [hi]))
    rwa [← Nat.add_assoc] at this
  refine ⟨(List.range xs.length).pmap (fun i hi => Classical.choose (step i (List.mem_range.1 hi))) (fun _ h => h), fun i y hy => ?_, by simp, fun i x y hx' hy => ?_⟩
  · rw [List.getElem?_pmap] at hy
    have hi : i < xs.length := by
      by_cases hi : i < xs.length
      · exact hi
      · exfalso; simp [hi] at hy
    simp [hi] at hy
    rw [← hy]
    exact (Classical.choose_spec (step i hi)).1
  · have hi : i < xs.length := (List.getElem?_eq_some_iff.1 hx').1
    rw [List.getElem?_pmap] at hy
    simp [hi] at hy hx'
    rw [← hy, ← hx']
    exact (Classical.choose_spec (step i hi)).2

/-- Writing. -/
theorem Sim.set (hs : Sim B0 w0 r M w) {j : Nat} {b : Blk} (hb : M[j]? = some b) (hw : b.rw = true) {c z : Nat} (hr : r j b.tag = some (c, z)) {o : Nat} {xs ys : List Value} (hv : VRs r xs ys)
    (hl : o + xs.length ≤ b.cells.length) (h1 : ∀ v ∈ ys, v.oneCell' = true) (P : Program) : zo b.tag z = 0 ∧ ∃ w', (storeCells ⟨c, o, none⟩ ys 0).run P w = .ok () w' ∧
      Sim B0 w0 r (M.set j { b with cells := b.cells.take o ++ xs ++ b.cells.drop (o + xs.length) }) w' := by
  rcases hs.blk j b hb with hg | ⟨c', z', hr', hok⟩
  · rw [hg.1.2] at hw; cases hw
  rw [hr] at hr'; cases hr'
  unfold BlkOk at hok
  rw [if_pos hw] at hok
  obtain ⟨hz0, ds, ty, hh, hB, hlen', hcs⟩ := hok
  have hlen := hlen'.le
  have hjl : j < M.length := (List.getElem?_eq_some_iff.1 hb).1
  have hrun := run_storeCells_at (P := P) c o ty ys 0 ds w hh (by rw [← hv.1]; omega) h1
  simp only [Nat.add_zero] at hrun
  refine ⟨hz0, _, hrun, ?_⟩
  generalize hnew : (ds.toList.take o ++ ys ++ ds.toList.drop (o + ys.length)).toArray = new at *
  have hne : ∀ {k b'} {c2 z2 : Nat}, M[k]? = some b' → r k b'.tag = some (c2, z2) → k ≠ j → c2 ≠ c := fun {k b' c2 z2} hk hrk hkj e => by
    subst e
    exact hkj (hs.inj j k b b' c2 z z2 hb hk hw hr hrk).symm
  have hnewsz : new.size = ds.size := by rw [← hnew]; simp; rw [← hv.1]; omega
  have oth : ∀ {k}, k ≠ c → (w.setRow c new).heap[k]? = w.heap[k]? := fun {k} hk => setRow_other w c k new hk
  have mget : ∀ {k} {nb : Blk}, (M.set j nb)[k]? = if k = j then some nb else M[k]? := fun {k nb} => by
    rw [List.getElem?_set]
    by_cases e : k = j
    · subst e; simp [hjl]
    · rw [if_neg (fun h => e h.symm), if_neg e]
  refine ⟨hs.below.trans ⟨rfl, rfl, rfl, by simp, fun k hk => oth (by omega)⟩, hs.base, fun k t x h => ?_, fun k t x z h => by simpa using hs.lt k t x z h, fun k b' hb' => ?_, fun k k' b1 b2 c1 z1 z2 h1' h2' hw1 hc1 hc2 => ?_⟩
  · obtain ⟨b', hb', ht⟩ := hs.dom k t x h
    rw [mget]
    by_cases e : k = j
    · rw [if_pos e]; refine ⟨_, rfl, ?_⟩; rw [e] at hb'; rw [hb] at hb'; cases hb'; exact ht
    · exact ⟨b', by rw [if_neg e]; exact hb', ht⟩
  · rw [mget] at hb'
    by_cases e : k = j
    · subst e
      rw [if_pos rfl] at hb'
      cases hb'
      refine .inr ⟨c, z, hr, ?_⟩
      unfold BlkOk
      rw [if_pos (by exact hw)]
      refine ⟨hz0, new, ty, setRow_heap w c ds new ty _ hh, hB, by rw [hnewsz]; rw [show (b.cells.take o ++ xs ++ b.cells.drop (o + xs.length)).length = b.cells.length by simp; omega]; exact hlen', fun i x y hx hy => ?_⟩
      have hy' : (ds.toList.take o ++ ys ++ ds.toList.drop (o + ys.length))[i]? = some y := by rw [← hnew] at hy; simpa using hy
      simp only at hx
      have hto : (b.cells.take o).length = o := by rw [List.length_take]; omega
      have htd : (ds.toList.take o).length = o := by rw [List.length_take]; simp; omega
      by_cases ci : i < o
      · rw [List.append_assoc, List.getElem?_append_left (by omega), List.getElem?_take, if_pos ci] at hx
        rw [List.append_assoc, List.getElem?_append_left (by omega), List.getElem?_take, if_pos ci] at hy'
        exact hcs i x y hx (by simpa using hy')
      · rw [List.append_assoc, List.getElem?_append_right (by omega), hto] at hx
        rw [List.append_assoc, List.getElem?_append_right (by omega), htd] at hy'
        by_cases ci2 : i - o < xs.length
        · rw [List.getElem?_append_left ci2] at hx
          rw [List.getElem?_append_left (by rw [← hv.1]; exact ci2)] at hy'
          exact hv.2 _ _ _ hx hy'
        · rw [List.getElem?_append_right (by omega), List.getElem?_drop] at hx
          rw [List.getElem?_append_right (by rw [← hv.1]; omega), List.getElem?_drop, ← hv.1] at hy'
          rw [show o + xs.length + (i - o - xs.length) = i by omega] at hx hy'
          exact hcs i x y hx (by simpa using hy')
    · rw [if_neg e] at hb'
      rcases hs.blk k b' hb' with hg | ⟨c2, z2, hr2, hok2⟩
      · exact .inl hg
      exact .inr ⟨c2, z2, hr2, hok2.mono (Ext.refl r) (oth (hne hb' hr2 e))⟩
  · rw [mget] at h1' h2'
    have g1 : ∃ b1', M[k]? = some b1' ∧ b1'.tag = b1.tag ∧ b1'.rw = b1.rw := by
      by_cases e : k = j
      · subst e; rw [if_pos rfl] at h1'; cases h1'; exact ⟨b, hb, rfl, rfl⟩
      · rw [if_neg e] at h1'; exact ⟨b1, h1', rfl, rfl⟩
    have g2 : ∃ b2', M[k']? = some b2' ∧ b2'.tag = b2.tag := by
      by_cases e : k' = j
      · subst e; rw [if_pos rfl] at h2'; cases h2'; exact ⟨b, hb, rfl⟩
      · rw [if_neg e] at h2'; exact ⟨b2, h2', rfl⟩
    obtain ⟨b1', hb1, ht1, hrw1⟩ := g1
    obtain ⟨b2', hb2, ht2⟩ := g2
    exact hs.inj k k' b1' b2' c1 z1 z2 hb1 hb2 (by rw [hrw1]; exact hw1) (by rw [ht1]; exact hc1) (by rw [ht2]; exact hc2)
end sim
end Go.Proofs.Ytjghdagcmombnaa
