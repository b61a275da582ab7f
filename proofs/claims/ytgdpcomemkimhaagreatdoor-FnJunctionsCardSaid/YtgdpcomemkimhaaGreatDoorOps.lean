/- The clean rules, operation by operation. No program in sight. -/
import Derived.Test.YtgdpcomemkimhaaGreatDoorAbs

namespace Go.Proofs.YtgdpcomemkimhaaGreatDoor
open Go.RowKit

inductive TK where
  | one
  | agg (n : Nat)
  deriving DecidableEq

/-- How a type lies in memory. -/
def tk (P : Program) (t : TypeId) : Option TK :=
  match P.underlying t, P.info? t with
  | some (.struct _), some i => some (.agg i.size)
  | some (.array _ _), some i => some (.agg i.size)
  | some _, some _ => some .one
  | _, _ => none

class TyK (P : Program) (t : TypeId) (k : outParam TK) : Prop where
  out : tk P t = some k

/-- A type's zero value. -/
class TyZ (P : Program) (t : TypeId) (v : outParam Value) : Prop where
  out : (P.info? t).bind (·.zero) = some v
  ok : constOk v = true

/-- A field's place. -/
def fldAt (P : Program) (s f : Nat) : Option Nat :=
  match P.underlying s with
  | some (.struct fs) => match fs[f]? with
    | some x => match P.info? x.type with
      | some i => if i.size = 0 then none else some x.offset
      | none => none
    | none => none
  | _ => none
class FldAt (P : Program) (s f : Nat) (o : outParam Nat) : Prop where
  out : fldAt P s f = some o

def arrAt (P : Program) (t : Nat) : Option (Nat × Nat × Nat) :=
  match P.underlying t with
  | some (.array n e) => match P.info? e with
    | some i => some (n, i.size, e)
    | none => none
  | _ => none
/-- An array type: how many elements, of how many cells, of which type. -/
class ArrT (P : Program) (t : Nat) (n k e : outParam Nat) : Prop where
  out : arrAt P t = some (n, k, e)
  big : 1 < n

def slAt (P : Program) (t : Nat) : Option (Nat × Nat × Nat) :=
  match P.underlying t with
  | some (.slice e) => match P.info? e with
    | some i => some (i.size, i.bytes, e)
    | none => none
  | _ => none
/-- A slice type: its elements' cells and bytes, and their type. -/
class SlT (P : Program) (t : Nat) (k b e : outParam Nat) : Prop where
  out : slAt P t = some (k, b, e)

section
variable {P : Program} {ops l : List Oper} {K : St → Prop} {n : Nat} {t : Env} {m : Mem} {d ty : Nat} {pos : String} {af : Array Edge}

theorem AOs.of_AO {o : Oper} {s : St} (hg : o.guard = none) (h : AO P o (AOs P ops l K) s) : AOs P ops (o :: l) K s := by
  unfold AOs wantA
  rw [hg]
  exact h

theorem AOs.nil {s : St} (h : K s) : AOs P ops [] K s := h

theorem AOs.val {o : Oper} {v : Value} {s : St} (hg : o.guard = none) (hd : dlt o.dst s.n = true)
    (hrun : ∀ B0 w0 r a w, SimSt B0 w0 r s a w → ∃ d, (execOp a.eval o).run P w = .ok (.value d) w ∧ VR r v d) (h : AOs P ops l K (s.put o.dst v)) : AOs P ops (o :: l) K s := by
  refine AOs.of_AO hg fun B0 w0 r a w Q' hs => ?_
  obtain ⟨x, hx, hv⟩ := hrun B0 w0 r a w hs
  unfold Oper.wp
  rw [hx]
  exact ⟨r, _, Ext.refl r, hs.put (Ext.refl r) hs.sim hd hv, h⟩

/-! Guards. -/
theorem g_yes {op : Op} {dst : Option Nat} {j : Nat} {b : Bool} {g : Nat} (hj : (ops[j]?).bind (·.dst) = some g := by rfl) (hx : look t g = .bool b := by (conv => (lhs; whnf)); first | done | rfl)
    (h : AOs P ops (⟨dst, op, ty, pos, af, none⟩ :: l) K ⟨n, t, m⟩) : AOs P ops (⟨dst, op, ty, pos, af, some (j, b)⟩ :: l) K ⟨n, t, m⟩ := by
  unfold AOs wantA at h ⊢
  simp only [hj, hx, beq_self_eq_true]
  exact h
theorem g_no {op : Op} {d j : Nat} {b x : Bool} {g : Nat} (hj : (ops[j]?).bind (·.dst) = some g := by rfl) (hx : look t g = .bool x := by (conv => (lhs; whnf)); first | done | rfl) (hb : x = (!b) := by rfl) (hd : Nat.blt d n = true := by rfl)
    (h : AOs P ops l K ⟨n, (d, undef) :: t, m⟩) : AOs P ops (⟨some d, op, ty, pos, af, some (j, b)⟩ :: l) K ⟨n, t, m⟩ := by
  unfold AOs wantA
  have e2 : (x == b) = false := by subst hb; cases b <;> rfl
  simp only [hj, hx, e2]
  exact ⟨hd, h⟩
theorem g_undef {op : Op} {d j : Nat} {b : Bool} {g : Nat} {xs : Array Value} (hj : (ops[j]?).bind (·.dst) = some g := by rfl) (hx : look t g = .tuple xs := by (conv => (lhs; whnf)); first | done | rfl) (hd : Nat.blt d n = true := by rfl)
    (h : AOs P ops l K ⟨n, (d, undef) :: t, m⟩) : AOs P ops (⟨some d, op, ty, pos, af, some (j, b)⟩ :: l) K ⟨n, t, m⟩ := by
  unfold AOs wantA
  simp only [hj, hx]
  exact ⟨hd, h⟩
theorem g_true {op : Op} {d j : Nat} {x : Bool} {g : Nat} (hj : (ops[j]?).bind (·.dst) = some g := by rfl) (hx : look t g = .bool x := by (conv => (lhs; whnf)); first | done | rfl) (hd : Nat.blt d n = true := by rfl)
    (h1 : x = true → AOs P ops (⟨some d, op, ty, pos, af, none⟩ :: l) K ⟨n, t, m⟩)
    (h0 : x = false → AOs P ops l K ⟨n, (d, undef) :: t, m⟩) : AOs P ops (⟨some d, op, ty, pos, af, some (j, true)⟩ :: l) K ⟨n, t, m⟩ := by
  cases x with
  | true => exact g_yes hj hx (h1 rfl)
  | false => exact g_no hj hx rfl hd (h0 rfl)
theorem g_false {op : Op} {d j : Nat} {x : Bool} {g : Nat} (hj : (ops[j]?).bind (·.dst) = some g := by rfl) (hx : look t g = .bool x := by (conv => (lhs; whnf)); first | done | rfl) (hd : Nat.blt d n = true := by rfl)
    (h1 : x = true → AOs P ops l K ⟨n, (d, undef) :: t, m⟩)
    (h0 : x = false → AOs P ops (⟨some d, op, ty, pos, af, none⟩ :: l) K ⟨n, t, m⟩) : AOs P ops (⟨some d, op, ty, pos, af, some (j, false)⟩ :: l) K ⟨n, t, m⟩ := by
  cases x with
  | false => exact g_yes hj hx (h0 rfl)
  | true => exact g_no hj hx rfl hd (h1 rfl)

theorem o_move {x : Operand} {v : Value} (hv : evalA t x = v := by (conv => (lhs; whnf)); first | done | rfl) (hd : Nat.blt d n = true := by rfl) (h : AOs P ops l K ⟨n, (d, v) :: t, m⟩) :
    AOs P ops (⟨some d, .move x, ty, pos, af, none⟩ :: l) K ⟨n, t, m⟩ :=
  AOs.val (v := v) rfl hd (fun _ _ r a w hs => ⟨a.eval x, rfl, by have := hs.eval x; rw [hv] at this; exact this⟩) h
theorem o_assign {x : Operand} {v : Value} (hv : evalA t x = v := by (conv => (lhs; whnf)); first | done | rfl) (hd : Nat.blt d n = true := by rfl) (h : AOs P ops l K ⟨n, (d, v) :: t, m⟩) :
    AOs P ops (⟨some d, .assign x, ty, pos, af, none⟩ :: l) K ⟨n, t, m⟩ :=
  AOs.val (v := v) rfl hd (fun _ _ r a w hs => ⟨a.eval x, rfl, by have := hs.eval x; rw [hv] at this; exact this⟩) h
theorem o_pick {c x y : Operand} {b : Bool} {v : Value} (hc : evalA t c = .bool b := by (conv => (lhs; whnf)); first | done | rfl) (hv : evalA t (bif b then x else y) = v := by (conv => (lhs; whnf)); first | done | rfl) (hd : Nat.blt d n = true := by rfl) (h : AOs P ops l K ⟨n, (d, v) :: t, m⟩) :
    AOs P ops (⟨some d, .pick c x y, ty, pos, af, none⟩ :: l) K ⟨n, t, m⟩ :=
  AOs.val (v := v) rfl hd (fun _ _ r a w hs => by
    have h1 := hs.eval c
    rw [hc] at h1
    have h2 := hs.eval (bif b then x else y)
    rw [hv] at h2
    refine ⟨a.eval (bif b then x else y), ?_, h2⟩
    simp only [execOp, h1.bool_inv, asBool]
    cases b <;> rfl) h

/-- Operations on whole numbers, truth values and texts: what the model gives. -/
theorem o_bin {bop : BinOp} {xt yt : TypeId} {x y : Operand} {u v z : Value} (hx : evalA t x = u) (hy : evalA t y = v) (hu : ∀ r a, VR r u a → a = u) (hv : ∀ r a, VR r v a → a = v)
    (hrun : ∀ w, ((do eqGuard bop xt x y u v; binOp bop xt u v : Sem Value)).run P w = .ok z w) (hz : ∀ r, VR r z z) (hd : Nat.blt d n = true) (h : AOs P ops l K ⟨n, (d, z) :: t, m⟩) :
    AOs P ops (⟨some d, .binOp bop xt x y yt, ty, pos, af, none⟩ :: l) K ⟨n, t, m⟩ :=
  AOs.val (v := z) rfl hd (fun _ _ r a w hs => by
    have h1 := hs.eval x
    have h2 := hs.eval y
    rw [hx] at h1
    rw [hy] at h2
    refine ⟨z, ?_, hz r⟩
    simp only [execOp, hu _ _ h1, hv _ _ h2]
    rw [Sem.run_bind, hrun w]
    rfl) h

theorem rig_int (k : IntKind) (a : Int) : ∀ r y, VR r (.int k a) y → y = .int k a := fun _ _ h => h.int_inv
theorem rig_bool (a : Bool) : ∀ r y, VR r (.bool a) y → y = .bool a := fun _ _ h => h.bool_inv
theorem rig_string (a : ByteArray) : ∀ r y, VR r (.string a) y → y = .string a := fun _ _ h => h.string_inv
theorem VR.int (r : Ren) (k : IntKind) (a : Int) : VR r (.int k a) (.int k a) := .base rfl
theorem VR.bool (r : Ren) (b : Bool) : VR r (.bool b) (.bool b) := .base rfl
theorem VR.string (r : Ren) (s : ByteArray) : VR r (.string s) (.string s) := .base rfl

section ints
variable {xt yt : TypeId} {x y : Operand} {k : IntKind} {a b : Int}
theorem o_add (hx : evalA t x = .int k a := by (conv => (lhs; whnf)); first | done | rfl) (hy : evalA t y = .int k b := by (conv => (lhs; whnf)); first | done | rfl) (hd : Nat.blt d n = true := by rfl) (h : AOs P ops l K ⟨n, (d, .int k (k.wrap (a + b))) :: t, m⟩) :
    AOs P ops (⟨some d, .binOp .add xt x y yt, ty, pos, af, none⟩ :: l) K ⟨n, t, m⟩ :=
  o_bin hx hy (rig_int k a) (rig_int k b) (fun w => by cases k <;> rfl) (fun r => VR.int r k _) hd h
theorem o_sub (hx : evalA t x = .int k a := by (conv => (lhs; whnf)); first | done | rfl) (hy : evalA t y = .int k b := by (conv => (lhs; whnf)); first | done | rfl) (hd : Nat.blt d n = true := by rfl) (h : AOs P ops l K ⟨n, (d, .int k (k.wrap (a - b))) :: t, m⟩) :
    AOs P ops (⟨some d, .binOp .sub xt x y yt, ty, pos, af, none⟩ :: l) K ⟨n, t, m⟩ :=
  o_bin hx hy (rig_int k a) (rig_int k b) (fun w => by cases k <;> rfl) (fun r => VR.int r k _) hd h
theorem o_mul (hx : evalA t x = .int k a := by (conv => (lhs; whnf)); first | done | rfl) (hy : evalA t y = .int k b := by (conv => (lhs; whnf)); first | done | rfl) (hd : Nat.blt d n = true := by rfl) (h : AOs P ops l K ⟨n, (d, .int k (k.wrap (a * b))) :: t, m⟩) :
    AOs P ops (⟨some d, .binOp .mul xt x y yt, ty, pos, af, none⟩ :: l) K ⟨n, t, m⟩ :=
  o_bin hx hy (rig_int k a) (rig_int k b) (fun w => by cases k <;> rfl) (fun r => VR.int r k _) hd h
theorem o_quo (hx : evalA t x = .int k a := by (conv => (lhs; whnf)); first | done | rfl) (hy : evalA t y = .int k b := by (conv => (lhs; whnf)); first | done | rfl) (hb : b ≠ 0 := by omega) (hd : Nat.blt d n = true := by rfl) (h : AOs P ops l K ⟨n, (d, .int k (k.wrap (a.tdiv b))) :: t, m⟩) :
    AOs P ops (⟨some d, .binOp .quo xt x y yt, ty, pos, af, none⟩ :: l) K ⟨n, t, m⟩ :=
  o_bin hx hy (rig_int k a) (rig_int k b) (fun w => by cases k <;> simp [eqGuard, binOp, Op.intDiv, hb]) (fun r => VR.int r k _) hd h
theorem o_rem (hx : evalA t x = .int k a := by (conv => (lhs; whnf)); first | done | rfl) (hy : evalA t y = .int k b := by (conv => (lhs; whnf)); first | done | rfl) (hb : b ≠ 0 := by omega) (hd : Nat.blt d n = true := by rfl) (h : AOs P ops l K ⟨n, (d, .int k (a.tmod b)) :: t, m⟩) :
    AOs P ops (⟨some d, .binOp .rem xt x y yt, ty, pos, af, none⟩ :: l) K ⟨n, t, m⟩ :=
  o_bin hx hy (rig_int k a) (rig_int k b) (fun w => by cases k <;> simp [eqGuard, binOp, Op.intDiv, hb]) (fun r => VR.int r k _) hd h
theorem o_eqi (hx : evalA t x = .int k a := by (conv => (lhs; whnf)); first | done | rfl) (hy : evalA t y = .int k b := by (conv => (lhs; whnf)); first | done | rfl) (hd : Nat.blt d n = true := by rfl) (h : AOs P ops l K ⟨n, (d, .bool (decide (a = b))) :: t, m⟩) :
    AOs P ops (⟨some d, .binOp .eql xt x y yt, ty, pos, af, none⟩ :: l) K ⟨n, t, m⟩ :=
  o_bin hx hy (rig_int k a) (rig_int k b) (fun w => by cases k <;> rfl) (fun r => VR.bool r _) hd h
theorem o_nei (hx : evalA t x = .int k a := by (conv => (lhs; whnf)); first | done | rfl) (hy : evalA t y = .int k b := by (conv => (lhs; whnf)); first | done | rfl) (hd : Nat.blt d n = true := by rfl) (h : AOs P ops l K ⟨n, (d, .bool (!decide (a = b))) :: t, m⟩) :
    AOs P ops (⟨some d, .binOp .neq xt x y yt, ty, pos, af, none⟩ :: l) K ⟨n, t, m⟩ :=
  o_bin hx hy (rig_int k a) (rig_int k b) (fun w => by cases k <;> rfl) (fun r => VR.bool r _) hd h
theorem o_lss (hx : evalA t x = .int k a := by (conv => (lhs; whnf)); first | done | rfl) (hy : evalA t y = .int k b := by (conv => (lhs; whnf)); first | done | rfl) (hd : Nat.blt d n = true := by rfl) (h : AOs P ops l K ⟨n, (d, .bool (decide (a < b))) :: t, m⟩) :
    AOs P ops (⟨some d, .binOp .lss xt x y yt, ty, pos, af, none⟩ :: l) K ⟨n, t, m⟩ :=
  o_bin hx hy (rig_int k a) (rig_int k b) (fun w => by cases k <;> rfl) (fun r => VR.bool r _) hd h
theorem o_leq (hx : evalA t x = .int k a := by (conv => (lhs; whnf)); first | done | rfl) (hy : evalA t y = .int k b := by (conv => (lhs; whnf)); first | done | rfl) (hd : Nat.blt d n = true := by rfl) (h : AOs P ops l K ⟨n, (d, .bool (decide (a ≤ b))) :: t, m⟩) :
    AOs P ops (⟨some d, .binOp .leq xt x y yt, ty, pos, af, none⟩ :: l) K ⟨n, t, m⟩ :=
  o_bin hx hy (rig_int k a) (rig_int k b) (fun w => by cases k <;> rfl) (fun r => VR.bool r _) hd h
theorem o_gtr (hx : evalA t x = .int k a := by (conv => (lhs; whnf)); first | done | rfl) (hy : evalA t y = .int k b := by (conv => (lhs; whnf)); first | done | rfl) (hd : Nat.blt d n = true := by rfl) (h : AOs P ops l K ⟨n, (d, .bool (decide (b < a))) :: t, m⟩) :
    AOs P ops (⟨some d, .binOp .gtr xt x y yt, ty, pos, af, none⟩ :: l) K ⟨n, t, m⟩ :=
  o_bin hx hy (rig_int k a) (rig_int k b) (fun w => by cases k <;> rfl) (fun r => VR.bool r _) hd h
theorem o_geq (hx : evalA t x = .int k a := by (conv => (lhs; whnf)); first | done | rfl) (hy : evalA t y = .int k b := by (conv => (lhs; whnf)); first | done | rfl) (hd : Nat.blt d n = true := by rfl) (h : AOs P ops l K ⟨n, (d, .bool (decide (b ≤ a))) :: t, m⟩) :
    AOs P ops (⟨some d, .binOp .geq xt x y yt, ty, pos, af, none⟩ :: l) K ⟨n, t, m⟩ :=
  o_bin hx hy (rig_int k a) (rig_int k b) (fun w => by cases k <;> rfl) (fun r => VR.bool r _) hd h
theorem o_bits {bop : BinOp} (hop : bop = .and ∨ bop = .or ∨ bop = .xor ∨ bop = .andNot := by simp) (hx : evalA t x = .int k a := by (conv => (lhs; whnf)); first | done | rfl) (hy : evalA t y = .int k b := by (conv => (lhs; whnf)); first | done | rfl) (hd : Nat.blt d n = true := by rfl) (h : AOs P ops l K ⟨n, (d, .int k (bits bop k a b)) :: t, m⟩) :
    AOs P ops (⟨some d, .binOp bop xt x y yt, ty, pos, af, none⟩ :: l) K ⟨n, t, m⟩ :=
  o_bin hx hy (rig_int k a) (rig_int k b) (fun w => by rcases hop with rfl | rfl | rfl | rfl <;> cases k <;> rfl) (fun r => VR.int r k _) hd h
theorem o_shl {k' : IntKind} (hx : evalA t x = .int k a := by (conv => (lhs; whnf)); first | done | rfl) (hy : evalA t y = .int k' b := by (conv => (lhs; whnf)); first | done | rfl) (hb : 0 ≤ b := by omega) (hd : Nat.blt d n = true := by rfl) (h : AOs P ops l K ⟨n, (d, .int k (k.wrap (a * 2 ^ min b.toNat k.bits))) :: t, m⟩) :
    AOs P ops (⟨some d, .binOp .shl xt x y yt, ty, pos, af, none⟩ :: l) K ⟨n, t, m⟩ :=
  o_bin hx hy (rig_int k a) (rig_int k' b) (fun w => by have : ¬ b < 0 := by omega
                                                        simp [eqGuard, binOp, Op.shift, this]) (fun r => VR.int r k _) hd h
theorem o_shr {k' : IntKind} (hx : evalA t x = .int k a := by (conv => (lhs; whnf)); first | done | rfl) (hy : evalA t y = .int k' b := by (conv => (lhs; whnf)); first | done | rfl) (hb : 0 ≤ b := by omega) (hd : Nat.blt d n = true := by rfl) (h : AOs P ops l K ⟨n, (d, .int k (a.fdiv (2 ^ min b.toNat k.bits))) :: t, m⟩) :
    AOs P ops (⟨some d, .binOp .shr xt x y yt, ty, pos, af, none⟩ :: l) K ⟨n, t, m⟩ :=
  o_bin hx hy (rig_int k a) (rig_int k' b) (fun w => by have : ¬ b < 0 := by omega
                                                        simp [eqGuard, binOp, Op.shift, this]) (fun r => VR.int r k _) hd h
/-- The same where the sum fits. -/
theorem o_addS (hx : evalA t x = .int k a := by (conv => (lhs; whnf)); first | done | rfl) (hy : evalA t y = .int k b := by (conv => (lhs; whnf)); first | done | rfl) (hk : k = .i64 := by rfl) (hb : -9223372036854775808 ≤ a + b ∧ a + b ≤ 9223372036854775807 := by omega) (hd : Nat.blt d n = true := by rfl) (h : AOs P ops l K ⟨n, (d, .int k (a + b)) :: t, m⟩) :
    AOs P ops (⟨some d, .binOp .add xt x y yt, ty, pos, af, none⟩ :: l) K ⟨n, t, m⟩ := by
  subst hk
  exact o_add hx hy hd (by rw [IntKind.wrap_i64]; rw [show (a + b + 9223372036854775808) % 18446744073709551616 - 9223372036854775808 = a + b by omega]; exact h)
end ints
end
end Go.Proofs.YtgdpcomemkimhaaGreatDoor
