/- A clean view of the machine: values up to the bits of a NaN and up to where a block lies; states that name only what matters.
   No program in sight: every rule holds of every program. -/
import Derived.WalkKit
import Derived.WalkLawsBesides
import Derived.LoopN
import Derived.Carry


namespace Go.Proofs.Ytjghdagcmombnaa
open Go.RowKit

/-- Where the blocks of the clean memory lie, by number and mark: the block, and the cell at which it begins. -/
abbrev Ren := Nat → Option Nat → Option (Nat × Nat)

/-- One NaN for all. -/
def nanOf : FloatKind → Nat
  | .f32 => 2143289344
  | .f64 => 9221120237041090560

def cf (k : FloatKind) (b : Nat) : Nat := if (k.decode b).isNaN then nanOf k else b

/-- Words of a kind are below it. -/
def fmax : FloatKind → Nat
  | .f32 => 4294967296
  | .f64 => 18446744073709551616

/-- A value of which nothing is known. -/
def dead : Value := .chan (some 0)

/-- Where a place begins: a place with a mark begins its block, and its second number tells for how many elements there is room. -/
def zo : Option Nat → Nat → Nat
  | none, z => z
  | some _, _ => 0

/-- Values without parts. -/
def VS (r : Ren) : Value → Value → Prop
  | .chan _, _ => True
  | .bool a, y => y = .bool a
  | .int k n, y => y = .int k n
  | .float k x, y => ∃ b, y = .float k b ∧ cf k b = x ∧ b < fmax k
  | .string s, y => y = .string s
  | .pointer none, y => y = .pointer none
  | .pointer (some a), y => ∃ c z, y = .pointer (some ⟨c, zo a.spot z + a.off, none⟩) ∧ r a.block a.spot = some (c, z)
  | .slice none n m, y => n = 0 ∧ ((m = 0 ∧ y = .slice none 0 0) ∨ (m = 1 ∧ ∃ b o, y = .slice (some ⟨b, o, none⟩) 0 0) ∨ (m = 2 ∧ ∃ a c, y = .slice a 0 c))
  | .slice (some a) n m, y => ∃ c z m', y = .slice (some ⟨c, zo a.spot z + a.off, none⟩) n m' ∧ r a.block a.spot = some (c, z) ∧ ((a.spot = none ∧ m' = m) ∨ (a.spot.isSome ∧ m ≤ m' ∧ m' ≤ z))
  | .nilFunc, y => y = .nilFunc
  | .nilIface, y => y = .nilIface
  | _, _ => False

inductive VR (r : Ren) : Value → Value → Prop
  | base {x y : Value} : VS r x y → VR r x y
  | agg (xs ys : List Value) : xs.length = ys.length → (∀ (i : Nat) (x y : Value), xs[i]? = some x → ys[i]? = some y → VR r x y) → VR r (.agg xs.toArray) (.agg ys.toArray)
  | tuple (xs ys : List Value) : xs.length = ys.length → (∀ (i : Nat) (x y : Value), xs[i]? = some x → ys[i]? = some y → VR r x y) → VR r (.tuple xs.toArray) (.tuple ys.toArray)
  | func (fn : Fn) (xs ys us vs : List Value) : xs.length = ys.length → (∀ (i : Nat) (x y : Value), xs[i]? = some x → ys[i]? = some y → VR r x y) →
      us.length = vs.length → (∀ (i : Nat) (x y : Value), us[i]? = some x → vs[i]? = some y → VR r x y) → VR r (.func fn xs.toArray us.toArray) (.func fn ys.toArray vs.toArray)
  | iface (t : TypeId) (x y : Value) : VR r x y → VR r (.iface t x) (.iface t y)

/-- Lists of values, one by one. -/
def VRs (r : Ren) (xs ys : List Value) : Prop := xs.length = ys.length ∧ ∀ (i : Nat) (x y : Value), xs[i]? = some x → ys[i]? = some y → VR r x y

def Ext (r r' : Ren) : Prop := ∀ j t c, r j t = some c → r' j t = some c
theorem Ext.refl (r : Ren) : Ext r r := fun _ _ _ h => h
theorem Ext.trans {a b c : Ren} (h : Ext a b) (k : Ext b c) : Ext a c := fun j t x e => k j t x (h j t x e)

theorem VS.mono {r r' : Ren} (he : Ext r r') {x y : Value} (h : VS r x y) : VS r' x y := by
  cases x <;> try exact h
  case pointer a =>
    cases a with
    | none => exact h
    | some a => obtain ⟨c, z, h1, h2⟩ := h; exact ⟨c, z, h1, he _ _ _ h2⟩
  case slice a n m =>
    cases a with
    | none => exact h
    | some a => obtain ⟨c, z, m', h1, h2, h3⟩ := h; exact ⟨c, z, m', h1, he _ _ _ h2, h3⟩

theorem VR.mono {r r' : Ren} (he : Ext r r') {x y : Value} (h : VR r x y) : VR r' x y := by
  induction h with
  | base h => exact .base (h.mono he)
  | agg xs ys hl _ ih => exact .agg xs ys hl ih
  | tuple xs ys hl _ ih => exact .tuple xs ys hl ih
  | func fn xs ys us vs hl _ hl' _ ih ih' => exact .func fn xs ys us vs hl ih hl' ih'
  | iface t x y _ ih => exact .iface t x y ih

theorem VRs.mono {r r' : Ren} (he : Ext r r') {xs ys : List Value} (h : VRs r xs ys) : VRs r' xs ys :=
  ⟨h.1, fun i x y hx hy => (h.2 i x y hx hy).mono he⟩

/-! ### What a related value looks like -/
section
variable {r : Ren} {y : Value}
theorem VR.bool_inv {b : Bool} (h : VR r (.bool b) y) : y = .bool b := by cases h with | base h => exact h
theorem VR.int_inv {k : IntKind} {n : Int} (h : VR r (.int k n) y) : y = .int k n := by cases h with | base h => exact h
theorem VR.float_inv {k : FloatKind} {x : Nat} (h : VR r (.float k x) y) : ∃ b, y = .float k b ∧ cf k b = x ∧ b < fmax k := by cases h with | base h => exact h
theorem VR.string_inv {s : ByteArray} (h : VR r (.string s) y) : y = .string s := by cases h with | base h => exact h
theorem VR.ptr_inv {a : Addr} (h : VR r (.pointer (some a)) y) : ∃ c z, y = .pointer (some ⟨c, zo a.spot z + a.off, none⟩) ∧ r a.block a.spot = some (c, z) := by cases h with | base h => exact h
theorem VR.slice_inv {a : Addr} {n m : Nat} (h : VR r (.slice (some a) n m) y) :
    ∃ c z m', y = .slice (some ⟨c, zo a.spot z + a.off, none⟩) n m' ∧ r a.block a.spot = some (c, z) ∧ ((a.spot = none ∧ m' = m) ∨ (a.spot.isSome ∧ m ≤ m' ∧ m' ≤ z)) := by cases h with | base h => exact h
theorem VR.agg_inv {xs : Array Value} (h : VR r (.agg xs) y) : ∃ ys : List Value, y = .agg ys.toArray ∧ VRs r xs.toList ys := by
  cases h with
  | base h => exact h.elim
  | agg xs ys hl hx => exact ⟨ys, rfl, hl, hx⟩
theorem VR.tuple_inv {xs : Array Value} (h : VR r (.tuple xs) y) : ∃ ys : List Value, y = .tuple ys.toArray ∧ VRs r xs.toList ys := by
  cases h with
  | base h => exact h.elim
  | tuple xs ys hl hx => exact ⟨ys, rfl, hl, hx⟩
theorem VR.func_inv {fn : Fn} {xs us : Array Value} (h : VR r (.func fn xs us) y) : ∃ ys vs : List Value, y = .func fn ys.toArray vs.toArray ∧ VRs r xs.toList ys ∧ VRs r us.toList vs := by
  cases h with
  | base h => exact h.elim
  | func fn xs ys us vs hl hx hl' hx' => exact ⟨ys, vs, rfl, ⟨hl, hx⟩, ⟨hl', hx'⟩⟩
theorem VR.iface_inv {t : TypeId} {x : Value} (h : VR r (.iface t x) y) : ∃ z, y = .iface t z ∧ VR r x z := by
  cases h with
  | base h => exact h.elim
  | iface _ _ z h => exact ⟨z, rfl, h⟩
theorem VR.agg_mk {xs ys : List Value} (h : VRs r xs ys) : VR r (.agg xs.toArray) (.agg ys.toArray) := .agg xs ys h.1 h.2
theorem VR.tuple_mk {xs ys : List Value} (h : VRs r xs ys) : VR r (.tuple xs.toArray) (.tuple ys.toArray) := .tuple xs ys h.1 h.2
end

/-- The renaming cut down to the blocks below a number. -/
def cutR (L : Nat) (r : Ren) : Ren := fun j t => if j < L then r j t else none

theorem VS.cut {r : Ren} {L : Nat} (hd : ∀ j t c, r j t = some c → j < L) {r' : Ren} {x y y' : Value} (h : VS r x y) (h' : VS r' x y') : VS (cutR L r') x y' := by
  cases x <;> try exact h'
  case pointer a =>
    cases a with
    | none => exact h'
    | some a =>
      obtain ⟨c, z, h1, h2⟩ := h
      obtain ⟨c', z', h1', h2'⟩ := h'
      exact ⟨c', z', h1', by unfold cutR; rw [if_pos (hd _ _ _ h2)]; exact h2'⟩
  case slice a n m =>
    cases a with
    | none => exact h'
    | some a =>
      obtain ⟨c, z, m1, h1, h2, h3⟩ := h
      obtain ⟨c', z', m2, h1', h2', h3'⟩ := h'
      exact ⟨c', z', m2, h1', by unfold cutR; rw [if_pos (hd _ _ _ h2)]; exact h2', h3'⟩

theorem VR.cut {r : Ren} {L : Nat} (hd : ∀ j t c, r j t = some c → j < L) {r' : Ren} {x y : Value} (h : VR r x y) : ∀ {y' : Value}, VR r' x y' → VR (cutR L r') x y' := by
  induction h with
  | base h =>
    intro y' h'
    cases h' with
    | base h' => exact .base (h.cut hd h')
    | agg => exact h.elim
    | tuple => exact h.elim
    | func => exact h.elim
    | iface => exact h.elim
  | agg xs ys hl _ ih =>
    intro y' h'
    obtain ⟨zs, rfl, hl', hz⟩ := h'.agg_inv
    refine .agg _ _ hl' fun i x z hx hz' => ?_
    obtain ⟨y, hy⟩ : ∃ y, ys[i]? = some y := ⟨ys[i]'(by rw [← hl]; exact (List.getElem?_eq_some_iff.1 hx).1), by simp⟩
    exact ih i x y hx hy (hz i x z hx hz')
  | tuple xs ys hl _ ih =>
    intro y' h'
    obtain ⟨zs, rfl, hl', hz⟩ := h'.tuple_inv
    refine .tuple _ _ hl' fun i x z hx hz' => ?_
    obtain ⟨y, hy⟩ : ∃ y, ys[i]? = some y := ⟨ys[i]'(by rw [← hl]; exact (List.getElem?_eq_some_iff.1 hx).1), by simp⟩
    exact ih i x y hx hy (hz i x z hx hz')
  | func fn xs ys us vs hl _ hk _ ih ik =>
    intro y' h'
    obtain ⟨zs, ws, rfl, ⟨hl', hz⟩, ⟨hk', hw⟩⟩ := h'.func_inv
    refine .func _ _ _ _ _ hl' (fun i x z hx hz' => ?_) hk' (fun i x z hx hz' => ?_)
    · obtain ⟨y, hy⟩ : ∃ y, ys[i]? = some y := ⟨ys[i]'(by rw [← hl]; exact (List.getElem?_eq_some_iff.1 hx).1), by simp⟩
      exact ih i x y hx hy (hz i x z hx hz')
    · obtain ⟨y, hy⟩ : ∃ y, vs[i]? = some y := ⟨vs[i]'(by rw [← hk]; exact (List.getElem?_eq_some_iff.1 hx).1), by simp⟩
      exact ik i x y hx hy (hw i x z hx hz')
  | iface t x y _ ih =>
    intro y' h'
    obtain ⟨z, rfl, hz⟩ := h'.iface_inv
    exact .iface _ _ _ (ih hz)

/-- Values that lead nowhere. -/
inductive Flat : Value → Prop
  | bool (b : Bool) : Flat (.bool b)
  | int (k : IntKind) (n : Int) : Flat (.int k n)
  | float (k : FloatKind) (b : Nat) : Flat (.float k b)
  | string (s : ByteArray) : Flat (.string s)
  | nilPtr : Flat (.pointer none)
  | nilSlice (n m : Nat) : Flat (.slice none n m)
  | nilFunc : Flat .nilFunc
  | nilIface : Flat .nilIface
  | chan (a : Option Nat) : Flat (.chan a)
  | iface (t : TypeId) (x : Value) : Flat x → Flat (.iface t x)
  | agg (xs : List Value) : (∀ x ∈ xs, Flat x) → Flat (.agg xs.toArray)
  | tuple (xs : List Value) : (∀ x ∈ xs, Flat x) → Flat (.tuple xs.toArray)

theorem VR.flat {r r' : Ren} {x : Value} (hf : Flat x) : ∀ {y : Value}, VR r x y → VR r' x y := by
  induction hf with
  | agg xs _ ih =>
    intro y h
    obtain ⟨ys, rfl, hl, hy⟩ := h.agg_inv
    exact .agg _ _ hl fun i x y hx hy' => ih x (List.mem_of_getElem? hx) (hy i x y hx hy')
  | tuple xs _ ih =>
    intro y h
    obtain ⟨ys, rfl, hl, hy⟩ := h.tuple_inv
    exact .tuple _ _ hl fun i x y hx hy' => ih x (List.mem_of_getElem? hx) (hy i x y hx hy')
  | iface t x _ ih =>
    intro y h
    obtain ⟨z, rfl, hz⟩ := h.iface_inv
    exact .iface _ _ _ (ih hz)
  | _ => intro y h; cases h with | base h => exact .base h

/-- A block of the clean memory: its cells, the mark of its newest slice, whether it may be written. -/
structure Blk where
  cells : List Value
  tag : Option Nat := none
  rw : Bool := true

abbrev Mem := List Blk

def tagLe : Option Nat → Option Nat → Prop
  | none, _ => True
  | some a, some b => a ≤ b
  | some _, none => False

/-- How a block's cells lie in its row: with a mark t (t elements), the row has room for z elements. -/
def lenOk : Option Nat → Nat → Nat → Nat → Prop
  | none, _, s, l => l ≤ s
  | some t, z, s, l => l ≤ s ∧ s * t = z * l ∧ (t = 0 → z = 0)
theorem lenOk.le {t : Option Nat} {z s l : Nat} (h : lenOk t z s l) : l ≤ s := by
  cases t with
  | none => exact h
  | some t => exact h.1

def BlkOk (B0 : Nat) (r : Ren) (b : Blk) (c z : Nat) (w : World) : Prop :=
  if b.rw then zo b.tag z = 0 ∧ ∃ (ds : Array Value) (ty : TypeId), w.heap[c]? = some (.cells ds ty (0, 0)) ∧ B0 ≤ c ∧ lenOk b.tag z ds.size b.cells.length ∧
      ∀ (i : Nat) (x y : Value), b.cells[i]? = some x → ds[i]? = some y → VR r x y
  else (b.tag = none ∧ c < B0) ∧ ∀ (i : Nat) (x : Value), b.cells[i]? = some x → ∃ y, w.cell? ⟨c, zo b.tag z + i, none⟩ = some y ∧ VR r x y

set_option linter.unusedVariables false in
/-- What is told of the world ahead of the call. -/
def Good (B0 : Nat) (w0 : World) : Prop := True
/-- The clean memory M stands in the world w. (A block that may not be written and has no cells need not be there; under a mark it is not there.) -/
structure Sim (B0 : Nat) (w0 : World) (r : Ren) (M : Mem) (w : World) : Prop where
  below : Below B0 w0 w
  base : B0 ≤ w0.heap.size ∧ Good B0 w0
  dom : ∀ j t c, r j t = some c → ∃ b, M[j]? = some b ∧ tagLe t b.tag
  lt : ∀ j t c z, r j t = some (c, z) → c < w.heap.size
  blk : ∀ (j : Nat) (b : Blk), M[j]? = some b → ((b.cells = [] ∧ b.rw = false) ∧ ∀ t, r j t = none) ∨ ∃ c z, r j b.tag = some (c, z) ∧ BlkOk B0 r b c z w
  inj : ∀ (j k : Nat) (b b' : Blk) (c z z' : Nat), M[j]? = some b → M[k]? = some b' → b.rw = true → r j b.tag = some (c, z) → r k b'.tag = some (c, z') → j = k

abbrev Env := List (Nat × Value)

def look : Env → Nat → Value
  | [], _ => dead
  | (j, v) :: L, i => bif i == j then v else look L i

structure St where
  n : Nat
  t : Env
  m : Mem

def St.put (s : St) (d : Option Nat) (v : Value) : St :=
  match d with
  | some d => { s with t := (d, v) :: s.t }
  | none => s

def dlt (d : Option Nat) (n : Nat) : Bool := match d with | some d => Nat.blt d n | none => true

structure SimSt (B0 : Nat) (w0 : World) (r : Ren) (s : St) (a : Act) (w : World) : Prop where
  defers : a.defers = []
  size : a.tmps.size = s.n
  vals : ∀ i, VR r (look s.t i) (a.tmps.getD i undef)
  sim : Sim B0 w0 r s.m w

theorem VR.dead_any (r : Ren) (y : Value) : VR r dead y := .base trivial

theorem SimSt.put {B0 : Nat} {w0 : World} {r r' : Ren} {s : St} {a : Act} {w w' : World} (h : SimSt B0 w0 r s a w) (he : Ext r r') {m' : Mem} (hs : Sim B0 w0 r' m' w')
    {d : Option Nat} (hd : dlt d s.n = true) {v y : Value} (hv : VR r' v y) : SimSt B0 w0 r' ({ s with m := m' }.put d v) (a.put d y) w' := by
  cases d with
  | none => exact ⟨h.defers, h.size, fun i => (h.vals i).mono he, hs⟩
  | some d =>
    have hd' : d < a.tmps.size := by rw [h.size]; simpa [dlt, Nat.blt_eq] using hd
    refine ⟨h.defers, by simpa [Act.put, St.put] using h.size, fun i => ?_, hs⟩
    simp only [St.put, look, Act.put]
    by_cases e : i = d
    · subst e
      simpa [hd'] using hv
    · have e1 : (i == d) = false := by simpa using e
      rw [e1]
      have e2 : (a.tmps.setIfInBounds d y).getD i undef = a.tmps.getD i undef := by
        simp [Array.getD_eq_getD_getElem?, Array.getElem?_setIfInBounds_ne (fun h => e h.symm)]
      rw [e2]
      exact (h.vals i).mono he

def constOk1 : Value → Bool
  | .bool _ | .int _ _ | .string _ | .nilFunc | .nilIface | .pointer none | .slice none 0 0 => true
  | .float k b => Nat.beq (cf k b) b && Nat.blt b (fmax k)
  | _ => false

def constOk : Value → Bool
  | .agg cs => cs.toList.all constOk1
  | .slice none 0 0 => true
  | v => constOk1 v

def evalA (t : Env) : Operand → Value
  | .tmp i => look t i
  | .const v => bif constOk v then v else dead
  | .func f => .func (.func f) #[] #[]
  | .global _ => dead

theorem VR.const1 (r : Ren) {v : Value} (h : constOk1 v = true) : VR r v v := by
  cases v <;> try (cases h; done)
  case bool => exact .base rfl
  case int => exact .base rfl
  case string => exact .base rfl
  case nilFunc => exact .base rfl
  case nilIface => exact .base rfl
  case pointer a =>
    cases a with
    | none => exact .base rfl
    | some a => cases h
  case slice a n m =>
    cases a with
    | some a => cases h
    | none =>
      cases n with
      | succ n => cases h
      | zero =>
        cases m with
        | succ m => cases h
        | zero => exact .base ⟨rfl, .inl ⟨rfl, rfl⟩⟩
  case float k b => exact .base ⟨b, rfl, Nat.eq_of_beq_eq_true (Bool.and_eq_true_iff.1 h).1, by simpa [Nat.blt_eq] using (Bool.and_eq_true_iff.1 h).2⟩

theorem VR.const (r : Ren) {v : Value} (h : constOk v = true) : VR r v v := by
  cases v <;> try exact VR.const1 r h
  case agg cs =>
    simp only [constOk, List.all_eq_true] at h
    exact VR.agg (r := r) cs.toList cs.toList rfl fun i x y hx hy => by
      rw [hx] at hy; cases hy
      exact VR.const1 r (h x (List.mem_of_getElem? hx))
  case slice a n m =>
    cases a with
    | some a => cases h
    | none =>
      cases n with
      | succ n => cases h
      | zero =>
        cases m with
        | succ m => cases h
        | zero => exact .base ⟨rfl, .inl ⟨rfl, rfl⟩⟩

theorem SimSt.eval {B0 : Nat} {w0 : World} {r : Ren} {s : St} {a : Act} {w : World} (h : SimSt B0 w0 r s a w) (x : Operand) : VR r (evalA s.t x) (a.eval x) := by
  cases x with
  | tmp i => exact h.vals i
  | const v =>
    show VR r (bif constOk v then v else dead) v
    cases hc : constOk v
    · exact VR.dead_any r v
    · exact VR.const r hc
  | global g => exact VR.dead_any r _
  | func f => exact VR.func (r := r) (.func f) [] [] [] [] rfl (by simp) rfl (by simp)

theorem SimSt.evals {B0 : Nat} {w0 : World} {r : Ren} {s : St} {a : Act} {w : World} (h : SimSt B0 w0 r s a w) (xs : List Operand) : VRs r (xs.map (evalA s.t)) (xs.map a.eval) := by
  refine ⟨by simp, fun i x y hx hy => ?_⟩
  rw [List.getElem?_map] at hx hy
  cases e : xs[i]? with
  | none => rw [e] at hx; cases hx
  | some o => rw [e] at hx hy; cases hx; cases hy; exact h.eval o

/-! ### The clean rules -/
section
variable (P : Program)
def AO (o : Oper) (K : St → Prop) (s : St) : Prop :=
  ∀ B0 w0 r a w Q', SimSt B0 w0 r s a w → o.wp P a w (fun a' w' => ∃ r' s', Ext r r' ∧ SimSt B0 w0 r' s' a' w' ∧ K s') Q'

def wantA (ops : List Oper) (o : Oper) (t : Env) : Option Bool :=
  match o.guard with
  | none => some true
  | some (j, b) =>
    match (ops[j]?).bind (·.dst) with
    | none => some false
    | some d =>
      match look t d with
      | .bool x => some (x == b)
      | .tuple _ => some false
      | _ => none

def AOs (ops : List Oper) : List Oper → (St → Prop) → St → Prop
  | [], K, s => K s
  | o :: l, K, s =>
    match wantA ops o s.t with
    | some true => AO P o (AOs ops l K) s
    | some false => dlt o.dst s.n = true ∧ AOs ops l K (s.put o.dst undef)
    | none => False

def AW (c : Code) (Q : Exit → St → Prop) (s : St) : Prop :=
  ∀ B0 w0 r a w, SimSt B0 w0 r s a w → c.wp P (fun ex a' w' => ∃ r' s', Ext r r' ∧ SimSt B0 w0 r' s' a' w' ∧ Q ex s') a w

/-- A call, on clean values: what it gives. -/
def ACalls (f : FuncId) (args : List Value) (M : Mem) (R : Value → Mem → Prop) : Prop :=
  ∀ B0 w0 r w (cargs : List Value), Sim B0 w0 r M w → VRs r args cargs →
    Calls P f cargs.toArray w fun e w' => ∃ d v M' r', e = .returned d ∧ R v M' ∧ Ext r r' ∧ Sim B0 w0 r' M' w' ∧ VR r' v d

/-- A call that only reckons. -/
def Pure (f : FuncId) (args : List Value) (M : Mem) (v : Value) : Prop := ACalls P f args M fun r M' => r = v ∧ M' = M
end

section
variable {P : Program}

theorem ACalls.mono {f : FuncId} {args : List Value} {M : Mem} {R R' : Value → Mem → Prop} (h : ACalls P f args M R) (hr : ∀ v M', R v M' → R' v M') : ACalls P f args M R' :=
  fun B0 w0 r w cargs hs hv => (h B0 w0 r w cargs hs hv).mono fun _ _ ⟨d, v, M', r', h1, h2, h3⟩ => ⟨d, v, M', r', h1, hr _ _ h2, h3⟩

theorem undef_VR (r : Ren) : VR r undef undef := VR.tuple (r := r) [] [] rfl (by simp)

theorem yielded_some {ops : Array Oper} {t : Array Value} {j d : Nat} (hd : (ops[j]?).bind (·.dst) = some d) :
    yielded ops t j = match t[d]? with | some (.bool b) => some b | _ => none := by
  unfold yielded; rw [hd]; rfl
theorem yielded_none {ops : Array Oper} {t : Array Value} {j : Nat} (hd : (ops[j]?).bind (·.dst) = none) : yielded ops t j = none := by
  unfold yielded; rw [hd]; rfl

theorem want_sound {ops : Array Oper} {o : Oper} {B0 : Nat} {w0 : World} {r : Ren} {s : St} {a : Act} {w : World} (hs : SimSt B0 w0 r s a w) {b : Bool}
    (hb : wantA ops.toList o s.t = some b) : Region.wanted o (yielded ops a.tmps) = b := by
  unfold wantA at hb
  unfold Region.wanted
  cases hg : o.guard with
  | none => rw [hg] at hb; simp at hb; simp [hb]
  | some p =>
    obtain ⟨j, x⟩ := p
    rw [hg] at hb
    simp only [Array.getElem?_toList] at hb
    cases hd : (ops[j]?).bind (·.dst) with
    | none => rw [hd] at hb; simp at hb; simp only [yielded_none hd, hb]; simp
    | some d =>
      rw [hd] at hb
      simp only at hb
      have hv := hs.vals d
      simp only [yielded_some hd]
      cases hl : look s.t d <;> rw [hl] at hb hv <;> simp at hb
      case bool y =>
        have he := hv.bool_inv
        have : a.tmps[d]? = some (.bool y) := by
          rw [Array.getD_eq_getD_getElem?] at he
          cases ht : a.tmps[d]? with
          | none => rw [ht] at he; simp [undef] at he
          | some z => rw [ht] at he; simp at he; rw [he]
        rw [this, ← hb]
        cases x <;> cases y <;> rfl
      case tuple xs =>
        obtain ⟨ys, he, _⟩ := hv.tuple_inv
        rw [Array.getD_eq_getD_getElem?] at he
        cases ht : a.tmps[d]? with
        | none => simp [hb]
        | some z => rw [ht] at he; simp at he; subst he; simp [hb]

theorem AOs.sound {ops : Array Oper} {K : St → Prop} {Q : Exit → Act → World → Prop} {B0 : Nat} {w0 : World} {r0 : Ren}
    (hQ : ∀ r' s' a' w', Ext r0 r' → SimSt B0 w0 r' s' a' w' → K s' → Q .normal a' w') : ∀ (l : List Oper) (s : St) (r : Ren) (a : Act) (w : World),
    Ext r0 r → SimSt B0 w0 r s a w → AOs P ops.toList l K s → wpList P ops Q l a w := by
  intro l
  induction l with
  | nil => intro s r a w he hs h; exact hQ r s a w he hs h
  | cons o l ih =>
    intro s r a w he hs h
    unfold AOs at h
    cases hw : wantA ops.toList o s.t with
    | none => rw [hw] at h; exact h.elim
    | some b =>
      have hk := want_sound hs hw
      rw [hw] at h
      unfold wpList
      cases b with
      | true =>
        rw [if_pos hk]
        exact .inl (Oper.wp_mono (fun a' w' ⟨r', s', he', hs', hK⟩ => ih s' r' a' w' (he.trans he') hs' hK) (h B0 w0 r a w _ hs))
      | false =>
        rw [if_neg (by rw [hk]; simp)]
        exact ih _ r _ w he (hs.put (Ext.refl r) hs.sim h.1 (undef_VR r)) h.2

def thenA (K : St → Prop) (Q : Exit → St → Prop) : Exit → St → Prop
  | .normal, s => K s
  | e, s => Q e s

def inBlockA (id : Nat) (Q : Exit → St → Prop) : Exit → St → Prop
  | .exit j, s => if j = id then Q .normal s else Q (.exit j) s
  | e, s => Q e s

section rules
variable {Q : Exit → St → Prop} {s : St}

theorem AW.region {id : Nat} {l : List Oper} (h : AOs P l l (Q .normal) s) : AW P (.region id l.toArray false) Q s :=
  fun _ _ r a w hs => wp_region_lit (AOs.sound (ops := l.toArray) (fun r' s' _ _ he hs' hK => ⟨r', s', he, hs', hK⟩) l s r a w (Ext.refl r) hs (by simpa using h))

theorem AW.seq {x y : Code} (h : AW P x (thenA (AW P y Q) Q) s) : AW P (.seq x y) Q s := by
  intro B0 w0 r a w hs
  refine wp_seq (wp_mono (h B0 w0 r a w hs) fun e a' w' ⟨r', s', he, hs', hq⟩ => ?_)
  cases e
  case normal => exact wp_mono (hq B0 w0 r' a' w' hs') fun e a2 w2 ⟨r2, s2, he2, hs2, hq2⟩ => ⟨r2, s2, he.trans he2, hs2, hq2⟩
  all_goals exact ⟨r', s', he, hs', hq⟩

theorem AW.skip (h : Q .normal s) : AW P .skip Q s := fun _ _ r _ _ hs => wp_skip ⟨r, s, Ext.refl r, hs, h⟩
theorem AW.exit {id : Nat} (h : Q (.exit id) s) : AW P (.exit id) Q s := fun _ _ r _ _ hs => wp_exit ⟨r, s, Ext.refl r, hs, h⟩
theorem AW.ret (h : Q .ret s) : AW P .ret Q s := fun _ _ r _ _ hs => wp_ret ⟨r, s, Ext.refl r, hs, h⟩

theorem AW.cond {c : Operand} {x y : Code} {t : Bool} (hc : evalA s.t c = .bool t := by (conv => (lhs; whnf)); first | done | rfl) (ht : t = true → AW P x Q s) (hf : t = false → AW P y Q s) : AW P (.cond c x y) Q s := by
  intro B0 w0 r a w hs
  have he := hs.eval c
  rw [hc] at he
  exact wp_cond_split he.bool_inv (fun h => ht h B0 w0 r a w hs) (fun h => hf h B0 w0 r a w hs)

theorem AW.block {id : Nat} {c : Code} (h : AW P c (inBlockA id Q) s) : AW P (.block id c) Q s := by
  intro B0 w0 r a w hs
  refine wp_block (wp_mono (h B0 w0 r a w hs) fun e a' w' ⟨r', s', he, hs', hq⟩ => ?_)
  cases e
  case exit j =>
    simp only [inBlockA] at hq
    simp only [Exit.inBlock]
    split <;> rename_i hj
    · rw [if_pos hj] at hq; exact ⟨r', s', he, hs', hq⟩
    · rw [if_neg hj] at hq; exact ⟨r', s', he, hs', hq⟩
  all_goals exact ⟨r', s', he, hs', hq⟩

/-- Less known of the state: less asked for. -/
theorem AW.forget {c : Code} {s' : St} (hn : s'.n = s.n) (hm : s'.m = s.m) (ht : ∀ i, look s'.t i = dead ∨ look s'.t i = look s.t i) (h : AW P c Q s') : AW P c Q s := by
  intro B0 w0 r a w hs
  refine h B0 w0 r a w ⟨hs.defers, hs.size.trans hn.symm, fun i => ?_, hm ▸ hs.sim⟩
  rcases ht i with e | e
  · rw [e]; exact VR.dead_any r _
  · rw [e]; exact hs.vals i

/-- A loop: what holds at its head, and a number that each round lowers. 'keep': the slots that count at the head. -/
theorem AW.loop {c : Code} (I : St → Prop) (μ : St → Nat) (clean : St → St)
    (hc : ∀ s, (clean s).n = s.n ∧ (clean s).m = s.m ∧ ∀ i, look (clean s).t i = dead ∨ look (clean s).t i = look s.t i)
    (h0 : I (clean s)) (round : ∀ s, I s → AW P c (thenA (fun s' => I (clean s') ∧ μ (clean s') < μ s) Q) s) : AW P (.loop c) Q s := by
  intro B0 w0 r a w hs
  have cl : ∀ {r : Ren} {s : St} {a : Act} {w : World}, SimSt B0 w0 r s a w → SimSt B0 w0 r (clean s) a w := fun {r s a w} hs => by
    obtain ⟨h1, h2, h3⟩ := hc s
    refine ⟨hs.defers, hs.size.trans h1.symm, fun i => ?_, h2 ▸ hs.sim⟩
    rcases h3 i with e | e
    · rw [e]; exact VR.dead_any r _
    · rw [e]; exact hs.vals i
  refine wp_loop_rounds (μ (clean s) + 1) ?_
  have key : ∀ n s r' a w, Ext r r' → μ s < n → I s → SimSt B0 w0 r' s a w →
      Code.rounds P c (fun ex a' w' => ∃ r' s', Ext r r' ∧ SimSt B0 w0 r' s' a' w' ∧ Q ex s') n a w := by
    intro n
    induction n with
    | zero => intro s r' a w _ hl; omega
    | succ n ih =>
      intro s r' a w he hl hI hs
      rw [rounds_succ]
      refine wp_mono (round s hI B0 w0 r' a w hs) fun e a' w' ⟨r2, s2, he2, hs2, hq⟩ => ?_
      cases e
      case normal => exact ih (clean s2) r2 a' w' (he.trans he2) (by have := hq.2; omega) hq.1 (cl hs2)
      all_goals exact ⟨r2, s2, he.trans he2, hs2, hq⟩
  exact key _ _ r a w (Ext.refl r) (by omega) h0 (cl hs)

/-- A loop by rounds that are counted down: 'I k': what holds at the head, at most k rounds before the end. -/
theorem AW.loopN' {c : Code} (I : Nat → St → Prop) (clean : St → St)
    (hc : ∀ s, (clean s).n = s.n ∧ (clean s).m = s.m ∧ ∀ i, look (clean s).t i = dead ∨ look (clean s).t i = look s.t i)
    (k0 : Nat) (h0 : I k0 (clean s)) (round : ∀ k s, I k s → AW P c (thenA (fun s' => ∃ k', k' < k ∧ I k' (clean s')) Q) s) : AW P (.loop c) Q s := by
  intro B0 w0 r a w hs
  have cl : ∀ {r : Ren} {s : St} {a : Act} {w : World}, SimSt B0 w0 r s a w → SimSt B0 w0 r (clean s) a w := fun {r s a w} hs => by
    obtain ⟨h1, h2, h3⟩ := hc s
    refine ⟨hs.defers, hs.size.trans h1.symm, fun i => ?_, h2 ▸ hs.sim⟩
    rcases h3 i with e | e
    · rw [e]; exact VR.dead_any r _
    · rw [e]; exact hs.vals i
  refine wp_loop_rounds (k0 + 1) ?_
  have key : ∀ n k s r' a w, Ext r r' → k < n → I k s → SimSt B0 w0 r' s a w →
      Code.rounds P c (fun ex a' w' => ∃ r' s', Ext r r' ∧ SimSt B0 w0 r' s' a' w' ∧ Q ex s') n a w := by
    intro n
    induction n with
    | zero => intro k s r' a w _ hl; omega
    | succ n ih =>
      intro k s r' a w he hl hI hs
      rw [rounds_succ]
      refine wp_mono (round k s hI B0 w0 r' a w hs) fun e a' w' ⟨r2, s2, he2, hs2, hq⟩ => ?_
      cases e
      case normal =>
        obtain ⟨k', hk', hI'⟩ := hq
        exact ih k' (clean s2) r2 a' w' (he.trans he2) (by omega) hI' (cl hs2)
      all_goals exact ⟨r2, s2, he.trans he2, hs2, hq⟩
  exact key _ k0 _ r a w (Ext.refl r) (by omega) h0 (cl hs)
end rules

/-- The slots that are named, and no other. -/
def keepL (ks : List Nat) (t : Env) : Env := ks.map fun k => (k, look t k)

theorem look_keep (t : Env) (i : Nat) : ∀ ks : List Nat, look (keepL ks t) i = dead ∨ look (keepL ks t) i = look t i := by
  intro ks
  induction ks with
  | nil => exact .inl rfl
  | cons k ks ih =>
    unfold keepL at *
    simp only [List.map_cons, look]
    cases h : (i == k)
    · exact ih
    · rw [eq_of_beq h]; exact .inr rfl

def keep (ks : List Nat) (s : St) : St := { s with t := keepL ks s.t }

theorem keep_ok (ks : List Nat) (s : St) : (keep ks s).n = s.n ∧ (keep ks s).m = s.m ∧ ∀ i, look (keep ks s).t i = dead ∨ look (keep ks s).t i = look s.t i :=
  ⟨rfl, rfl, fun i => look_keep s.t i ks⟩

theorem AW.keep {c : Code} {Q : Exit → St → Prop} {s : St} (ks : List Nat) (h : AW P c Q (keep ks s)) : AW P c Q s :=
  AW.forget (s' := Go.Proofs.Ytjghdagcmombnaa.keep ks s) rfl rfl (fun i => look_keep s.t i ks) h

theorem AW.loopN {c : Code} {Q : Exit → St → Prop} {s : St} (ks : List Nat) (I : Nat → St → Prop) (k0 : Nat)
    (h0 : I k0 (Go.Proofs.Ytjghdagcmombnaa.keep ks s)) (round : ∀ k s, I k s → AW P c (thenA (fun s' => ∃ k', k' < k ∧ I k' (Go.Proofs.Ytjghdagcmombnaa.keep ks s')) Q) s) : AW P (.loop c) Q s :=
  AW.loopN' I (Go.Proofs.Ytjghdagcmombnaa.keep ks) (keep_ok ks) k0 h0 round

/-! ### Entering a function, and leaving it -/
def envOf : Nat → List Value → Env
  | _, [] => []
  | k, v :: vs => (k, v) :: envOf (k + 1) vs

theorem look_envOf : ∀ (vs : List Value) (k i : Nat), look (envOf k vs) i = if k ≤ i then (vs[i - k]?).getD dead else dead := by
  intro vs
  induction vs with
  | nil => intro k i; simp [envOf, look]
  | cons v vs ih =>
    intro k i
    simp only [envOf, look, ih]
    cases h : (i == k)
    · have hne : i ≠ k := fun e => by rw [e] at h; simp at h
      simp only [cond_false]
      by_cases hk : k ≤ i
      · rw [if_pos (by omega), if_pos hk, show i - k = (i - (k + 1)) + 1 by omega]; rfl
      · rw [if_neg (by omega), if_neg hk]
    · rw [eq_of_beq h]; simp

/-- What the results' slots hold, as one value. -/
def ResA (P : Program) (fn : Func) (s : St) (v : Value) : Prop :=
  ∀ B0 w0 r a w, SimSt B0 w0 r s a w → ∃ d, (results fn a.tmps).run P w = .ok d w ∧ VR r v d

def postA (P : Program) (fn : Func) (R : Value → Mem → Prop) : Exit → St → Prop
  | .normal, s | .ret, s => ∃ v, ResA P fn s v ∧ R v s.m
  | _, _ => False

theorem ACalls.enter {f : FuncId} {fn : Func} {c : Code} {args : List Value} {M : Mem} {R : Value → Mem → Prop} (hf : P.funcs[f]? = some fn) (hb : fn.body = some c) (hn : args.length ≤ fn.ntmps)
    (h : AW P c (postA P fn R) ⟨fn.ntmps, envOf 0 args, M⟩) : ACalls P f args M R := by
  intro B0 w0 r w cargs hs hv
  have hl : cargs.toArray.size = args.length := by simp [hv.1]
  refine calls_of_wp hf hb (wp_mono (h B0 w0 r { tmps := cargs.toArray ++ Array.replicate (fn.ntmps - cargs.toArray.size) undef, defers := [] } w ⟨rfl, ?_, fun i => ?_, hs⟩) fun e a' w' ⟨r', s', he, hs', hq⟩ => ?_)
  · simp only [Array.size_append, Array.size_replicate, hl]; omega
  · rw [look_envOf, if_pos (Nat.zero_le _), Nat.sub_zero]
    by_cases hi : i < args.length
    · have e1 : args[i]? = some args[i] := by simp [hi]
      have hi' : i < cargs.length := by rw [← hv.1]; exact hi
      have e2 : cargs[i]? = some cargs[i] := by simp [hi']
      have e3 : (cargs.toArray ++ Array.replicate (fn.ntmps - cargs.toArray.size) undef).getD i undef = cargs[i] := by
        rw [Array.getD_eq_getD_getElem?, Array.getElem?_append, if_pos (by simpa using hi')]
        simp [hi']
      rw [e1, e3]
      exact hv.2 i _ _ e1 e2
    · have e1 : args[i]? = none := by simp; omega
      rw [e1]
      exact VR.dead_any r _
  · cases e
    case normal =>
      obtain ⟨v, hr, hR⟩ := hq
      obtain ⟨d, h1, h2⟩ := hr B0 w0 r' a' w' hs'
      exact ⟨hs'.defers, d, h1, d, v, s'.m, r', rfl, hR, he, hs'.sim, h2⟩
    case ret =>
      obtain ⟨v, hr, hR⟩ := hq
      obtain ⟨d, h1, h2⟩ := hr B0 w0 r' a' w' hs'
      exact ⟨hs'.defers, d, h1, d, v, s'.m, r', rfl, hR, he, hs'.sim, h2⟩
    all_goals exact hq.elim

/-- Behind a call that gives a flat value and has left the old blocks as they were: the new ones are forgotten. -/
theorem ACalls.pure {f : FuncId} {args : List Value} {M : Mem} {v : Value} (hf : Flat v) (h : ACalls P f args M fun x M' => x = v ∧ ∃ T, M' = M ++ T) : Pure P f args M v := by
  intro B0 w0 r w cargs hs hv
  refine (h B0 w0 r w cargs hs hv).mono fun e w' ⟨d, x, M', r', h1, ⟨hx, T, hM⟩, he, hs', hd⟩ => ?_
  subst hx; subst hM
  have hdom : ∀ j t c, r j t = some c → j < M.length := fun j t c hr => by
    obtain ⟨b, hb, _⟩ := hs.dom j t c hr
    exact (List.getElem?_eq_some_iff.1 hb).1
  have hin : ∀ {j t c}, cutR M.length r' j t = some c → j < M.length ∧ r' j t = some c := fun {j t c} hc => by
    unfold cutR at hc; split at hc
    · exact ⟨‹_›, hc⟩
    · cases hc
  have hget : ∀ j b, M[j]? = some b → (M ++ T)[j]? = some b := fun j b hb => by
    rw [List.getElem?_append_left (List.getElem?_eq_some_iff.1 hb).1]; exact hb
  refine ⟨d, x, M, cutR M.length r', h1, ⟨rfl, rfl⟩, fun j t c hr => ?_, ⟨hs'.below, hs'.base, fun j t c hc => ?_, fun j t c z hc => hs'.lt j t c z (hin hc).2, fun j b hb => ?_, fun j k b b' c z z' hb hb' hw hc hc' => ?_⟩, hd.flat hf⟩
  · unfold cutR; rw [if_pos (hdom j t c hr)]; exact he j t c hr
  · obtain ⟨hj, hr⟩ := hin hc
    obtain ⟨b, hb, ht⟩ := hs'.dom j t c hr
    rw [List.getElem?_append_left hj] at hb
    exact ⟨b, hb, ht⟩
  · rcases hs'.blk j b (hget j b hb) with hg | ⟨c, z, hr, hok⟩
    · refine .inl ⟨hg.1, fun t => ?_⟩
      unfold cutR; split
      · exact hg.2 t
      · rfl
    rcases hs.blk j b hb with hg | ⟨c0, z0, _, hok0⟩
    · refine .inr ⟨c, z, by unfold cutR; rw [if_pos (List.getElem?_eq_some_iff.1 hb).1]; exact hr, ?_⟩
      unfold BlkOk at hok ⊢
      have hrw := hg.1.2
      rw [if_neg (by rw [hrw]; simp)] at hok ⊢
      exact ⟨hok.1, fun i x hx => by rw [hg.1.1] at hx; cases hx⟩
    refine .inr ⟨c, z, by unfold cutR; rw [if_pos (List.getElem?_eq_some_iff.1 hb).1]; exact hr, ?_⟩
    unfold BlkOk at hok hok0 ⊢
    split at hok
    · rename_i hrw
      rw [if_pos hrw] at hok0 ⊢
      obtain ⟨hz, ds, ty, hh, hB, hlen, hcs⟩ := hok
      obtain ⟨_, ds0, ty0, _, _, hlen0, hcs0⟩ := hok0
      refine ⟨hz, ds, ty, hh, hB, hlen, fun i x y hx hy => ?_⟩
      obtain ⟨y0, hy0⟩ : ∃ y0, ds0[i]? = some y0 := ⟨ds0[i]'(by have := (List.getElem?_eq_some_iff.1 hx).1; have := hlen0.le; omega), by simp⟩
      exact (hcs0 i x y0 hx hy0).cut hdom (hcs i x y hx hy)
    · rename_i hrw
      rw [if_neg hrw] at hok0 ⊢
      refine ⟨hok.1, fun i x hx => ?_⟩
      obtain ⟨y, hy, hv⟩ := hok.2 i x hx
      obtain ⟨y0, _, hv0⟩ := hok0.2 i x hx
      exact ⟨y, hy, hv0.cut hdom hv⟩
  · exact hs'.inj j k b b' c z z' (hget _ _ hb) (hget _ _ hb') hw (hin hc).2 (hin hc').2
end
end Go.Proofs.Ytjghdagcmombnaa
