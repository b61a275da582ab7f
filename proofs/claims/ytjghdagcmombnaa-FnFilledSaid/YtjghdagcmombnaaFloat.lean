/- Floating point: what each operation gives, told of words in which all NaNs are one. -/
import Derived.Test.YtjghdagcmombnaaStep
import Derived.Laws.Externs
import Derived.Laws.NewFold
import Derived.Below

namespace Go.Proofs.Ytjghdagcmombnaa
open Go.RowKit

def fnan (k : FloatKind) (a : Nat) : Bool := (k.decode a).isNaN

theorem nanOf_nan (k : FloatKind) : fnan k (nanOf k) = true := by cases k <;> rfl
theorem cf_of_nan {k : FloatKind} {b : Nat} (h : fnan k b = true) : cf k b = nanOf k := by unfold cf; unfold fnan at h; rw [h]; rfl
theorem cf_of_not {k : FloatKind} {b : Nat} (h : fnan k b = false) : cf k b = b := by unfold cf; unfold fnan at h; rw [h]; rfl
theorem fnan_cf (k : FloatKind) (b : Nat) : fnan k (cf k b) = fnan k b := by
  cases h : fnan k b
  · rw [cf_of_not h, h]
  · rw [cf_of_nan h, nanOf_nan]
theorem cf_cf (k : FloatKind) (b : Nat) : cf k (cf k b) = cf k b := by
  cases h : fnan k b
  · rw [cf_of_not h, cf_of_not h]
  · rw [cf_of_nan h, cf_of_nan (nanOf_nan k)]
theorem VR.flt (r : Ren) (k : FloatKind) (b : Nat) (h : b < fmax k) : VR r (.float k (cf k b)) (.float k b) := .base ⟨b, rfl, rfl, h⟩
theorem word_lt {k : FloatKind} {s : Bool} {q : Nat} (h : q ≤ k.format.infRung ∨ ∃ f, q = k.format.infRung + f % k.format.binade) : k.format.word s q < fmax k := by
  have e1 : FloatKind.f64.format.signWeight = 9223372036854775808 := rfl
  have e2 : FloatKind.f64.format.binade = 4503599627370496 := rfl
  have e3 : FloatKind.f64.format.infRung = 9218868437227405312 := rfl
  have e4 : FloatKind.f32.format.signWeight = 2147483648 := rfl
  have e5 : FloatKind.f32.format.binade = 8388608 := rfl
  have e6 : FloatKind.f32.format.infRung = 2139095040 := rfl
  unfold Ieee.Format.word fmax
  cases k <;> simp only [e1, e2, e3, e4, e5, e6] at h ⊢ <;> rcases h with h | ⟨f, rfl⟩ <;> split <;> omega
theorem write_lt (k : FloatKind) (d : Ieee.Datum) : k.format.write d < fmax k := by
  cases d with
  | number s mg e =>
    show k.format.nearest s mg e < _
    unfold Ieee.Format.nearest
    split
    · exact word_lt (.inl (Nat.zero_le _))
    · exact word_lt (.inl (Nat.min_le_right _ _))
  | infinity s => exact word_lt (.inl (Nat.le_refl _))
  | nan s f => exact word_lt (.inr ⟨f, rfl⟩)
theorem nanBits_lt (k : FloatKind) (x y t : Nat) : (Question.nanBits k x y).cut t < fmax k := by
  cases k
  · show (t % 2) * 2 ^ 31 + 0x7f800000 + 1 + (t / 2) % (2 ^ 23 - 1) < 4294967296
    have h1 : (t / 2) % (2 ^ 23 - 1) < 8388607 := Nat.mod_lt _ (by decide)
    omega
  · show (t % 2) * 2 ^ 63 + 0x7ff0000000000000 + 1 + (t / 2) % (2 ^ 52 - 1) < 18446744073709551616
    have h1 : (t / 2) % (2 ^ 52 - 1) < 4503599627370495 := Nat.mod_lt _ (by decide)
    omega
theorem nanConv_lt (k : FloatKind) (x t : Nat) : (Question.nanConv k x).cut t < fmax k := by
  cases k
  · exact nanBits_lt .f32 0 0 t
  · exact nanBits_lt .f64 0 0 t
theorem neg_lt {k : FloatKind} {b : Nat} (h : b < fmax k) : Op.negFloat k b < fmax k := by
  cases k
  · exact Nat.xor_lt_two_pow (x := b) (n := 32) (show b < 2 ^ 32 from h) (by decide)
  · exact Nat.xor_lt_two_pow (x := b) (n := 64) (show b < 2 ^ 64 from h) (by decide)

/-- Two data that a program cannot tell apart, but for the NaN's own bits. -/
def Alike (d e : Ieee.Datum) : Prop := d = e ∨ (d.isNaN = true ∧ e.isNaN = true)
theorem isNaN_eq {d : Ieee.Datum} (h : d.isNaN = true) : ∃ s t, d = .nan s t := by
  cases d <;> first | exact ⟨_, _, rfl⟩ | cases h
theorem alike_cf (k : FloatKind) (b : Nat) : Alike (k.decode (cf k b)) (k.decode b) := by
  cases h : fnan k b
  · rw [cf_of_not h]; exact .inl rfl
  · exact .inr ⟨by rw [cf_of_nan h]; exact nanOf_nan k, h⟩
theorem Alike.opposite {d e : Ieee.Datum} (h : Alike d e) : Alike d.opposite e.opposite := by
  rcases h with rfl | ⟨h1, h2⟩
  · exact .inl rfl
  · obtain ⟨_, _, rfl⟩ := isNaN_eq h1; obtain ⟨_, _, rfl⟩ := isNaN_eq h2; exact .inr ⟨rfl, rfl⟩
theorem sum_nan_r (d : Ieee.Datum) (s : Bool) (t : Nat) : d.sum (.nan s t) = none := by cases d <;> rfl
theorem product_nan_r (d : Ieee.Datum) (s : Bool) (t : Nat) : d.product (.nan s t) = none := by cases d <;> rfl
theorem quotient_nan_r (n : Nat) (d : Ieee.Datum) (s : Bool) (t : Nat) : d.quotient n (.nan s t) = none := by cases d <;> rfl
theorem order_nan_r (d : Ieee.Datum) (s : Bool) (t : Nat) : d.order (.nan s t) = none := by cases d <;> rfl
theorem Alike.sum {d e d' e' : Ieee.Datum} (h : Alike d e) (h' : Alike d' e') : d.sum d' = e.sum e' := by
  rcases h with rfl | ⟨h1, h2⟩
  · rcases h' with rfl | ⟨h1, h2⟩
    · rfl
    · obtain ⟨_, _, rfl⟩ := isNaN_eq h1; obtain ⟨_, _, rfl⟩ := isNaN_eq h2; rw [sum_nan_r, sum_nan_r]
  · obtain ⟨_, _, rfl⟩ := isNaN_eq h1; obtain ⟨_, _, rfl⟩ := isNaN_eq h2; rfl
theorem Alike.product {d e d' e' : Ieee.Datum} (h : Alike d e) (h' : Alike d' e') : d.product d' = e.product e' := by
  rcases h with rfl | ⟨h1, h2⟩
  · rcases h' with rfl | ⟨h1, h2⟩
    · rfl
    · obtain ⟨_, _, rfl⟩ := isNaN_eq h1; obtain ⟨_, _, rfl⟩ := isNaN_eq h2; rw [product_nan_r, product_nan_r]
  · obtain ⟨_, _, rfl⟩ := isNaN_eq h1; obtain ⟨_, _, rfl⟩ := isNaN_eq h2; rfl
theorem Alike.quotient {n : Nat} {d e d' e' : Ieee.Datum} (h : Alike d e) (h' : Alike d' e') : d.quotient n d' = e.quotient n e' := by
  rcases h with rfl | ⟨h1, h2⟩
  · rcases h' with rfl | ⟨h1, h2⟩
    · rfl
    · obtain ⟨_, _, rfl⟩ := isNaN_eq h1; obtain ⟨_, _, rfl⟩ := isNaN_eq h2; rw [quotient_nan_r, quotient_nan_r]
  · obtain ⟨_, _, rfl⟩ := isNaN_eq h1; obtain ⟨_, _, rfl⟩ := isNaN_eq h2; rfl
theorem Alike.order {d e d' e' : Ieee.Datum} (h : Alike d e) (h' : Alike d' e') : d.order d' = e.order e' := by
  rcases h with rfl | ⟨h1, h2⟩
  · rcases h' with rfl | ⟨h1, h2⟩
    · rfl
    · obtain ⟨_, _, rfl⟩ := isNaN_eq h1; obtain ⟨_, _, rfl⟩ := isNaN_eq h2; rw [order_nan_r, order_nan_r]
  · obtain ⟨_, _, rfl⟩ := isNaN_eq h1; obtain ⟨_, _, rfl⟩ := isNaN_eq h2; rfl

/-- What an operation gives: its word, or the one NaN. -/
def fres (k : FloatKind) : Option Nat → Nat
  | some r => cf k r
  | none => nanOf k
def fadd (k : FloatKind) (a b : Nat) : Nat := fres k (k.format.add a b)
def fsub (k : FloatKind) (a b : Nat) : Nat := fres k (k.format.sub a b)
def fmul (k : FloatKind) (a b : Nat) : Nat := fres k (k.format.mul a b)
def fdiv (k : FloatKind) (a b : Nat) : Nat := fres k (k.format.div a b)
def fneg (k : FloatKind) (a : Nat) : Nat := cf k (Op.negFloat k a)
def feq (k : FloatKind) (a b : Nat) : Bool := k.format.order a b == some .eq
def flt (k : FloatKind) (a b : Nat) : Bool := k.format.order a b == some .lt
def fle (k : FloatKind) (a b : Nat) : Bool := k.format.order a b == some .lt || k.format.order a b == some .eq
def fgt (k : FloatKind) (a b : Nat) : Bool := k.format.order a b == some .gt
def fge (k : FloatKind) (a b : Nat) : Bool := k.format.order a b == some .gt || k.format.order a b == some .eq
def fofInt (k : FloatKind) (n : Int) : Nat := cf k (k.nearest n)
/-- The whole number, rounded towards a way. -/
def fint (way : Ieee.Toward) (a : Nat) : Nat := cf .f64 (FloatKind.f64.encode ((FloatKind.f64.decode a).integral way))
/-- From one kind to another. -/
def fconv (s k : FloatKind) (a : Nat) : Nat := match s.decode a with
  | .nan _ _ => nanOf k
  | d => cf k (k.encode d)

section
variable {k : FloatKind} {a b : Nat}
theorem add_cf : k.format.add (cf k a) (cf k b) = k.format.add a b := congrArg (Option.map k.format.write) ((alike_cf k a).sum (alike_cf k b))
theorem sub_cf : k.format.sub (cf k a) (cf k b) = k.format.sub a b := congrArg (Option.map k.format.write) ((alike_cf k a).sum (alike_cf k b).opposite)
theorem mul_cf : k.format.mul (cf k a) (cf k b) = k.format.mul a b := congrArg (Option.map k.format.write) ((alike_cf k a).product (alike_cf k b))
theorem div_cf : k.format.div (cf k a) (cf k b) = k.format.div a b := congrArg (Option.map k.format.write) ((alike_cf k a).quotient (alike_cf k b))
theorem order_cf : k.format.order (cf k a) (cf k b) = k.format.order a b := (alike_cf k a).order (alike_cf k b)
end

/-- A NaN that is drawn is one. -/
theorem drawn_f32 (t : Nat) : fnan .f32 ((t % 2) * 2 ^ 31 + 0x7f800000 + 1 + (t / 2) % (2 ^ 23 - 1)) = true := by
  have h1 : (t / 2) % (2 ^ 23 - 1) < 8388607 := Nat.mod_lt _ (by decide)
  generalize (t / 2) % (2 ^ 23 - 1) = u at h1 ⊢
  have h2 : t % 2 < 2 := Nat.mod_lt _ (by decide)
  generalize t % 2 = s at h2 ⊢
  unfold fnan FloatKind.decode Ieee.Format.read
  have e1 : FloatKind.f32.format.signWeight = 2147483648 := rfl
  have e2 : FloatKind.f32.format.binade = 8388608 := rfl
  have e3 : FloatKind.f32.format.infRung = 2139095040 := rfl
  have e : (s * 2 ^ 31 + 0x7f800000 + 1 + u) % 2147483648 = 2139095041 + u := by omega
  simp only [e1, e2, e3, e]
  rw [if_neg (by omega), if_neg (by omega), if_neg (by omega)]
  rfl
theorem drawn_f64 (t : Nat) : fnan .f64 ((t % 2) * 2 ^ 63 + 0x7ff0000000000000 + 1 + (t / 2) % (2 ^ 52 - 1)) = true := by
  have h1 : (t / 2) % (2 ^ 52 - 1) < 4503599627370495 := Nat.mod_lt _ (by decide)
  generalize (t / 2) % (2 ^ 52 - 1) = u at h1 ⊢
  have h2 : t % 2 < 2 := Nat.mod_lt _ (by decide)
  generalize t % 2 = s at h2 ⊢
  unfold fnan FloatKind.decode Ieee.Format.read
  have e1 : FloatKind.f64.format.signWeight = 9223372036854775808 := rfl
  have e2 : FloatKind.f64.format.binade = 4503599627370496 := rfl
  have e3 : FloatKind.f64.format.infRung = 9218868437227405312 := rfl
  have e : (s * 2 ^ 63 + 0x7ff0000000000000 + 1 + u) % 9223372036854775808 = 9218868437227405313 + u := by omega
  simp only [e1, e2, e3, e]
  rw [if_neg (by omega), if_neg (by omega), if_neg (by omega)]
  rfl
theorem drawn_nan (k : FloatKind) (x y t : Nat) : fnan k ((Question.nanBits k x y).cut t) = true := by
  cases k
  · exact drawn_f32 t
  · exact drawn_f64 t
theorem drawn_conv (k : FloatKind) (x t : Nat) : fnan k ((Question.nanConv k x).cut t) = true := by
  cases k
  · exact drawn_f32 t
  · exact drawn_f64 t

theorem Sim.drew {B0 : Nat} {w0 : World} {r : Ren} {M : Mem} {w : World} (hs : Sim B0 w0 r M w) : Sim B0 w0 r M w.drew :=
  ⟨hs.below.drew, hs.base, hs.dom, hs.lt, hs.blk, hs.inj⟩

theorem run_arith {P : Program} (k : FloatKind) (x : Option Nat) (a b : Nat) (w : World) (hx : ∀ r, x = some r → r < fmax k) :
    ∃ c w', c < fmax k ∧ ((match x with | some r => pure (.float k r) | none => do pure (.float k (← choose (.nanBits k a b))) : Sem Value)).run P w = .ok (.float k c) w' ∧ cf k c = fres k x ∧ (w' = w ∨ w' = w.drew) := by
  cases x with
  | some r => exact ⟨r, w, hx r rfl, rfl, rfl, .inl rfl⟩
  | none => exact ⟨_, w.drew, nanBits_lt k a b _, rfl, cf_of_nan (drawn_nan k a b _), .inr rfl⟩

section
variable {P : Program} {ops l : List Oper} {K : St → Prop} {n : Nat} {t : Env} {m : Mem} {d ty : Nat} {pos : String} {af : Array Edge}

theorem fmt_lt {k : FloatKind} {x : Option Ieee.Datum} {r : Nat} (h : x.map k.format.write = some r) : r < fmax k := by
  cases x with
  | none => cases h
  | some d => cases h; exact write_lt k d

theorem o_farith {bop : BinOp} {xt yt : TypeId} {x y : Operand} {k : FloatKind} {a b : Nat} {g : Nat → Nat → Option Nat} (hx : evalA t x = .float k a) (hy : evalA t y = .float k b)
    (hg : ∀ a b, g (cf k a) (cf k b) = g a b) (hlt : ∀ a b r, g a b = some r → r < fmax k)
    (hrun : ∀ a b w, ((do eqGuard bop xt x y (.float k a) (.float k b); binOp bop xt (.float k a) (.float k b) : Sem Value)).run P w = ((match g a b with | some r => pure (.float k r) | none => do pure (.float k (← choose (.nanBits k a b))) : Sem Value)).run P w)
    (hd : Nat.blt d n = true) (h : AOs P ops l K ⟨n, (d, .float k (fres k (g a b))) :: t, m⟩) :
    AOs P ops (⟨some d, .binOp bop xt x y yt, ty, pos, af, none⟩ :: l) K ⟨n, t, m⟩ :=
  AOs.gen (v := .float k (fres k (g a b))) (s := ⟨n, t, m⟩) rfl hd (fun B0 w0 r ac w hs => by
    have h1 := hs.eval x
    have h2 := hs.eval y
    rw [hx] at h1
    rw [hy] at h2
    obtain ⟨a', e1, c1, la⟩ := h1.float_inv
    obtain ⟨b', e2, c2, lb⟩ := h2.float_inv
    subst c1; subst c2
    obtain ⟨c, w', lc, hr, hc, hw⟩ := run_arith (P := P) k (g a' b') a' b' w (hlt a' b')
    refine ⟨.float k c, w', r, ?_, Ext.refl r, ?_, ?_⟩
    · simp only [execOp, e1, e2]
      rw [Sem.run_bind, hrun a' b' w, hr]
      rfl
    · rcases hw with rfl | rfl
      · exact hs.sim
      · exact hs.sim.drew
    · rw [hg, ← hc]; exact VR.flt r k c lc) h

theorem o_fadd {xt yt : TypeId} {x y : Operand} {k : FloatKind} {a b : Nat} (hx : evalA t x = .float k a := by (conv => (lhs; whnf)); first | done | rfl) (hy : evalA t y = .float k b := by (conv => (lhs; whnf)); first | done | rfl) (hd : Nat.blt d n = true := by rfl) (h : AOs P ops l K ⟨n, (d, .float k (fadd k a b)) :: t, m⟩) :
    AOs P ops (⟨some d, .binOp .add xt x y yt, ty, pos, af, none⟩ :: l) K ⟨n, t, m⟩ :=
  o_farith (g := k.format.add) hx hy (fun _ _ => add_cf) (fun a b r h => fmt_lt h) (fun a b w => by cases k <;> rfl) hd h
theorem o_fsub {xt yt : TypeId} {x y : Operand} {k : FloatKind} {a b : Nat} (hx : evalA t x = .float k a := by (conv => (lhs; whnf)); first | done | rfl) (hy : evalA t y = .float k b := by (conv => (lhs; whnf)); first | done | rfl) (hd : Nat.blt d n = true := by rfl) (h : AOs P ops l K ⟨n, (d, .float k (fsub k a b)) :: t, m⟩) :
    AOs P ops (⟨some d, .binOp .sub xt x y yt, ty, pos, af, none⟩ :: l) K ⟨n, t, m⟩ :=
  o_farith (g := k.format.sub) hx hy (fun _ _ => sub_cf) (fun a b r h => fmt_lt h) (fun a b w => by cases k <;> rfl) hd h
theorem o_fmul {xt yt : TypeId} {x y : Operand} {k : FloatKind} {a b : Nat} (hx : evalA t x = .float k a := by (conv => (lhs; whnf)); first | done | rfl) (hy : evalA t y = .float k b := by (conv => (lhs; whnf)); first | done | rfl) (hd : Nat.blt d n = true := by rfl) (h : AOs P ops l K ⟨n, (d, .float k (fmul k a b)) :: t, m⟩) :
    AOs P ops (⟨some d, .binOp .mul xt x y yt, ty, pos, af, none⟩ :: l) K ⟨n, t, m⟩ :=
  o_farith (g := k.format.mul) hx hy (fun _ _ => mul_cf) (fun a b r h => fmt_lt h) (fun a b w => by cases k <;> rfl) hd h
theorem o_fdiv {xt yt : TypeId} {x y : Operand} {k : FloatKind} {a b : Nat} (hx : evalA t x = .float k a := by (conv => (lhs; whnf)); first | done | rfl) (hy : evalA t y = .float k b := by (conv => (lhs; whnf)); first | done | rfl) (hd : Nat.blt d n = true := by rfl) (h : AOs P ops l K ⟨n, (d, .float k (fdiv k a b)) :: t, m⟩) :
    AOs P ops (⟨some d, .binOp .quo xt x y yt, ty, pos, af, none⟩ :: l) K ⟨n, t, m⟩ :=
  o_farith (g := k.format.div) hx hy (fun _ _ => div_cf) (fun a b r h => fmt_lt h) (fun a b w => by cases k <;> rfl) hd h

theorem o_fcmp {bop : BinOp} {xt yt : TypeId} {x y : Operand} {k : FloatKind} {a b : Nat} {g : Option Ordering → Bool} (hx : evalA t x = .float k a) (hy : evalA t y = .float k b)
    (hrun : ∀ a b w, ((do eqGuard bop xt x y (.float k a) (.float k b); binOp bop xt (.float k a) (.float k b) : Sem Value)).run P w = .ok (.bool (g (k.format.order a b))) w)
    (hd : Nat.blt d n = true) (h : AOs P ops l K ⟨n, (d, .bool (g (k.format.order a b))) :: t, m⟩) :
    AOs P ops (⟨some d, .binOp bop xt x y yt, ty, pos, af, none⟩ :: l) K ⟨n, t, m⟩ :=
  AOs.val (v := .bool (g (k.format.order a b))) (s := ⟨n, t, m⟩) rfl hd (fun B0 w0 r ac w hs => by
    have h1 := hs.eval x
    have h2 := hs.eval y
    rw [hx] at h1
    rw [hy] at h2
    obtain ⟨a', e1, c1, la⟩ := h1.float_inv
    obtain ⟨b', e2, c2, lb⟩ := h2.float_inv
    subst c1; subst c2
    refine ⟨.bool (g (k.format.order a' b')), ?_, ?_⟩
    · simp only [execOp, e1, e2]
      rw [Sem.run_bind, hrun a' b' w]
      rfl
    · rw [order_cf]; exact VR.bool r _) h

theorem feq_self (k : FloatKind) (a : Nat) : feq k a a = !fnan k a := by
  unfold feq fnan FloatKind.decode Ieee.Format.order
  cases k.format.read a with
  | number s m i => simp [Ieee.Datum.order, Ieee.Datum.isNaN]
  | infinity s => simp [Ieee.Datum.order, Ieee.Datum.isNaN]
  | nan s t => rfl

theorem o_feq {xt yt : TypeId} {x y : Operand} {k : FloatKind} {a b : Nat} (hx : evalA t x = .float k a := by (conv => (lhs; whnf)); first | done | rfl) (hy : evalA t y = .float k b := by (conv => (lhs; whnf)); first | done | rfl) (hd : Nat.blt d n = true := by rfl) (h : AOs P ops l K ⟨n, (d, .bool (feq k a b)) :: t, m⟩) :
    AOs P ops (⟨some d, .binOp .eql xt x y yt, ty, pos, af, none⟩ :: l) K ⟨n, t, m⟩ :=
  o_fcmp (g := fun c => c == some .eq) hx hy (fun a b w => by cases k <;> rfl) hd h
theorem o_fne {xt yt : TypeId} {x y : Operand} {k : FloatKind} {a b : Nat} (hx : evalA t x = .float k a := by (conv => (lhs; whnf)); first | done | rfl) (hy : evalA t y = .float k b := by (conv => (lhs; whnf)); first | done | rfl) (hd : Nat.blt d n = true := by rfl) (h : AOs P ops l K ⟨n, (d, .bool (!feq k a b)) :: t, m⟩) :
    AOs P ops (⟨some d, .binOp .neq xt x y yt, ty, pos, af, none⟩ :: l) K ⟨n, t, m⟩ :=
  o_fcmp (g := fun c => !(c == some .eq)) hx hy (fun a b w => by cases k <;> rfl) hd h
theorem o_fisnan {xt yt : TypeId} {x y : Operand} {k : FloatKind} {a : Nat} (hx : evalA t x = .float k a := by (conv => (lhs; whnf)); first | done | rfl) (hy : evalA t y = .float k a := by (conv => (lhs; whnf)); first | done | rfl) (hd : Nat.blt d n = true := by rfl) (h : AOs P ops l K ⟨n, (d, .bool (fnan k a)) :: t, m⟩) :
    AOs P ops (⟨some d, .binOp .neq xt x y yt, ty, pos, af, none⟩ :: l) K ⟨n, t, m⟩ :=
  o_fne hx hy hd (by rw [feq_self, Bool.not_not]; exact h)
theorem o_flt {xt yt : TypeId} {x y : Operand} {k : FloatKind} {a b : Nat} (hx : evalA t x = .float k a := by (conv => (lhs; whnf)); first | done | rfl) (hy : evalA t y = .float k b := by (conv => (lhs; whnf)); first | done | rfl) (hd : Nat.blt d n = true := by rfl) (h : AOs P ops l K ⟨n, (d, .bool (flt k a b)) :: t, m⟩) :
    AOs P ops (⟨some d, .binOp .lss xt x y yt, ty, pos, af, none⟩ :: l) K ⟨n, t, m⟩ :=
  o_fcmp (g := fun c => c == some .lt) hx hy (fun a b w => by cases k <;> rfl) hd h
theorem o_fle {xt yt : TypeId} {x y : Operand} {k : FloatKind} {a b : Nat} (hx : evalA t x = .float k a := by (conv => (lhs; whnf)); first | done | rfl) (hy : evalA t y = .float k b := by (conv => (lhs; whnf)); first | done | rfl) (hd : Nat.blt d n = true := by rfl) (h : AOs P ops l K ⟨n, (d, .bool (fle k a b)) :: t, m⟩) :
    AOs P ops (⟨some d, .binOp .leq xt x y yt, ty, pos, af, none⟩ :: l) K ⟨n, t, m⟩ :=
  o_fcmp (g := fun c => c == some .lt || c == some .eq) hx hy (fun a b w => by cases k <;> rfl) hd h
theorem o_fgt {xt yt : TypeId} {x y : Operand} {k : FloatKind} {a b : Nat} (hx : evalA t x = .float k a := by (conv => (lhs; whnf)); first | done | rfl) (hy : evalA t y = .float k b := by (conv => (lhs; whnf)); first | done | rfl) (hd : Nat.blt d n = true := by rfl) (h : AOs P ops l K ⟨n, (d, .bool (fgt k a b)) :: t, m⟩) :
    AOs P ops (⟨some d, .binOp .gtr xt x y yt, ty, pos, af, none⟩ :: l) K ⟨n, t, m⟩ :=
  o_fcmp (g := fun c => c == some .gt) hx hy (fun a b w => by cases k <;> rfl) hd h
theorem o_fge {xt yt : TypeId} {x y : Operand} {k : FloatKind} {a b : Nat} (hx : evalA t x = .float k a := by (conv => (lhs; whnf)); first | done | rfl) (hy : evalA t y = .float k b := by (conv => (lhs; whnf)); first | done | rfl) (hd : Nat.blt d n = true := by rfl) (h : AOs P ops l K ⟨n, (d, .bool (fge k a b)) :: t, m⟩) :
    AOs P ops (⟨some d, .binOp .geq xt x y yt, ty, pos, af, none⟩ :: l) K ⟨n, t, m⟩ :=
  o_fcmp (g := fun c => c == some .gt || c == some .eq) hx hy (fun a b w => by cases k <;> rfl) hd h
end

/-! ### Between kinds -/
theorem wide_fin {s : Bool} {mg : Nat} {e : Int} (h1 : mg < 16777216) (h2 : -149 ≤ e) (h3 : e ≤ 104) : (FloatKind.f64.decode (FloatKind.f64.encode (.number s mg e))).isInfinity = false := by
  have e1 : FloatKind.f64.format.signWeight = 9223372036854775808 := rfl
  have e2 : FloatKind.f64.format.binade = 4503599627370496 := rfl
  have e3 : FloatKind.f64.format.infRung = 9218868437227405312 := rfl
  have e4 : FloatKind.f64.format.leastPlace = -1074 := rfl
  have e5 : FloatKind.f64.format.fractionBits = 52 := rfl
  have key : ∃ q, FloatKind.f64.encode (.number s mg e) = FloatKind.f64.format.word s q ∧ q < 9218868437227405312 := by
    show ∃ q, FloatKind.f64.format.nearest s mg e = _ ∧ _
    unfold Ieee.Format.nearest
    by_cases h0 : mg = 0
    · exact ⟨0, by rw [if_pos h0], by omega⟩
    rw [if_neg h0]
    refine ⟨_, rfl, ?_⟩
    have hl : mg.log2 < 24 := (Nat.log2_lt h0).2 (by omega)
    simp only [e2, e3, e4, e5]
    have hlast : max (e + (mg.log2 : Nat) - (52 : Nat)) (-1074) ≤ e - 29 := by omega
    generalize hL : max (e + (mg.log2 : Nat) - (52 : Nat)) (-1074) = last at hlast ⊢
    have hdrop : (last - e).toNat = 0 := by omega
    have hup : (e - last).toNat + mg.log2 ≤ 52 := by omega
    have hpl : (last - -1074).toNat ≤ 1149 := by omega
    have hk : Ieee.Toward.even.cut s (mg <<< (e - last).toNat) (last - e).toNat ≤ mg <<< (e - last).toNat + 1 := by
      rw [hdrop]
      unfold Ieee.Toward.cut
      simp only [Nat.zero_min, Nat.shiftLeft_zero, Nat.div_one]
      exact Nat.add_le_add_left (Bool.toNat_le _) _
    have hm : mg <<< (e - last).toNat < 9007199254740992 := by
      rw [Nat.shiftLeft_eq]
      have h4 : mg < 2 ^ (mg.log2 + 1) := Nat.lt_log2_self
      have h5 : mg * 2 ^ (e - last).toNat < 2 ^ (mg.log2 + 1) * 2 ^ (e - last).toNat := Nat.mul_lt_mul_of_pos_right h4 (Nat.two_pow_pos _)
      have h6 : 2 ^ (mg.log2 + 1) * 2 ^ (e - last).toNat ≤ 2 ^ 53 := by
        rw [← Nat.pow_add]; exact Nat.pow_le_pow_right (by omega) (by omega)
      omega
    refine Nat.lt_of_le_of_lt (Nat.min_le_left _ _) ?_
    have : (last - -1074).toNat * 4503599627370496 ≤ 1149 * 4503599627370496 := Nat.mul_le_mul_right _ hpl
    omega
  obtain ⟨q, hq, hlt⟩ := key
  rw [hq]
  unfold FloatKind.decode Ieee.Format.read Ieee.Format.word
  have hm : (if s = true then FloatKind.f64.format.signWeight + q else q) % FloatKind.f64.format.signWeight = q := by
    rw [e1]; split <;> omega
  simp only [hm, e2, e3]
  split
  · rfl
  · first | rfl | (rw [if_pos hlt]; rfl)

theorem read_f32 {a : Nat} {s : Bool} {mg : Nat} {e : Int} (h : FloatKind.f32.decode a = .number s mg e) : mg < 16777216 ∧ -149 ≤ e ∧ e ≤ 104 := by
  have e1 : FloatKind.f32.format.signWeight = 2147483648 := rfl
  have e2 : FloatKind.f32.format.binade = 8388608 := rfl
  have e3 : FloatKind.f32.format.infRung = 2139095040 := rfl
  have e4 : FloatKind.f32.format.leastPlace = -149 := rfl
  unfold FloatKind.decode Ieee.Format.read at h
  simp only [e1, e2, e3, e4] at h
  generalize a % 2147483648 = q at h
  split at h
  · simp only [Ieee.Datum.number.injEq] at h
    omega
  · split at h
    · simp only [Ieee.Datum.number.injEq] at h
      have : q / 8388608 < 255 := by omega
      have : q % 8388608 < 8388608 := Nat.mod_lt _ (by omega)
      omega
    · split at h <;> cases h

section
variable {P : Program} {ops l : List Oper} {K : St → Prop} {n : Nat} {t : Env} {m : Mem} {d ty : Nat} {pos : String} {af : Array Edge}

theorem fconv_cf (s k : FloatKind) (a : Nat) : fconv s k (cf s a) = fconv s k a := by
  cases h : fnan s a
  · rw [cf_of_not h]
  · rw [cf_of_nan h]
    obtain ⟨_, _, h1⟩ := isNaN_eq h
    obtain ⟨_, _, h2⟩ := isNaN_eq (nanOf_nan s)
    unfold fconv; rw [h1, h2]

/-- Between kinds, where nothing becomes too great. -/
def convOk (s k : FloatKind) (a : Nat) : Prop := (s = k) ∨ ∀ g mg e, s.decode a = .number g mg e → (k.decode (k.encode (.number g mg e))).isInfinity = false
theorem convOk_up (a : Nat) : convOk .f32 .f64 a := .inr fun g mg e h => by
  obtain ⟨h1, h2, h3⟩ := read_f32 h
  exact wide_fin h1 h2 h3

theorem run_conv {P : Program} (s k : FloatKind) (a : Nat) (w : World) (hsk : s ≠ k) (hok : convOk s k a) :
    ∃ c w', c < fmax k ∧ (Conv.floatToFloat s a k).run P w = .ok (.float k c) w' ∧ cf k c = fconv s k a ∧ (w' = w ∨ w' = w.drew) := by
  unfold Conv.floatToFloat fconv
  rw [if_neg hsk]
  cases hd : s.decode a with
  | nan g f => exact ⟨_, w.drew, nanConv_lt k a _, rfl, cf_of_nan (drawn_conv k a _), .inr rfl⟩
  | infinity g => exact ⟨_, w, write_lt k _, rfl, rfl, .inl rfl⟩
  | number g mg e =>
    have hi : (k.decode (k.encode (.number g mg e))).isInfinity = false := by
      rcases hok with h | h
      · exact absurd h hsk
      · exact h g mg e hd
    simp only [hi]
    exact ⟨_, w, write_lt k _, rfl, rfl, .inl rfl⟩

theorem convOk_cf {s k : FloatKind} {a : Nat} (h : convOk s k (cf s a)) : convOk s k a := by
  rcases h with h | h
  · exact .inl h
  · refine .inr fun g mg e hd => ?_
    cases hn : fnan s a
    · rw [cf_of_not hn] at h; exact h g mg e hd
    · obtain ⟨_, _, h1⟩ := isNaN_eq hn; rw [h1] at hd; cases hd

theorem o_fconv {src dst : TypeId} {s k : FloatKind} [hd1 : TyF P src s] [hd2 : TyF P dst k] {x : Operand} {a : Nat} (hx : evalA t x = .float s a := by (conv => (lhs; whnf)); first | done | rfl) (hsk : s ≠ k := by decide) (hok : convOk s k a := by first | exact convOk_up _ | assumption) (hd : Nat.blt d n = true := by rfl)
    (h : AOs P ops l K ⟨n, (d, .float k (fconv s k a)) :: t, m⟩) : AOs P ops (⟨some d, .convert src dst x, ty, pos, af, none⟩ :: l) K ⟨n, t, m⟩ :=
  AOs.gen (v := .float k (fconv s k a)) (s := ⟨n, t, m⟩) rfl hd (fun B0 w0 r ac w hs => by
    have h1 := hs.eval x
    rw [hx] at h1
    obtain ⟨a', e1, c1, la⟩ := h1.float_inv
    subst c1
    obtain ⟨c, w', lc, hr, hc, hw⟩ := run_conv (P := P) s k a' w hsk (convOk_cf hok)
    refine ⟨.float k c, w', r, ?_, Ext.refl r, ?_, ?_⟩
    · simp [execOp, e1, convert, run_underlying hd1.out, run_underlying hd2.out, hr, Sem.run_bind]
    · rcases hw with rfl | rfl
      · exact hs.sim
      · exact hs.sim.drew
    · rw [fconv_cf, ← hc]; exact VR.flt r k c lc) h
theorem o_fofInt {src dst : TypeId} {q : IntKind} {k : FloatKind} [hd1 : TyI P src q] [hd2 : TyF P dst k] {x : Operand} {j : IntKind} {a : Int} (hx : evalA t x = .int j a := by (conv => (lhs; whnf)); first | done | rfl) (hd : Nat.blt d n = true := by rfl)
    (h : AOs P ops l K ⟨n, (d, .float k (fofInt k a)) :: t, m⟩) : AOs P ops (⟨some d, .convert src dst x, ty, pos, af, none⟩ :: l) K ⟨n, t, m⟩ :=
  AOs.val (v := .float k (fofInt k a)) (s := ⟨n, t, m⟩) rfl hd (fun B0 w0 r ac w hs => by
    have h1 := hs.eval x
    rw [hx] at h1
    refine ⟨.float k (k.nearest a), ?_, VR.flt r k _ (show k.format.write (.number (a < 0) a.natAbs 0) < fmax k from write_lt k _)⟩
    simp [execOp, h1.int_inv, convert, run_underlying hd1.out, run_underlying hd2.out, Conv.intToFloat]) h
/-- Functions that the model gives itself. -/
class ExtT (P : Program) (f : FuncId) (e : outParam (Array Value → Sem Value)) : Prop where
  out : ∀ args w, (callFunc f args).run P w = ((e args).run P w).andThen fun v w' => .ok (.value v) w'
theorem ExtT.mk' {f : FuncId} {fn : Func} {e : Array Value → Sem Value} (hf : P.funcs[f]? = some fn) (hname : (fn.name == "runtime.NumGoroutine") = false)
    (hb : fn.body.isNone = true) (hn : Extern.findNext fn = none) (he : Extern.find fn = some e) : ExtT P f e :=
  ⟨fun args w => run_callFunc_extern hf hname hb hn he args w⟩

theorem o_extG {f : FuncId} {e : Array Value → Sem Value} [hf : ExtT P f e] {x : Operand} {ats : Array TypeId} {k : FloatKind} {a : Nat} {v : Value} (hx : evalA t x = .float k a)
    (hrun : ∀ a' w, cf k a' = a → a' < fmax k → ∃ v' w', (e #[.float k a']).run P w = .ok v' w' ∧ (∀ r, VR r v v') ∧ (w' = w ∨ w' = w.drew)) (hd : Nat.blt d n = true)
    (h : AOs P ops l K ⟨n, (d, v) :: t, m⟩) : AOs P ops (⟨some d, .call { callee := .value (.func f), args := #[x], argTypes := ats }, ty, pos, af, none⟩ :: l) K ⟨n, t, m⟩ :=
  AOs.gen (v := v) (s := ⟨n, t, m⟩) rfl hd (fun B0 w0 r ac w hs => by
    have h1 := hs.eval x
    rw [hx] at h1
    obtain ⟨a', e1, c1, la⟩ := h1.float_inv
    obtain ⟨v', w', hr, hv, hw⟩ := hrun a' w c1 la
    refine ⟨v', w', r, ?_, Ext.refl r, ?_, hv r⟩
    · have ef : ac.eval (.func f) = .func (.func f) #[] #[] := rfl
      simp [execOp, resolve, ef, Deferred.ofValue, invoke, hf.out, e1, hr, Result.andThen]
    · rcases hw with rfl | rfl
      · exact hs.sim
      · exact hs.sim.drew) h
theorem o_bits32 {f : FuncId} [hf : ExtT P f Extern.MathFloatBits.float32bits] {x : Operand} {ats : Array TypeId} {a : Nat} (hx : evalA t x = .float .f32 a := by (conv => (lhs; whnf)); first | done | rfl) (hn : fnan .f32 a = false := by first | assumption | exact nn_of_fin (by assumption)) (hd : Nat.blt d n = true := by rfl)
    (h : AOs P ops l K ⟨n, (d, .int .u32 (a : Int)) :: t, m⟩) : AOs P ops (⟨some d, .call { callee := .value (.func f), args := #[x], argTypes := ats }, ty, pos, af, none⟩ :: l) K ⟨n, t, m⟩ :=
  o_extG hx (fun a' w hc la => by
    have hn' : fnan .f32 a' = false := by rw [← fnan_cf, hc]; exact hn
    rw [cf_of_not hn'] at hc
    subst hc
    exact ⟨_, w, rfl, fun r => VR.int r _ _, .inl rfl⟩) hd h
theorem o_bits64 {f : FuncId} [hf : ExtT P f Extern.MathFloatBits.float64bits] {x : Operand} {ats : Array TypeId} {a : Nat} (hx : evalA t x = .float .f64 a := by (conv => (lhs; whnf)); first | done | rfl) (hn : fnan .f64 a = false := by first | assumption | exact nn_of_fin (by assumption)) (hd : Nat.blt d n = true := by rfl)
    (h : AOs P ops l K ⟨n, (d, .int .u64 (a : Int)) :: t, m⟩) : AOs P ops (⟨some d, .call { callee := .value (.func f), args := #[x], argTypes := ats }, ty, pos, af, none⟩ :: l) K ⟨n, t, m⟩ :=
  o_extG hx (fun a' w hc la => by
    have hn' : fnan .f64 a' = false := by rw [← fnan_cf, hc]; exact hn
    rw [cf_of_not hn'] at hc
    subst hc
    exact ⟨_, w, rfl, fun r => VR.int r _ _, .inl rfl⟩) hd h

theorem quiet_nan (s : Bool) (f : Nat) : fnan .f64 (FloatKind.f64.encode (.nan s f)) = true ∨ f % 4503599627370496 = 0 := by
  by_cases h : f % 4503599627370496 = 0
  · exact .inr h
  · refine .inl ?_
    have e1 : FloatKind.f64.format.signWeight = 9223372036854775808 := rfl
    have e2 : FloatKind.f64.format.binade = 4503599627370496 := rfl
    have e3 : FloatKind.f64.format.infRung = 9218868437227405312 := rfl
    unfold fnan FloatKind.decode FloatKind.encode Ieee.Format.read Ieee.Format.write Ieee.Format.word
    have h1 : f % 4503599627370496 < 4503599627370496 := Nat.mod_lt _ (by omega)
    have hm : (if s = true then FloatKind.f64.format.signWeight + (FloatKind.f64.format.infRung + f % FloatKind.f64.format.binade) else FloatKind.f64.format.infRung + f % FloatKind.f64.format.binade) % FloatKind.f64.format.signWeight = 9218868437227405312 + f % 4503599627370496 := by
      rw [e1, e2, e3]; split <;> omega
    simp only [hm]
    simp only [e2, e3]
    rw [if_neg (by omega), if_neg (by omega), if_neg (by omega)]
    rfl
theorem quiet_ne (f : Nat) : (FloatKind.f64.format.quiet f) % 4503599627370496 ≠ 0 := by
  show (f ||| 2 ^ 51) % 2 ^ 52 ≠ 0
  intro h
  have h1 : ((f ||| 2 ^ 51) % 2 ^ 52).testBit 51 = true := by rw [Nat.testBit_mod_two_pow, Nat.testBit_or, Nat.testBit_two_pow_self]; simp
  rw [h] at h1
  simp at h1
theorem read_nan {a : Nat} {s : Bool} {f : Nat} (h : FloatKind.f64.decode a = .nan s f) : f < 4503599627370496 ∧ 0 < f := by
  have e1 : FloatKind.f64.format.signWeight = 9223372036854775808 := rfl
  have e2 : FloatKind.f64.format.binade = 4503599627370496 := rfl
  have e3 : FloatKind.f64.format.infRung = 9218868437227405312 := rfl
  unfold FloatKind.decode Ieee.Format.read at h
  simp only [e1, e2, e3] at h
  have hq : a % 9223372036854775808 < 9223372036854775808 := Nat.mod_lt _ (by omega)
  generalize a % 9223372036854775808 = q at h hq
  split at h
  · cases h
  · split at h
    · cases h
    · split at h
      · cases h
      · simp only [Ieee.Datum.nan.injEq] at h
        omega
theorem fint_nan {way : Ieee.Toward} {a : Nat} (h : fnan .f64 a = true) : fint way a = nanOf .f64 := by
  obtain ⟨s, f, hd⟩ := isNaN_eq h
  have hr := read_nan hd
  unfold fint
  rw [hd]
  rcases quiet_nan s f with h1 | h1
  · exact cf_of_nan h1
  · omega
theorem fint_cf (way : Ieee.Toward) (a : Nat) : fint way (cf .f64 a) = fint way a := by
  cases h : fnan .f64 a
  · rw [cf_of_not h]
  · rw [cf_of_nan h, fint_nan h, fint_nan (nanOf_nan _)]

def integralOf (way : Ieee.Toward) (a : Nat) : Ieee.Datum → Sem Value
  | .nan s t =>
      if FloatKind.f64.format.quiet t = t then pure (.float .f64 a) else do
      let kept ← choose (.extern "math.Floor,Ceil,Trunc,RoundToEven.signallingNaN kept" 2)
      pure (.float .f64 (if kept == 1 then a else FloatKind.f64.encode (.nan s (FloatKind.f64.format.quiet t))))
  | d => pure (.float .f64 (FloatKind.f64.encode (d.integral way)))
theorem toIntegral_eq (nm : String) (way : Ieee.Toward) (a : Nat) : Extern.MathFloor.toIntegral nm way #[.float .f64 a] = integralOf way a (FloatKind.f64.decode a) := by
  show (match FloatKind.f64.decode a with
    | .nan s t => _
    | d => _) = _
  cases FloatKind.f64.decode a <;> rfl
theorem run_integral {P : Program} (nm : String) (way : Ieee.Toward) (a : Nat) (la : a < fmax .f64) (w : World) :
    ∃ c w', c < fmax .f64 ∧ (Extern.MathFloor.toIntegral nm way #[.float .f64 a]).run P w = .ok (.float .f64 c) w' ∧ cf .f64 c = fint way a ∧ (w' = w ∨ w' = w.drew) := by
  rw [toIntegral_eq]
  cases hd : FloatKind.f64.decode a with
  | number s g e => exact ⟨_, w, write_lt .f64 _, rfl, by unfold fint; rw [hd]; rfl, .inl rfl⟩
  | infinity s => exact ⟨_, w, write_lt .f64 _, rfl, by unfold fint; rw [hd]; rfl, .inl rfl⟩
  | nan s f =>
    have hn : fnan .f64 a = true := by unfold fnan; rw [hd]; rfl
    rw [fint_nan hn]
    by_cases hq : FloatKind.f64.format.quiet f = f
    · exact ⟨a, w, la, by simp only [integralOf, hq, if_true]; rfl, cf_of_nan hn, .inl rfl⟩
    · refine ⟨_, w.drew, ?_, by simp only [integralOf, hq, if_false]; rfl, ?_, .inr rfl⟩
      · split
        · exact la
        · exact write_lt .f64 _
      split
      · exact cf_of_nan hn
      · rcases quiet_nan s (FloatKind.f64.format.quiet f) with h1 | h1
        · exact cf_of_nan h1
        · exact absurd h1 (quiet_ne f)
theorem o_integral {f : FuncId} {nm : String} {way : Ieee.Toward} [hf : ExtT P f (Extern.MathFloor.toIntegral nm way)] {x : Operand} {ats : Array TypeId} {a : Nat} (hx : evalA t x = .float .f64 a := by (conv => (lhs; whnf)); first | done | rfl) (hd : Nat.blt d n = true := by rfl)
    (h : AOs P ops l K ⟨n, (d, .float .f64 (fint way a)) :: t, m⟩) : AOs P ops (⟨some d, .call { callee := .value (.func f), args := #[x], argTypes := ats }, ty, pos, af, none⟩ :: l) K ⟨n, t, m⟩ :=
  o_extG hx (fun a' w hc la => by
    obtain ⟨c, w', lc, hr, hcc, hw⟩ := run_integral (P := P) nm way a' la w
    refine ⟨_, w', hr, fun r => ?_, hw⟩
    subst hc
    rw [fint_cf, ← hcc]
    exact VR.flt r _ c lc) hd h

theorem o_fneg {ut : TypeId} {x : Operand} {k : FloatKind} {a : Nat} (hx : evalA t x = .float k a := by (conv => (lhs; whnf)); first | done | rfl) (hn : fnan k a = false := by first | assumption | exact nn_of_fin (by assumption)) (hd : Nat.blt d n = true := by rfl) (h : AOs P ops l K ⟨n, (d, .float k (fneg k a)) :: t, m⟩) :
    AOs P ops (⟨some d, .unOp .neg ut x, ty, pos, af, none⟩ :: l) K ⟨n, t, m⟩ :=
  AOs.val (v := .float k (fneg k a)) rfl hd (fun _ _ r ac w hs => by
    have h1 := hs.eval x
    rw [hx] at h1
    obtain ⟨a', e1, c1, la⟩ := h1.float_inv
    have hn' : fnan k a' = false := by rw [← fnan_cf, c1]; exact hn
    rw [cf_of_not hn'] at c1
    subst c1
    exact ⟨.float k (Op.negFloat k a'), by simp [execOp, e1, Op.unary], VR.flt r k _ (neg_lt la)⟩) h
end

/-- What a word below the NaNs stands for. -/
theorem read_word {k : FloatKind} {s : Bool} {q : Nat} (h : q ≤ k.format.infRung) : k.decode (k.format.word s q) =
    if q < k.format.binade then .number s q k.format.leastPlace
    else if q < k.format.infRung then .number s (k.format.binade + q % k.format.binade) (k.format.leastPlace + (q / k.format.binade - 1 : Nat))
    else .infinity s := by
  have e1 : FloatKind.f64.format.signWeight = 9223372036854775808 := rfl
  have e3 : FloatKind.f64.format.infRung = 9218868437227405312 := rfl
  have e4 : FloatKind.f32.format.signWeight = 2147483648 := rfl
  have e6 : FloatKind.f32.format.infRung = 2139095040 := rfl
  have hm : k.format.word s q % k.format.signWeight = q := by
    unfold Ieee.Format.word
    cases k <;> simp only [e1, e3, e4, e6] at h ⊢ <;> split <;> omega
  have hs : (k.format.word s q / k.format.signWeight % 2 == 1) = s := by
    unfold Ieee.Format.word
    cases k <;> simp only [e1, e3, e4, e6] at h ⊢ <;> cases s <;> simp <;> omega
  unfold FloatKind.decode Ieee.Format.read
  simp only [hm, hs]
  split
  · rfl
  · split
    · rfl
    · rw [if_pos (by omega)]
theorem word_nn {k : FloatKind} {s : Bool} {q : Nat} (h : q ≤ k.format.infRung) : fnan k (k.format.word s q) = false := by
  unfold fnan
  rw [read_word h]
  split
  · rfl
  · split <;> rfl
theorem nearest_word (f : Ieee.Format) (s : Bool) (mg : Nat) (e : Int) : ∃ q, f.nearest s mg e = f.word s q ∧ q ≤ f.infRung := by
  unfold Ieee.Format.nearest
  split
  · exact ⟨0, rfl, Nat.zero_le _⟩
  · exact ⟨_, rfl, Nat.min_le_right _ _⟩
theorem write_nn {k : FloatKind} {d : Ieee.Datum} (h : d.isNaN = false) : fnan k (k.format.write d) = false := by
  cases d with
  | number s mg e =>
    obtain ⟨q, hq, hl⟩ := nearest_word k.format s mg e
    show fnan k (k.format.nearest s mg e) = false
    rw [hq]; exact word_nn hl
  | infinity s => exact word_nn (Nat.le_refl _)
  | nan s f => cases h

/-- A float that comes in is a word of its kind, and its NaN is the one. -/
def FltOk (k : FloatKind) (a : Nat) : Prop := a < fmax k ∧ cf k a = a
theorem nanOf_lt (k : FloatKind) : nanOf k < fmax k := by cases k <;> decide
theorem VR.fltOk {r : Ren} {k : FloatKind} {a : Nat} {y : Value} (h : VR r (.float k a) y) : FltOk k a := by
  obtain ⟨b, _, hc, hb⟩ := h.float_inv
  subst hc
  refine ⟨?_, cf_cf k b⟩
  cases hn : fnan k b
  · rw [cf_of_not hn]; exact hb
  · rw [cf_of_nan hn]; exact nanOf_lt k
theorem Pure.given {P : Program} {f : FuncId} {args : List Value} {M : Mem} {v : Value} {k : FloatKind} {a : Nat} (i : Nat) (hi : args[i]? = some (.float k a)) (h : FltOk k a → Pure P f args M v) : Pure P f args M v := by
  unfold Pure ACalls at h ⊢
  intro B0 w0 r w cargs hs hv
  have hl : i < cargs.length := by rw [← hv.1]; exact (List.getElem?_eq_some_iff.1 hi).1
  exact h (hv.2 i _ _ hi (List.getElem?_eq_getElem hl)).fltOk B0 w0 r w cargs hs hv
end Go.Proofs.Ytjghdagcmombnaa
