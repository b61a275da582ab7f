/- strings.Split at a blank, strconv.ParseInt, brought to the clean view. -/
import Derived.Test.YtddmclkijheicaaDoorTs
import Derived.Test.YtddmclkijheicaaDoorCu
import Derived.Test.YtddmclkijheicaaDoorAlloc
namespace Go.Proofs.YtddmclkijheicaaDoor
open Go.RowKit
attribute [local irreducible] AW AOs AO AQ AQW thenA inBlockA postA ACalls Pure
set_option linter.unusedSimpArgs false
set_option linter.unusedVariables false
set_option linter.unusedSectionVars false

instance : FnT Tryd.prog 13 := FnT.mk' Tryd.func13 (by kernel_rfl) (by kernel_rfl)
instance : FnT Tryd.prog 25 := FnT.mk' Tryd.func25 (by kernel_rfl) (by kernel_rfl)
theorem three_args {r : Ren} {x y z : Value} {cargs : List Value} (h : VRs r [x, y, z] cargs) : ∃ a b c, cargs = [a, b, c] ∧ VR r x a ∧ VR r y b ∧ VR r z c := by
  have hl := h.1
  match cargs, hl with
  | [a, b, c], _ => exact ⟨a, b, c, rfl, h.2 0 x a rfl rfl, h.2 1 y b rfl rfl, h.2 2 z c rfl rfl⟩
theorem Pure.ofFar2 {P : Program} {f : FuncId} {args : List Value} {M : Mem} {v : Value}
    (h : ∀ B0 w0 r w (cargs : List Value), Sim B0 w0 r M w → VRs r args cargs → Calls P f cargs.toArray w fun e w' => ∃ y, e = .returned y ∧ VR r v y ∧ Below w.heap.size w w') : Pure P f args M v := by
  unfold Pure ACalls
  exact fun B0 w0 r w cargs hs hc => (h B0 w0 r w cargs hs hc).mono fun e w' ⟨y, he, hy, hb⟩ => ⟨y, v, M, r, he, ⟨rfl, rfl⟩, Ext.refl r, hs.far hb, hy⟩
/-- What ParseInt says besides the number. -/
def pnE (l : List UInt8) : Value := match Lib.parseIntB 64 l with
  | .ok _ => .nilIface
  | _ => .iface 86 dead
theorem VR.dead {r : Ren} {y : Value} : VR r dead y := .base trivial
theorem iParseInt (s : List UInt8) (hl : s.length ≤ 281474976710656) (M : Mem) : Pure Tryd.prog 25 [strV s, .int .i64 10, .int .i64 64] M (.tuple [.int .i64 (pnV s), pnE s].toArray) :=
  Pure.ofFar2 fun B0 w0 r w cargs hs hc => by
    obtain ⟨a, b, c, rfl, ha, hb, hc'⟩ := three_args hc
    rw [ha.string_inv, hb.int_inv, hc'.int_inv]
    obtain ⟨_, _, _, ⟨t1, p1, h1⟩, ⟨t2, p2, h2⟩⟩ := hs.base.2 w hs.below
    have hd : (⟨s.toArray⟩ : ByteArray).data.toList = s := by simp
    have hsz : (⟨s.toArray⟩ : ByteArray).size ≤ 281474976710656 := by show s.toArray.size ≤ _; simpa using hl
    unfold pnV pnE
    cases hp : Lib.parseIntB 64 s with
    | ok v =>
      refine (Tryd.strconv_ParseInt_10_at64_ok ⟨s.toArray⟩ (by omega) v (by rw [hd]; exact hp) w).mono ?_
      rintro e w' ⟨rfl, hw⟩
      refine ⟨_, rfl, .tuple _ _ rfl fun i x y hx hy => ?_, ?_⟩
      · rcases i with _ | _ | i
        · cases hx; cases hy; exact VR.int r _ _
        · cases hx; cases hy; exact .base rfl
        · simp at hx
      · rcases hw with rfl | ⟨t, rfl⟩
        · exact Below.refl _ _
        · exact Lib.bytesWorld_below _ _ _
    | «syntax» =>
      refine (Tryd.strconv_ParseInt_10_at64_syntax_var ⟨s.toArray⟩ hsz (by rw [hd]; exact hp) t1 p1 w h1).mono ?_
      rintro e w' ⟨N, rfl, _, _, hw⟩
      refine ⟨_, rfl, .tuple _ _ rfl fun i x y hx hy => ?_, hw⟩
      rcases i with _ | _ | i
      · cases hx; cases hy; exact VR.int r _ _
      · cases hx; cases hy; exact .iface _ _ _ VR.dead
      · simp at hx
    | range =>
      refine (Tryd.strconv_ParseInt_10_at64_range_var ⟨s.toArray⟩ hsz (by rw [hd]; exact hp) t2 p2 w h2).mono ?_
      rintro e w' ⟨N, rfl, _, _, hw⟩
      rw [hd]
      refine ⟨_, rfl, .tuple _ _ rfl fun i x y hx hy => ?_, hw⟩
      rcases i with _ | _ | i
      · cases hx; cases hy; exact VR.int r _ _
      · cases hx; cases hy; exact .iface _ _ _ VR.dead
      · simp at hx
section
variable {P : Program} {ops l : List Oper} {K : St → Prop} {n : Nat} {t : Env} {m : Mem} {d ty : Nat} {pos : String} {af : Array Edge}
def isNilI : Value → Option Bool
  | .nilIface => some true
  | .iface _ _ => some false
  | _ => none
/-- An interface value against nil. -/
theorem o_eqIf {xt yt : TypeId} {ms : Array (String × TypeId)} {x : Operand} {v : Value} {bb : Bool} (hu : P.underlying xt = some (.interface ms)) (hx : evalA t x = v := by (conv => (lhs; whnf)); first | done | rfl) (hb : isNilI v = some bb) (hd : Nat.blt d n = true := by rfl)
    (h : AOs P ops l K ⟨n, (d, .bool bb) :: t, m⟩) : AOs P ops (⟨some d, .binOp .eql xt x (.const .nilIface) yt, ty, pos, af, none⟩ :: l) K ⟨n, t, m⟩ :=
  AOs.val (v := .bool bb) rfl hd (fun B0 w0 r ac w hs => by
    have hx1 := hs.eval x
    rw [hx] at hx1
    refine ⟨.bool bb, ?_, VR.bool r _⟩
    have hev : ac.eval (.const .nilIface) = .nilIface := rfl
    cases v with
    | nilIface =>
      have he := hx1.nilIface_inv
      have : bb = true := by simpa [isNilI] using hb.symm
      subst this
      have heq : (Op.equal xt .nilIface .nilIface).run P w = .ok true w := by
        show (Op.equalIn (9999 + 1) xt .nilIface .nilIface).run P w = _
        unfold Op.equalIn
        simp [run_underlying hu]
      simp [execOp, he, hev, eqGuard, binOp, heq]
    | iface ti v' =>
      obtain ⟨z, he, _⟩ := hx1.iface_inv
      have : bb = false := by simpa [isNilI] using hb.symm
      subst this
      have heq : (Op.equal xt (.iface ti z) .nilIface).run P w = .ok false w := by
        show (Op.equalIn (9999 + 1) xt (.iface ti z) .nilIface).run P w = _
        unfold Op.equalIn
        simp [run_underlying hu]
      simp [execOp, he, hev, eqGuard, binOp, heq]
    | _ => simp [isNilI] at hb) h
end
end Go.Proofs.YtddmclkijheicaaDoor
