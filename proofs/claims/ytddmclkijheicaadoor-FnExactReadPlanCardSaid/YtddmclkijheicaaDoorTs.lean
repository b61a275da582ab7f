/- Strings: their sums, their equality, bytes as a string. -/
import Derived.Test.YtddmclkijheicaaDoorTx
import Derived.Laws.BytesString
namespace Go.Proofs.YtddmclkijheicaaDoor
open Go.RowKit
attribute [local irreducible] AW AOs AO AQ AQW thenA inBlockA postA ACalls Pure
set_option linter.unusedSimpArgs false
set_option linter.unusedVariables false
set_option linter.unusedSectionVars false

abbrev strV (l : List UInt8) : Value := .string ⟨l.toArray⟩
theorem bytes_app (a b : List UInt8) : ((⟨a.toArray⟩ : ByteArray) ++ ⟨b.toArray⟩) = ⟨(a ++ b).toArray⟩ := by
  apply ByteArray.ext
  rw [ByteArray.data_append]
  simp
section
variable {P : Program} {ops l : List Oper} {K : St → Prop} {n : Nat} {t : Env} {m : Mem} {d ty : Nat} {pos : String} {af : Array Edge}
theorem o_sadd {xt yt : TypeId} {x y : Operand} {a b : List UInt8} (hx : evalA t x = strV a := by (conv => (lhs; whnf)); first | done | rfl) (hy : evalA t y = strV b := by (conv => (lhs; whnf)); first | done | rfl) (hl : a.length + b.length ≤ 9223372036854775807 := by (simp only [List.length_append, List.length_cons, List.length_nil]; omega)) (hd : Nat.blt d n = true := by rfl) (h : AOs P ops l K ⟨n, (d, strV (a ++ b)) :: t, m⟩) :
    AOs P ops (⟨some d, .binOp .add xt x y yt, ty, pos, af, none⟩ :: l) K ⟨n, t, m⟩ :=
  o_bin hx hy (rig_string _) (rig_string _) (fun w => by
    have e : ¬ ((((⟨a.toArray⟩ : ByteArray).size + (⟨b.toArray⟩ : ByteArray).size : Nat) : Int) > IntKind.i64.max) := by
      show ¬ (((a.toArray.size + b.toArray.size : Nat) : Int) > 9223372036854775807)
      simp only [List.size_toArray]; omega
    show ((if (((⟨a.toArray⟩ : ByteArray).size + (⟨b.toArray⟩ : ByteArray).size : Nat) : Int) > IntKind.i64.max then _ else pure (.string (_ ++ _)) : Sem Value)).run P w = _
    rw [if_neg e, bytes_app]; rfl) (fun r => VR.string r _) hd h
theorem o_sneS {xt yt : TypeId} {x y : Operand} {a : List UInt8} (hx : evalA t x = strV a := by (conv => (lhs; whnf)); first | done | rfl) (hy : evalA t y = strV a := by (conv => (lhs; whnf)); first | done | rfl) (hd : Nat.blt d n = true := by rfl) (h : AOs P ops l K ⟨n, (d, .bool false) :: t, m⟩) :
    AOs P ops (⟨some d, .binOp .neq xt x y yt, ty, pos, af, none⟩ :: l) K ⟨n, t, m⟩ :=
  o_bin hx hy (rig_string _) (rig_string _) (fun w => by
    show ((pure (.bool !(_ == _)) : Sem Value)).run P w = _
    rw [beq_self_eq_true]; rfl) (fun r => VR.bool r _) hd h
/-- One byte as a string. -/
theorem o_b2s1 {st dt e : TypeId} {x : Operand} {j cp : Nat} {z : Int} {tg : Option Nat} {rw' : Bool} {u : UInt8} (hu : P.underlying st = some (.slice e)) (hud : P.underlying dt = some .string) (hue : P.underlying e = some (.int .u8))
    (hx : evalA t x = .slice (some ⟨j, 0, tg⟩) 1 cp := by (conv => (lhs; whnf)); first | done | rfl) (hb : m[j]? = some ⟨[.int .u8 z], tg, rw'⟩) (hz : UInt8.ofNat z.toNat = u) (hd : Nat.blt d n = true := by rfl) (h : AOs P ops l K ⟨n, (d, strV [u]) :: t, m⟩) :
    AOs P ops (⟨some d, .convert st dt x, ty, pos, af, none⟩ :: l) K ⟨n, t, m⟩ :=
  AOs.val (v := strV [u]) rfl hd (fun B0 w0 r a w hs => by
    have hx1 := hs.eval x
    rw [hx] at hx1
    obtain ⟨c, z', m', he, hr, _⟩ := hx1.slice_inv
    obtain ⟨y, hy, hvr⟩ := hs.sim.cell (i := 0) (x := .int .u8 z) hb hr rfl
    rw [hvr.int_inv] at hy
    refine ⟨strV [u], ?_, VR.string r _⟩
    have hl := run_loadCells_list (P := P) w ⟨c, zo tg z' + 0, none⟩ [.int .u8 z] (fun i v hv => by
      match i, hv with
      | 0, hv =>
        cases hv
        rw [addr_add]; exact hy)
    have hB := run_bytesToString (P := P) w ⟨c, zo tg z' + 0, none⟩ 1 m' [z] hl
    have hB2 : (Conv.bytesToString (.slice (some ⟨c, zo tg z' + 0, none⟩) 1 m')).run P w = .ok (strV [u]) w := by
      rw [hB, ← hz]; rfl
    have hC : (convert st dt (.slice (some ⟨c, zo tg z' + 0, none⟩) 1 m')).run P w = .ok (strV [u]) w := by
      unfold convert
      simp only [Sem.run_bind, run_underlying hu, run_underlying hud, run_underlying hue, Result.andThen]
      exact hB2
    simp only [execOp, he, Sem.run_bind, hC, Result.andThen]
    rfl) h
end
end Go.Proofs.YtddmclkijheicaaDoor
