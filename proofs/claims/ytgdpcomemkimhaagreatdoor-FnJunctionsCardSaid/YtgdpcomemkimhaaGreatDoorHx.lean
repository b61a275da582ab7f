/- Texts: contracts of Go's library, brought to the clean view. -/
import Derived.Test.YtgdpcomemkimhaaGreatDoorDr2
import Derived.Test.YtgdpcomemkimhaaGreatDoorShelf
import Derived.Laws.BytesString
import Derived.Test.YtgdpcomemkimhaaGreatDoorFr
import Derived.WalkKit

namespace Go.Proofs.YtgdpcomemkimhaaGreatDoor
open Go.RowKit
attribute [local irreducible] AW AOs AO AQ AQW thenA inBlockA postA ACalls Pure
set_option linter.unusedSimpArgs false
set_option linter.unusedVariables false
set_option linter.unusedSectionVars false

theorem Sim.far {B0 : Nat} {w0 : World} {r : Ren} {M : Mem} {w w' : World} (hs : Sim B0 w0 r M w) (hb : Below w.heap.size w w') : Sim B0 w0 r M w' := by
  have hsz : B0 ≤ w.heap.size := Nat.le_trans hs.base.1 hs.below.size
  refine ⟨hs.below.trans (hb.mono hsz), hs.base, hs.dom, fun j t c z h => Nat.lt_of_lt_of_le (hs.lt j t c z h) hb.size, fun j b hj => ?_, hs.inj⟩
  rcases hs.blk j b hj with h | ⟨c, z, hr, hok⟩
  · exact .inl h
  · exact .inr ⟨c, z, hr, hok.mono (Ext.refl r) (hb.block c (hs.lt j b.tag c z hr))⟩
theorem Pure.ofFar {P : Program} {f : FuncId} {args : List Value} {M : Mem} {v : Value} (hv : ∀ r, VR r v v)
    (h : ∀ B0 w0 r w (cargs : List Value), Sim B0 w0 r M w → VRs r args cargs → Calls P f cargs.toArray w fun e w' => e = .returned v ∧ Below w.heap.size w w') : Pure P f args M v := by
  unfold Pure ACalls
  exact fun B0 w0 r w cargs hs hc => (h B0 w0 r w cargs hs hc).mono fun e w' ⟨he, hb⟩ => ⟨v, v, M, r, he, ⟨rfl, rfl⟩, Ext.refl r, hs.far hb, hv r⟩
theorem two_args {r : Ren} {x y : Value} {cargs : List Value} (h : VRs r [x, y] cargs) : ∃ a b, cargs = [a, b] ∧ VR r x a ∧ VR r y b := by
  have hl := h.1
  match cargs, hl with
  | [a, b], _ => exact ⟨a, b, rfl, h.2 0 x a rfl rfl, h.2 1 y b rfl rfl⟩
theorem grow_far (w : World) (k : Nat) (os : Array Obj) : Below w.heap.size w (Go.Sort.grow (w.drewN k) os) :=
  ⟨rfl, rfl, rfl, by simp [Go.Sort.grow, World.drewN], fun i hi => by
    show (w.heap ++ os)[i]? = _
    rw [Array.getElem?_append_left hi]⟩
instance : FnT Tryz.prog 105 := FnT.mk' Tryz.func105 (by kernel_rfl) (by kernel_rfl)
instance : FnT Tryz.prog 58 := FnT.mk' Tryz.func58 (by kernel_rfl) (by kernel_rfl)
/-- A number's text. -/
def itoaV (n : Int) : Value := .string ⟨(Lib.itoa n).toArray⟩
theorem iFormatInt (n : Int) (h0 : -9223372036854775808 ≤ n) (h1 : n ≤ 9223372036854775807) (M : Mem) : Pure Tryz.prog 105 [.int .i64 n, .int .i64 10] M (itoaV n) :=
  Pure.ofFar (fun r => .base rfl) fun B0 w0 r w cargs hs hc => by
    obtain ⟨a, b, rfl, ha, hb⟩ := two_args hc
    rw [ha.int_inv, hb.int_inv]
    refine (Tryz.strconv_FormatInt_10 n h0 h1 w (hs.base.2 w hs.below).1).mono ?_
    rintro e w' ⟨rfl, k, os, rfl⟩
    exact ⟨rfl, grow_far w k os⟩
theorem idecimal (n : Int) (h0 : -9223372036854775808 ≤ n) (h1 : n ≤ 9223372036854775807) (M : Mem) : Pure Tryz.prog 57 [.int .i64 n] M (itoaV n) := by
  refine pure_of Tryz.func57 Tryz.ntmps57 rfl rfl (by unfold itoaV; exact Flat.string _) ?_
  have hF := fun M' => iFormatInt n h0 h1 M'
  generalize itoaV n = v at *
  simp only [envOf, Nat.zero_add, Nat.reduceAdd]
  repeat' (first | (refine d_AOs (h := ?_) ; first | refine o_move (h := ?_) | refine o_assign (h := ?_) | refine AOs.nil (h := ?_) | refine o_call (hc := (hF _)) (h := ?_)) | (refine d_AW (h := ?_) ; first | refine AW.seq (h := ?_) | refine AW.region (h := ?_) | refine AW.ret (h := ?_)) | (first | refine t_normal ?_) | (refine d_post (h := ?_) ; first | refine p_ret1 rfl (h := ?_)))
  all_goals rfl
/-- Words, one after the other, with a text between. -/
def joinB (L : List ByteArray) (sep : ByteArray) : ByteArray := ⟨(Lib.join (L.map (·.data.toList)) sep.data.toList).toArray⟩
abbrev wordsB (L : List ByteArray) (tg : Option Nat) (rw' : Bool) : Blk := ⟨tab L.length fun q => .string (L.getD q ByteArray.empty), tg, rw'⟩
theorem iJoin (L : List ByteArray) (sep : ByteArray) (j cp : Nat) (tg : Option Nat) (rw' : Bool) (M : Mem) (hb : M[j]? = some (wordsB L tg rw')) (hcap : L.length ≤ cp) (hn : L.length ≤ 140737488355328) (hlen : (Lib.join (L.map (·.data.toList)) sep.data.toList).length ≤ 140737488355328) :
    Pure Tryz.prog 58 [.slice (some ⟨j, 0, tg⟩) L.length cp, .string sep] M (.string (joinB L sep)) :=
  Pure.ofFar (fun r => .base rfl) fun B0 w0 r w cargs hs hc => by
    obtain ⟨a, b, rfl, ha, hb'⟩ := two_args hc
    obtain ⟨c, z, m', rfl, hr, hm⟩ := ha.slice_inv
    rw [hb'.string_inv]
    refine (Tryz.strings_Join c _ m' L sep w (fun i x hx => ?_) (hs.lt _ _ _ _ hr) hn ?_ hlen).mono fun e w' h => h
    · have hil := (List.getElem?_eq_some_iff.1 hx).1
      obtain ⟨y, hy, hvr⟩ := hs.cell (i := i) (x := .string x) hb hr (by
        show (tab L.length fun q => Value.string (L.getD q ByteArray.empty))[i]? = _
        rw [tab_get hil, List.getD_eq_getElem?_getD, hx]; rfl)
      rw [hvr.string_inv] at hy
      exact hy
    · rcases hm with ⟨_, e⟩ | ⟨_, e, _⟩ <;> omega
end Go.Proofs.YtgdpcomemkimhaaGreatDoor

/- Strings: their sums, their equality, bytes as a string. -/
namespace Go.Proofs.YtgdpcomemkimhaaGreatDoor
open Go.RowKit
attribute [local irreducible] AW AOs AO AQ AQW thenA inBlockA postA ACalls Pure
set_option linter.unusedSimpArgs false
set_option linter.unusedVariables false
set_option linter.unusedSectionVars false

abbrev strV (l : List UInt8) : Value := .string ⟨l.toArray⟩
theorem bytes_app (a b : List UInt8) : ((⟨a.toArray⟩ : ByteArray) ++ ⟨b.toArray⟩) = ⟨(a ++ b).toArray⟩ := by
  apply ByteArray.ext
  rw [ByteArray.data_append]
  simp
section
variable {P : Program} {ops l : List Oper} {K : St → Prop} {n : Nat} {t : Env} {m : Mem} {d ty : Nat} {pos : String} {af : Array Edge}
theorem o_sadd {xt yt : TypeId} {x y : Operand} {a b : List UInt8} (hx : evalA t x = strV a := by (conv => (lhs; whnf)); first | done | rfl) (hy : evalA t y = strV b := by (conv => (lhs; whnf)); first | done | rfl) (hl : a.length + b.length ≤ 9223372036854775807 := by (simp only [List.length_append, List.length_cons, List.length_nil]; omega)) (hd : Nat.blt d n = true := by rfl) (h : AOs P ops l K ⟨n, (d, strV (a ++ b)) :: t, m⟩) :
    AOs P ops (⟨some d, .binOp .add xt x y yt, ty, pos, af, none⟩ :: l) K ⟨n, t, m⟩ :=
  o_bin hx hy (rig_string _) (rig_string _) (fun w => by
    have e : ¬ ((((⟨a.toArray⟩ : ByteArray).size + (⟨b.toArray⟩ : ByteArray).size : Nat) : Int) > IntKind.i64.max) := by
      show ¬ (((a.toArray.size + b.toArray.size : Nat) : Int) > 9223372036854775807)
      simp only [List.size_toArray]; omega
    show ((if (((⟨a.toArray⟩ : ByteArray).size + (⟨b.toArray⟩ : ByteArray).size : Nat) : Int) > IntKind.i64.max then _ else pure (.string (_ ++ _)) : Sem Value)).run P w = _
    rw [if_neg e, bytes_app]; rfl) (fun r => VR.string r _) hd h
theorem o_sneS {xt yt : TypeId} {x y : Operand} {a : List UInt8} (hx : evalA t x = strV a := by (conv => (lhs; whnf)); first | done | rfl) (hy : evalA t y = strV a := by (conv => (lhs; whnf)); first | done | rfl) (hd : Nat.blt d n = true := by rfl) (h : AOs P ops l K ⟨n, (d, .bool false) :: t, m⟩) :
    AOs P ops (⟨some d, .binOp .neq xt x y yt, ty, pos, af, none⟩ :: l) K ⟨n, t, m⟩ :=
  o_bin hx hy (rig_string _) (rig_string _) (fun w => by
    show ((pure (.bool !(_ == _)) : Sem Value)).run P w = _
    rw [beq_self_eq_true]; rfl) (fun r => VR.bool r _) hd h
end
end Go.Proofs.YtgdpcomemkimhaaGreatDoor

/- A byte of a constant string. -/
namespace Go.Proofs.YtgdpcomemkimhaaGreatDoor
open Go.RowKit
attribute [local irreducible] AW AOs AO AQ AQW thenA inBlockA postA ACalls Pure
set_option linter.unusedSimpArgs false
set_option linter.unusedVariables false
set_option linter.unusedSectionVars false

section
variable {P : Program} {ops l : List Oper} {K : St → Prop} {n : Nat} {t : Env} {m : Mem} {d ty : Nat} {pos : String} {af : Array Edge}
theorem o_ixStr {xt : TypeId} {x ix : Operand} {s : ByteArray} {ik : IntKind} {i : Int} {b : UInt8} {z : Int} (hu : P.underlying xt = some .string) (hx : evalA t x = .string s) (hi : evalA t ix = .int ik i := by (conv => (lhs; whnf)); first | done | rfl) (h0 : 0 ≤ i := by omega) (hb : s[i.toNat]? = some b) (hz : ((b.toNat : Nat) : Int) = z) (hd : Nat.blt d n = true := by rfl)
    (h : AOs P ops l K ⟨n, (d, .int .u8 z) :: t, m⟩) : AOs P ops (⟨some d, .index xt x ix, ty, pos, af, none⟩ :: l) K ⟨n, t, m⟩ :=
  AOs.val (v := .int .u8 z) rfl hd (fun B0 w0 r a w hs => by
    have hx1 := hs.eval x
    have hi1 := hs.eval ix
    rw [hx] at hx1
    rw [hi] at hi1
    have hx2 := hx1.string_inv
    have hi2 := hi1.int_inv
    refine ⟨.int .u8 z, ?_, VR.int r _ _⟩
    rw [← hz]
    simp [execOp, hx2, hi2, Instr.index, asIntOf, run_underlying hu, h0, hb]) h
end
end Go.Proofs.YtgdpcomemkimhaaGreatDoor

/- Numbers as sixteen letters: the reference's and the program's. -/
namespace Go.Proofs.YtgdpcomemkimhaaGreatDoor
open Go.RowKit
attribute [local irreducible] AW AOs AO AQ AQW thenA inBlockA postA ACalls Pure
set_option linter.unusedSimpArgs false
set_option linter.unusedVariables false
set_option linter.unusedSectionVars false

section
variable {P : Program} {ops l : List Oper} {K : St → Prop} {n : Nat} {t : Env} {m : Mem} {d ty : Nat} {pos : String} {af : Array Edge}
theorem push_all (zs : List Int) : ∀ r : ByteArray, zs.foldl (fun r n => r.push (UInt8.ofNat n.toNat)) r = ⟨(r.data.toList ++ zs.map fun z => UInt8.ofNat z.toNat).toArray⟩ := by
  induction zs with
  | nil => intro r; apply ByteArray.ext; simp
  | cons z zs ih =>
    intro r
    rw [List.foldl_cons, ih]
    apply ByteArray.ext
    simp [ByteArray.push]
/-- Some bytes of a block as a string. -/
theorem o_b2s {st dt e : TypeId} {x : Operand} {j o cp k : Nat} {tg : Option Nat} {b : Blk} {g : List Int} {u : List UInt8} (hu : P.underlying st = some (.slice e)) (hud : P.underlying dt = some .string) (hue : P.underlying e = some (.int .u8))
    (hx : evalA t x = .slice (some ⟨j, o, tg⟩) k cp := by (conv => (lhs; whnf)); first | done | rfl) (hk : g.length = k) (hb : m[j]? = some b) (htg : b.tag = tg := by rfl) (hg : ∀ i z, g[i]? = some z → b.cells[o + i]? = some (.int .u8 z)) (hz : (g.map fun z => UInt8.ofNat z.toNat) = u) (hd : Nat.blt d n = true := by rfl) (h : AOs P ops l K ⟨n, (d, strV u) :: t, m⟩) :
    AOs P ops (⟨some d, .convert st dt x, ty, pos, af, none⟩ :: l) K ⟨n, t, m⟩ :=
  AOs.val (v := strV u) rfl hd (fun B0 w0 r a w hs => by
    subst htg
    have hx1 := hs.eval x
    rw [hx] at hx1
    obtain ⟨c, z', m', he, hr, _⟩ := hx1.slice_inv
    refine ⟨strV u, ?_, VR.string r _⟩
    have hl := run_loadCells_list (P := P) w ⟨c, zo b.tag z' + o, none⟩ (g.map (Value.int .u8)) (fun i v hv => by
      rw [List.getElem?_map] at hv
      obtain ⟨q, hq, rfl⟩ := Option.map_eq_some_iff.1 hv
      obtain ⟨y, hy, hvr⟩ := hs.sim.cell (i := o + i) (x := .int .u8 q) hb hr (hg i q hq)
      rw [hvr.int_inv] at hy
      rw [addr_add, Nat.add_assoc]; exact hy)
    rw [List.length_map, hk] at hl
    have hB := run_bytesToString (P := P) w ⟨c, zo b.tag z' + o, none⟩ k m' g hl
    rw [push_all, hz] at hB
    have hC : (convert st dt (.slice (some ⟨c, zo b.tag z' + o, none⟩) k m')).run P w = .ok (strV u) w := by
      unfold convert
      simp only [Sem.run_bind, run_underlying hu, run_underlying hud, run_underlying hue, Result.andThen]
      exact hB
    simp only [execOp, he, Sem.run_bind, hC, Result.andThen]
    rfl) h
end
/-- The sixteen letters. -/
def hxB (x : Nat) : UInt8 := ([48, 49, 50, 51, 52, 53, 54, 55, 56, 57, 97, 98, 99, 100, 101, 102] : List UInt8).getD x 0
abbrev hxZ (x : Nat) : Int := ((hxB x).toNat : Nat)
theorem dig36 : ∀ x, x < 16 → (⟨#[48, 49, 50, 51, 52, 53, 54, 55, 56, 57, 97, 98, 99, 100, 101, 102, 103, 104, 105, 106, 107, 108, 109, 110, 111, 112, 113, 114, 115, 116, 117, 118, 119, 120, 121, 122]⟩ : ByteArray)[x]? = some (hxB x) := by decide
/-- What is left of u behind i digits. -/
def hq (u : Nat) : Nat → Nat
  | 0 => u
  | i + 1 => hq u i / 16
theorem hq8 {u : Nat} (h : u < 4294967296) : hq u 8 = 0 := by
  show u / 16 / 16 / 16 / 16 / 16 / 16 / 16 / 16 = 0
  omega
theorem hq_le (u : Nat) : ∀ i j, i ≤ j → hq u j ≤ hq u i
  | i, 0, h => by
    obtain rfl : i = 0 := (by omega)
    exact Nat.le_refl _
  | i, j + 1, h => by
    by_cases e : i = j + 1
    · subst e; exact Nat.le_refl _
    · exact Nat.le_trans (Nat.div_le_self _ _) (hq_le u i j (by omega))
/-- How many digits. -/
theorem hx_dg {u : Nat} (h : u < 4294967296) : ∃ d, (1 ≤ d ∧ d ≤ 8) ∧ (∀ i, i + 1 < d → 16 ≤ hq u i) ∧ hq u (d - 1) < 16 := by
  have h8 := hq8 h
  have key : ∀ n, n ≤ 8 → (∃ d, (1 ≤ d ∧ d ≤ 8) ∧ (∀ i, i + 1 < d → 16 ≤ hq u i) ∧ hq u (d - 1) < 16) ∨ ∀ i, i < n → 16 ≤ hq u i := fun n => by
    induction n with
    | zero => exact fun _ => .inr fun i hi => by omega
    | succ n ih =>
      intro hn
      rcases ih (by omega) with h1 | h1
      · exact .inl h1
      · by_cases h2 : hq u n < 16
        · exact .inl ⟨n + 1, ⟨by omega, hn⟩, fun i hi => h1 i (by omega), h2⟩
        · exact .inr fun i hi => by
            by_cases e : i = n
            · subst e; omega
            · exact h1 i (by omega)
  rcases key 8 (by omega) with h1 | h1
  · exact h1
  · have := h1 7 (by omega)
    have e : hq u 8 = hq u 7 / 16 := rfl
    omega
/-- The last d digits. -/
def hexN (u d : Nat) : List UInt8 := (List.range d).map fun q => hxB (hq u (d - 1 - q) % 16)
theorem hexN_len (u d : Nat) : (hexN u d).length = d := by simp [hexN]
theorem hexN_get {u d q : Nat} (h : q < d) : (hexN u d)[q]? = some (hxB (hq u (d - 1 - q) % 16)) := by simp [hexN, h]
theorem hexN_pad {u d : Nat} (hu : u < 4294967296) (hd : 1 ≤ d ∧ d ≤ 8) (h : hq u (d - 1) < 16) : List.replicate (8 - d) 48 ++ hexN u d = hexN u 8 := by
  apply List.ext_getElem?
  intro q
  by_cases hq8' : q < 8
  · rw [hexN_get hq8']
    by_cases h1 : q < 8 - d
    · rw [List.getElem?_append_left (by simpa using h1), List.getElem?_replicate, if_pos h1]
      have e : hq u (8 - 1 - q) = 0 := by
        have h2 : hq u d = 0 := by
          obtain ⟨e, rfl⟩ : ∃ e, d = e + 1 := ⟨d - 1, by omega⟩
          show hq u e / 16 = 0
          have : hq u e < 16 := h
          omega
        have := hq_le u d (8 - 1 - q) (by omega)
        omega
      rw [e]; rfl
    · rw [List.getElem?_append_right (by simpa using by omega), List.length_replicate, hexN_get (by omega)]
      rw [show d - 1 - (q - (8 - d)) = 8 - 1 - q by omega]
  · rw [List.getElem?_eq_none (by simp [hexN_len]; omega), List.getElem?_eq_none (by simp [hexN_len]; omega)]
theorem hxU (x : Nat) : UInt8.ofNat (hxZ x).toNat = hxB x := by
  show UInt8.ofNat ((((hxB x).toNat : Nat) : Int)).toNat = hxB x
  rw [Int.toNat_natCast]; exact UInt8.ofNat_toNat
theorem hexN_of (u d : Nat) : (((List.range d).map fun q => hxZ (hq u (d - 1 - q) % 16)).map fun z => UInt8.ofNat z.toNat) = hexN u d := by
  rw [List.map_map]
  unfold hexN
  exact List.map_congr_left fun q _ => hxU _

theorem flt_lt {a : Nat} (h : FltOk .f32 a) : a < 4294967296 := h.1
end Go.Proofs.YtgdpcomemkimhaaGreatDoor
