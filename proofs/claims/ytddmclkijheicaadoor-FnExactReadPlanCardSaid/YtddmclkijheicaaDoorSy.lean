/- Operations on strings; strings.Split at a blank. -/
import Derived.Test.YtddmclkijheicaaDoorSx
namespace Go.Proofs.YtddmclkijheicaaDoor
open Go.RowKit
attribute [local irreducible] AW AOs AO AQ AQW thenA inBlockA postA ACalls Pure
set_option linter.unusedSimpArgs false
set_option linter.unusedVariables false
set_option linter.unusedSectionVars false

section
variable {P : Program} {ops l : List Oper} {K : St → Prop} {n : Nat} {t : Env} {m : Mem} {d ty : Nat} {pos : String} {af : Array Edge}
theorem o_lenV {st : Nat} [ha : TyStr P st] {x : Operand} {s : List UInt8} (hx : evalA t x = strV s := by (conv => (lhs; whnf)); first | done | rfl) (hd : Nat.blt d n = true := by rfl)
    (h : AOs P ops l K ⟨n, (d, .int .i64 (s.length : Int)) :: t, m⟩) : AOs P ops (⟨some d, .call { callee := .builtin .len, args := #[x], argTypes := #[st] }, ty, pos, af, none⟩ :: l) K ⟨n, t, m⟩ :=
  o_lenS (s := ⟨s.toArray⟩) hx hd (by
    have e : (⟨s.toArray⟩ : ByteArray).size = s.length := List.size_toArray ..
    rw [e]; exact h)
theorem o_ixV {xt : TypeId} [ha : TyStr P xt] {x ix : Operand} {s : List UInt8} {ik : IntKind} {q : Nat} {b : UInt8} (hx : evalA t x = strV s := by (conv => (lhs; whnf)); first | done | rfl) (hi : evalA t ix = .int ik (q : Int) := by (conv => (lhs; whnf)); first | done | rfl) (hb : s[q]? = some b := by assumption) (hd : Nat.blt d n = true := by rfl)
    (h : AOs P ops l K ⟨n, (d, .int .u8 (b.toNat : Int)) :: t, m⟩) : AOs P ops (⟨some d, .index xt x ix, ty, pos, af, none⟩ :: l) K ⟨n, t, m⟩ :=
  AOs.val (v := .int .u8 (b.toNat : Int)) rfl hd (fun B0 w0 r a w hs => by
    have hx1 := hs.eval x
    have hi1 := hs.eval ix
    rw [hx] at hx1
    rw [hi] at hi1
    have hx2 := hx1.string_inv
    have hi2 := hi1.int_inv
    have hb2 : (⟨s.toArray⟩ : ByteArray)[q]? = some b := by
      have hl := (List.getElem?_eq_some_iff.1 hb)
      rw [getElem?_pos (⟨s.toArray⟩ : ByteArray) q (by show q < s.toArray.size; simpa using hl.1)]
      exact congrArg some hl.2
    refine ⟨.int .u8 (b.toNat : Int), ?_, VR.int r _ _⟩
    simp [execOp, hx2, hi2, Instr.index, asIntOf, run_underlying ha.out, hb2]) h
theorem ext_take (s : List UInt8) (a b : Nat) : (⟨s.toArray⟩ : ByteArray).extract a b = ⟨((s.take b).drop a).toArray⟩ := by
  have h := Lib.extract_data (⟨s.toArray⟩ : ByteArray) a b
  cases hE : (⟨s.toArray⟩ : ByteArray).extract a b with
  | mk d =>
    rw [hE] at h
    congr 1
    apply Array.ext'
    rw [h, List.drop_take]
/-- s[lo:hi] -/
theorem o_slV {xt : TypeId} [ha : TyStr P xt] {x lo hi : Operand} {s : List UInt8} {ik ik' : IntKind} {a b : Nat} (hx : evalA t x = strV s := by (conv => (lhs; whnf)); first | done | rfl) (hl : evalA t lo = .int ik (a : Int) := by (conv => (lhs; whnf)); first | done | rfl) (hh : evalA t hi = .int ik' (b : Int) := by (conv => (lhs; whnf)); first | done | rfl)
    (h1 : a ≤ b := by omega) (h2 : b ≤ s.length := by omega) {q : List UInt8} (hr : (s.take b).drop a = q := by rfl) (hd : Nat.blt d n = true := by rfl)
    (h : AOs P ops l K ⟨n, (d, strV q) :: t, m⟩) : AOs P ops (⟨some d, .slice xt x (some lo) (some hi) none, ty, pos, af, none⟩ :: l) K ⟨n, t, m⟩ := by
  subst hr
  exact AOs.val (v := strV ((s.take b).drop a)) rfl hd (fun B0 w0 r ac w hs => by
    have hx1 := hs.eval x
    have hl1 := hs.eval lo
    have hh1 := hs.eval hi
    rw [hx] at hx1
    rw [hl] at hl1
    rw [hh] at hh1
    have hx2 := hx1.string_inv
    have hl2 := hl1.int_inv
    have hh2 := hh1.int_inv
    have hsz : (⟨s.toArray⟩ : ByteArray).size = s.length := List.size_toArray ..
    refine ⟨strV ((s.take b).drop a), ?_, VR.string r _⟩
    simp [execOp, hx2, hl2, hh2, Instr.sliceAt, Instr.slice, Instr.sliceBounds, Instr.sliceBound, asIntOf, run_underlying ha.out, h1, h2, hsz, ext_take]) h
/-- s[lo:] -/
theorem o_slVL {xt : TypeId} [ha : TyStr P xt] {x lo : Operand} {s : List UInt8} {ik : IntKind} {a : Nat} (hx : evalA t x = strV s := by (conv => (lhs; whnf)); first | done | rfl) (hl : evalA t lo = .int ik (a : Int) := by (conv => (lhs; whnf)); first | done | rfl)
    (h1 : a ≤ s.length := by omega) {q : List UInt8} (hr : s.drop a = q := by rfl) (hd : Nat.blt d n = true := by rfl)
    (h : AOs P ops l K ⟨n, (d, strV q) :: t, m⟩) : AOs P ops (⟨some d, .slice xt x (some lo) none none, ty, pos, af, none⟩ :: l) K ⟨n, t, m⟩ := by
  subst hr
  exact AOs.val (v := strV (s.drop a)) rfl hd (fun B0 w0 r ac w hs => by
    have hx1 := hs.eval x
    have hl1 := hs.eval lo
    rw [hx] at hx1
    rw [hl] at hl1
    have hx2 := hx1.string_inv
    have hl2 := hl1.int_inv
    have hsz : (⟨s.toArray⟩ : ByteArray).size = s.length := List.size_toArray ..
    refine ⟨strV (s.drop a), ?_, VR.string r _⟩
    simp [execOp, hx2, hl2, Instr.sliceAt, Instr.slice, Instr.sliceBounds, Instr.sliceBound, asIntOf, run_underlying ha.out, h1, hsz, ext_take, List.take_of_length_le]) h
theorem strV_beq (a b : List UInt8) : ((⟨a.toArray⟩ : ByteArray).toList == (⟨b.toArray⟩ : ByteArray).toList) = decide (a = b) := by
  rw [Lib.toList_data, Lib.toList_data]
  have e1 : (⟨a.toArray⟩ : ByteArray).data.toList = a := by simp
  have e2 : (⟨b.toArray⟩ : ByteArray).data.toList = b := by simp
  rw [e1, e2]
  by_cases h : a = b
  · rw [decide_eq_true h, h]; exact beq_self_eq_true b
  · rw [decide_eq_false h]; exact beq_eq_false_iff_ne.2 h
theorem o_seqV {xt yt : TypeId} {x y : Operand} {a b : List UInt8} (hx : evalA t x = strV a := by (conv => (lhs; whnf)); first | done | rfl) (hy : evalA t y = strV b := by (conv => (lhs; whnf)); first | done | rfl) (hd : Nat.blt d n = true := by rfl) (h : AOs P ops l K ⟨n, (d, .bool (decide (a = b))) :: t, m⟩) :
    AOs P ops (⟨some d, .binOp .eql xt x y yt, ty, pos, af, none⟩ :: l) K ⟨n, t, m⟩ :=
  o_bin hx hy (rig_string _) (rig_string _) (fun w => by
    show ((pure (.bool ((⟨a.toArray⟩ : ByteArray).toList == (⟨b.toArray⟩ : ByteArray).toList)) : Sem Value)).run P w = _
    rw [strV_beq]; rfl) (fun r => VR.bool r _) hd h
theorem o_sneV {xt yt : TypeId} {x y : Operand} {a b : List UInt8} (hx : evalA t x = strV a := by (conv => (lhs; whnf)); first | done | rfl) (hy : evalA t y = strV b := by (conv => (lhs; whnf)); first | done | rfl) (hd : Nat.blt d n = true := by rfl) (h : AOs P ops l K ⟨n, (d, .bool (!decide (a = b))) :: t, m⟩) :
    AOs P ops (⟨some d, .binOp .neq xt x y yt, ty, pos, af, none⟩ :: l) K ⟨n, t, m⟩ :=
  o_bin hx hy (rig_string _) (rig_string _) (fun w => by
    show ((pure (.bool !((⟨a.toArray⟩ : ByteArray).toList == (⟨b.toArray⟩ : ByteArray).toList)) : Sem Value)).run P w = _
    rw [strV_beq]; rfl) (fun r => VR.bool r _) hd h
end
/-- Words in a block. -/
abbrev wdsB (W : List (List UInt8)) (tg : Option Nat) : Blk := ⟨tab W.length fun q => strV (W.getD q []), tg, true⟩
theorem iSplit (s : List UInt8) (hl : s.length ≤ 1048576) (M : Mem) : Alloc Tryd.prog 13 [strV s, strV [32]] M (.slice (some ⟨M.length, 0, none⟩) (cutW 32 s).length (cutW 32 s).length) [wdsB (cutW 32 s) none] := by
  unfold Alloc ACalls
  intro B0 w0 r w cargs hs hc
  obtain ⟨a, b, rfl, ha, hb⟩ := two_args hc
  rw [ha.string_inv, hb.string_inv]
  obtain ⟨_, _, ⟨mx, hm⟩, _⟩ := hs.base.2 w hs.below
  have hsz : (⟨s.toArray⟩ : ByteArray).size = s.length := List.size_toArray ..
  have hd : (⟨s.toArray⟩ : ByteArray).data.toList = s := by simp
  have hW : (Lib.splitB ⟨#[32]⟩ 0 (Lib.countB ⟨s.toArray⟩ ⟨#[32]⟩) ⟨s.toArray⟩).map (·.data.toList) = cutW 32 s := by rw [splitB_cut, hd]
  have hlen : Lib.countB ⟨s.toArray⟩ ⟨#[32]⟩ + 1 = (cutW 32 s).length := by
    rw [← hW, List.length_map, Lib.splitB_all ⟨#[32]⟩ (by decide) 0 _ ⟨s.toArray⟩ rfl]
  refine (Tryd.strings_Split ⟨s.toArray⟩ ⟨#[32]⟩ mx w (by omega) hm (by decide)).mono ?_
  rintro e w' ⟨rfl, rfl⟩
  rw [hlen]
  generalize hB : Lib.splitB ⟨#[32]⟩ 0 (Lib.countB ⟨s.toArray⟩ ⟨#[32]⟩) ⟨s.toArray⟩ = B at hW ⊢
  have hBl : B.length = (cutW 32 s).length := by rw [← hW, List.length_map]
  have hv : VRs r (tab (cutW 32 s).length fun q => strV ((cutW 32 s).getD q [])) (B.map Value.string) := by
    refine ⟨by rw [tab_len, List.length_map, hBl], fun i x y hx hy => ?_⟩
    have hi : i < (cutW 32 s).length := by
      have := (List.getElem?_eq_some_iff.1 hx).1
      rwa [tab_len] at this
    rw [tab_get hi] at hx
    rw [List.getElem?_map] at hy
    obtain ⟨z, hz, rfl⟩ := Option.map_eq_some_iff.1 hy
    cases hx
    have e1 : (cutW 32 s).getD i [] = z.data.toList := by
      rw [← hW, List.getD_eq_getElem?_getD, List.getElem?_map, hz]; rfl
    rw [e1]
    exact .base rfl
  refine ⟨_, _, M ++ [wdsB (cutW 32 s) none], _, rfl, ⟨rfl, rfl⟩, hs.ext_new none w.heap.size, hs.push hv none (.inl rfl) _, ?_⟩
  exact .base ⟨w.heap.size, 0, _, rfl, by unfold addR; rw [if_pos ⟨rfl, rfl⟩], .inl ⟨rfl, rfl⟩⟩
end Go.Proofs.YtddmclkijheicaaDoor
