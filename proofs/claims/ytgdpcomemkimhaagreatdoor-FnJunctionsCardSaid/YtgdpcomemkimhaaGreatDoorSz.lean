/- strconv.ParseUint at base 16 and 32 bits: the inner function, walked by the kit's own words. -/
import Derived.Test.YtgdpcomemkimhaaGreatDoorSx
import Derived.WalkKit
import Derived.BigCall
import Derived.BigGuard
import Derived.Shelf.LaysM
import Derived.Shelf.Strconv.Lower
import Derived.Lib.Walk
import Derived.Lib.ConvBytes
import Derived.Lib.ParseIntBMem
import Derived.Lib.Hide
import Derived.Laws.Strings3
import Derived.Laws.Closers25
import Derived.Laws.Closers25b
import Derived.RowKitTokens
import Derived.Test.YtgdpcomemkimhaaGreatDoorOf
import Derived.Test.YtgdpcomemkimhaaGreatDoorCc

namespace Go.Proofs.YtgdpcomemkimhaaGreatDoor
open Go.RowKit

/-- A letter made small. -/
def lwC (c : UInt8) : Int := bits .or .u8 (c.toNat : Int) 32
/-- A digit of base 16, as strconv takes it. -/
def hxD (c : UInt8) : Option Nat :=
  if 48 ≤ c.toNat ∧ c.toNat ≤ 57 then some (c.toNat - 48)
  else if 97 ≤ lwC c ∧ lwC c ≤ 102 then some (lwC c - 87).toNat else none
def puM (acc : Nat) : List UInt8 → Lib.NumEnd Nat
  | [] => .ok acc
  | c :: r => match hxD c with
    | none => .«syntax»
    | some d => if 4294967295 < acc * 16 + d then .range else puM (acc * 16 + d) r
def puR (l : List UInt8) : Lib.NumEnd Nat := if l = [] then .«syntax» else puM 0 l
def intOfV : Value → Int | .int _ q => q | _ => 0
def puT (x : Lib.NumEnd Nat) : Value := match x with
  | .ok n => .tuple #[.int .u64 (n : Int), .nilIface]
  | .«syntax» => .tuple #[.int .u64 0, .iface 165 (.int .i64 2)]
  | .range => .tuple #[.int .u64 4294967295, .iface 165 (.int .i64 1)]
set_option maxHeartbeats 32000000 in
set_option maxRecDepth 100000 in
theorem cParseUint16 (t : ByteArray) (hne : t.size ≠ 0) (hmax : t.size ≤ 9223372036854775806) (w : World) :
    Calls Tryz.prog 122 #[.string t, .int .i64 16, .int .i64 32] w fun e w' => e = .returned (puT (puM 0 t.data.toList)) ∧ w' = Lib.bytesWorld w 5 t := by
  have hemp : t.toList.isEmpty = false := by
    rw [← decide_eq_emptyBytes]
    exact decide_eq_false (fun h => hne (by rw [h]; rfl))
  have hB : ∀ j, j < t.size → (Lib.bytesWorld w 5 t).cell? ⟨w.heap.size, j, none⟩ = some (.int .u8 (t.data.toList.getD j 0).toNat) := fun j hj => Lib.bytesWorld_cell w 5 t j hj
  have hmv : IntKind.u64.wrap (IntKind.u64.wrap 4294967296 - 1) = 4294967295 := by
    rw [IntKind.wrap_u64, IntKind.wrap_u64]
    decide
  go_enter Tryz.func122, Tryz.ntmps122
  obtain ⟨W1, hW1⟩ : ∃ W1, W1 = Lib.bytesWorld w 5 t := ⟨_, rfl⟩
  have hcv := Lib.run_convert_string_bytes (P := Tryz.prog) w 9 22 5 t (u := .string) Tryz.underlying9 Tryz.underlying22 Tryz.underlying5
  rw [← hW1] at hcv hB ⊢
  clear hW1
  obtain ⟨bs, hL⟩ : ∃ bs, bs = t.data.toList := ⟨_, rfl⟩
  have hLn : bs.length = t.size := by rw [hL, Lib.size_eq]
  rw [← hL] at hB ⊢
  clear hL
  go_wp2
  go_loop [12, 13, 101] (fun vu vn vi => ∃ (k acc : Nat) (a : Int), vu = .bool false ∧ vn = .int .u64 a ∧ vi = .int .i64 k ∧ k ≤ t.size ∧ Hid (a = (acc : Int) ∧ acc ≤ 4294967295 ∧ puM 0 bs = puM acc (bs.drop k)))
    (fun _ _ vi => t.size - (intOfV vi).toNat)
  case atStart => exact ⟨0, 0, 0, rfl, rfl, rfl, by omega, rfl, by omega, rfl⟩
  case round =>
    obtain ⟨k, acc, a, rfl, rfl, rfl, hk, hh⟩ := hrel
    obtain ⟨ha, hacc, hdec⟩ := hh.out
    clear hh
    have a0 : 0 ≤ a := by omega
    have a1 : a ≤ 4294967295 := by omega
    by_cases hkn : k < t.size
    · have hc := hB k hkn
      have hdrop : bs.drop k = bs[k]'(by omega) :: bs.drop (k + 1) := List.drop_eq_getElem_cons (by omega)
      have hget : bs.getD k 0 = bs[k]'(by omega) := by simp [List.getD, List.getElem?_eq_getElem (show k < bs.length by omega)]
      rw [hdrop] at hdec
      rw [hget] at hc
      generalize bs[k]'(by omega) = c at hc hdec
      have hc256 : c.toNat < 256 := c.toNat_lt
      clear hB hdrop hget
      have hv0 := bits_lo_u8 .or (c.toNat : Int) 32
      have hv1 := bits_hi_u8 .or (c.toNat : Int) 32
      have hlw : ∀ w, Calls Tryz.prog 144 #[.int .u8 (c.toNat : Int)] w fun e w' => e = .returned (.int .u8 (lwC c)) ∧ w' = w := fun w => Tryz.internal_strconv_lower _ w
      have hl0 : 0 ≤ lwC c ∧ lwC c ≤ 255 := ⟨hv0, by have := hv1; unfold lwC; omega⟩
      clear hv0 hv1
      have hX : hxD c = if 48 ≤ c.toNat ∧ c.toNat ≤ 57 then some (c.toNat - 48) else if 97 ≤ lwC c ∧ lwC c ≤ 102 then some (lwC c - 87).toNat else none := rfl
      have h95 : c.toNat = 95 → lwC c = 127 := fun e => by
        have e2 : c = 95 := UInt8.toNat_inj.1 e
        rw [e2]; decide
      generalize lwC c = l at *
      by_cases hdig : 48 ≤ c.toNat ∧ c.toNat ≤ 57
      · rw [if_pos hdig] at hX
        obtain ⟨hd0, hd1⟩ := hdig
        by_cases hov : 4294967295 < acc * 16 + (c.toNat - 48)
        · have hF : puM acc (c :: bs.drop (k + 1)) = .range := by simp [puM, hX, hov]
          rw [hF] at hdec
          have iov : 4294967295 < a * 16 + ((c.toNat : Int) - 48) := by omega
          clear hacc hF hov ha
          go_wp2
          go_ret2
          first | exact ⟨rfl, rfl⟩ | exact ⟨by rw [hdec]; rfl, rfl⟩
        · have hF : puM acc (c :: bs.drop (k + 1)) = puM (acc * 16 + (c.toNat - 48)) (bs.drop (k + 1)) := by simp [puM, hX, hov]
          have HN : Hid (a * 16 + ((c.toNat : Int) - 48) = ((acc * 16 + (c.toNat - 48) : Nat) : Int) ∧ acc * 16 + (c.toNat - 48) ≤ 4294967295 ∧ puM 0 bs = puM (acc * 16 + (c.toNat - 48)) (bs.drop (k + 1))) := ⟨by omega, by omega, by rw [hdec, hF]⟩
          have iov : a * 16 + ((c.toNat : Int) - 48) ≤ 4294967295 := by omega
          clear hacc hF hov hdec ha
          go_wp2
          refine ⟨⟨k + 1, acc * 16 + (c.toNat - 48), a * 16 + ((c.toNat : Int) - 48), rfl, (by first | rfl | (congr 1; omega)), (by first | rfl | (congr 1; omega)), by omega, HN⟩, by simp [intOfV]; omega⟩
      · rw [if_neg hdig] at hX
        have hnd : ∀ x : Nat, x = c.toNat → ¬ (48 ≤ x ∧ x ≤ 57) := fun x e => by rw [e]; exact hdig
        by_cases hA : 97 ≤ l ∧ l ≤ 102
        · rw [if_pos hA] at hX
          obtain ⟨hA1, hA2⟩ := hA
          have hn95 : c.toNat ≠ 95 := fun e => by have := h95 e; omega
          clear h95
          by_cases hov : 4294967295 < acc * 16 + (l - 87).toNat
          · have hF : puM acc (c :: bs.drop (k + 1)) = .range := by simp [puM, hX, hov]
            rw [hF] at hdec
            have iov : 4294967295 < a * 16 + (l - 97 + 10) := by omega
            clear hacc hF hov ha hX hl0
            by_cases hd0 : c.toNat < 48
            · clear hdig
              go_wp2_with (go_at_call 144; refine (hlw _).mono ?_; rintro e w' ⟨rfl, rfl⟩)
              go_ret2
              first | exact ⟨rfl, rfl⟩ | exact ⟨by rw [hdec]; rfl, rfl⟩
            · have hd1 : 57 < c.toNat := by omega
              clear hdig
              go_wp2_with (go_at_call 144; refine (hlw _).mono ?_; rintro e w' ⟨rfl, rfl⟩)
              go_ret2
              first | exact ⟨rfl, rfl⟩ | exact ⟨by rw [hdec]; rfl, rfl⟩
          · have hF : puM acc (c :: bs.drop (k + 1)) = puM (acc * 16 + (l - 87).toNat) (bs.drop (k + 1)) := by simp [puM, hX, hov]
            have HN : Hid (a * 16 + (l - 97 + 10) = ((acc * 16 + (l - 87).toNat : Nat) : Int) ∧ acc * 16 + (l - 87).toNat ≤ 4294967295 ∧ puM 0 bs = puM (acc * 16 + (l - 87).toNat) (bs.drop (k + 1))) := ⟨by omega, by omega, by rw [hdec, hF]⟩
            have iov : a * 16 + (l - 97 + 10) ≤ 4294967295 := by omega
            clear hacc hF hov hdec ha hX hl0
            by_cases hd0 : c.toNat < 48
            · clear hdig
              go_wp2_with (go_at_call 144; refine (hlw _).mono ?_; rintro e w' ⟨rfl, rfl⟩)
              refine ⟨⟨k + 1, acc * 16 + (l - 87).toNat, a * 16 + (l - 97 + 10), rfl, (by first | rfl | (congr 1; omega)), (by first | rfl | (congr 1; omega)), by omega, HN⟩, by simp [intOfV]; omega⟩
            · have hd1 : 57 < c.toNat := by omega
              clear hdig
              go_wp2_with (go_at_call 144; refine (hlw _).mono ?_; rintro e w' ⟨rfl, rfl⟩)
              refine ⟨⟨k + 1, acc * 16 + (l - 87).toNat, a * 16 + (l - 97 + 10), rfl, (by first | rfl | (congr 1; omega)), (by first | rfl | (congr 1; omega)), by omega, HN⟩, by simp [intOfV]; omega⟩
        · rw [if_neg hA] at hX
          have hF : puM acc (c :: bs.drop (k + 1)) = .«syntax» := by simp [puM, hX]
          rw [hF] at hdec
          clear hacc hF ha hX
          by_cases e95 : c.toNat = 95
          · have hl95 := h95 e95
            have e : (c.toNat : Int) = 95 := by omega
            rw [e] at hc hlw
            clear h95 hA hdig e e95 hc256
            subst hl95
            go_wp2_with (go_at_call 144; refine (hlw _).mono ?_; rintro e w' ⟨rfl, rfl⟩)
            all_goals go_ret2
            all_goals first | exact ⟨rfl, rfl⟩ | exact ⟨by rw [hdec]; rfl, rfl⟩
          · clear h95
            go_wp2_with (go_at_call 144; refine (hlw _).mono ?_; rintro e w' ⟨rfl, rfl⟩)
            all_goals go_ret2
            all_goals first | exact ⟨rfl, rfl⟩ | exact ⟨by rw [hdec]; rfl, rfl⟩
    · have hkk : k = t.size := by omega
      subst hkk
      have hF : puM acc (bs.drop t.size) = .ok acc := by rw [List.drop_eq_nil_of_le (by omega)]; rfl
      rw [hF] at hdec
      subst ha
      clear hacc hF a0 a1
      go_wp2
      go_ret2
      first | exact ⟨rfl, rfl⟩ | exact ⟨by rw [hdec]; rfl, rfl⟩
end Go.Proofs.YtgdpcomemkimhaaGreatDoor

/- Operations on strings; strings.Split at a blank. -/
namespace Go.Proofs.YtgdpcomemkimhaaGreatDoor
open Go.RowKit
attribute [local irreducible] AW AOs AO AQ AQW thenA inBlockA postA ACalls Pure
set_option linter.unusedSimpArgs false
set_option linter.unusedVariables false
set_option linter.unusedSectionVars false

section
variable {P : Program} {ops l : List Oper} {K : St → Prop} {n : Nat} {t : Env} {m : Mem} {d ty : Nat} {pos : String} {af : Array Edge}
theorem strV_beq (a b : List UInt8) : ((⟨a.toArray⟩ : ByteArray).toList == (⟨b.toArray⟩ : ByteArray).toList) = decide (a = b) := by
  rw [Lib.toList_data, Lib.toList_data]
  have e1 : (⟨a.toArray⟩ : ByteArray).data.toList = a := by simp
  have e2 : (⟨b.toArray⟩ : ByteArray).data.toList = b := by simp
  rw [e1, e2]
  by_cases h : a = b
  · rw [decide_eq_true h, h]; exact beq_self_eq_true b
  · rw [decide_eq_false h]; exact beq_eq_false_iff_ne.2 h
theorem o_seqV {xt yt : TypeId} {x y : Operand} {a b : List UInt8} (hx : evalA t x = strV a := by (conv => (lhs; whnf)); first | done | rfl) (hy : evalA t y = strV b := by (conv => (lhs; whnf)); first | done | rfl) (hd : Nat.blt d n = true := by rfl) (h : AOs P ops l K ⟨n, (d, .bool (decide (a = b))) :: t, m⟩) :
    AOs P ops (⟨some d, .binOp .eql xt x y yt, ty, pos, af, none⟩ :: l) K ⟨n, t, m⟩ :=
  o_bin hx hy (rig_string _) (rig_string _) (fun w => by
    show ((pure (.bool ((⟨a.toArray⟩ : ByteArray).toList == (⟨b.toArray⟩ : ByteArray).toList)) : Sem Value)).run P w = _
    rw [strV_beq]; rfl) (fun r => VR.bool r _) hd h
theorem o_sneV {xt yt : TypeId} {x y : Operand} {a b : List UInt8} (hx : evalA t x = strV a := by (conv => (lhs; whnf)); first | done | rfl) (hy : evalA t y = strV b := by (conv => (lhs; whnf)); first | done | rfl) (hd : Nat.blt d n = true := by rfl) (h : AOs P ops l K ⟨n, (d, .bool (!decide (a = b))) :: t, m⟩) :
    AOs P ops (⟨some d, .binOp .neq xt x y yt, ty, pos, af, none⟩ :: l) K ⟨n, t, m⟩ :=
  o_bin hx hy (rig_string _) (rig_string _) (fun w => by
    show ((pure (.bool !((⟨a.toArray⟩ : ByteArray).toList == (⟨b.toArray⟩ : ByteArray).toList)) : Sem Value)).run P w = _
    rw [strV_beq]; rfl) (fun r => VR.bool r _) hd h
theorem o_sneN {xt yt : TypeId} {x y : Operand} {a b : List UInt8} (hx : evalA t x = strV a := by (conv => (lhs; whnf)); first | done | rfl) (hy : evalA t y = strV b := by (conv => (lhs; whnf)); first | done | rfl) (hab : a ≠ b := by assumption) (hd : Nat.blt d n = true := by rfl) (h : AOs P ops l K ⟨n, (d, .bool true) :: t, m⟩) :
    AOs P ops (⟨some d, .binOp .neq xt x y yt, ty, pos, af, none⟩ :: l) K ⟨n, t, m⟩ := o_sneV hx hy hd (by rw [decide_eq_false hab]; exact h)
end
/-- Words in a block. -/
abbrev wdsB (W : List (List UInt8)) (tg : Option Nat) : Blk := ⟨tab W.length fun q => strV (W.getD q []), tg, true⟩
theorem iSplit (s : List UInt8) (hl : s.length ≤ 1048576) (M : Mem) : Alloc Tryz.prog 53 [strV s, strV [32]] M (.slice (some ⟨M.length, 0, none⟩) (cutW 32 s).length (cutW 32 s).length) [wdsB (cutW 32 s) none] := by
  unfold Alloc ACalls
  intro B0 w0 r w cargs hs hc
  obtain ⟨a, b, rfl, ha, hb⟩ := two_args hc
  rw [ha.string_inv, hb.string_inv]
  obtain ⟨_, _, ⟨mx, hm⟩, _⟩ := hs.base.2 w hs.below
  have hsz : (⟨s.toArray⟩ : ByteArray).size = s.length := List.size_toArray ..
  have hd : (⟨s.toArray⟩ : ByteArray).data.toList = s := by simp
  have hW : (Lib.splitB ⟨#[32]⟩ 0 (Lib.countB ⟨s.toArray⟩ ⟨#[32]⟩) ⟨s.toArray⟩).map (·.data.toList) = cutW 32 s := by rw [splitB_cut, hd]
  have hlen : Lib.countB ⟨s.toArray⟩ ⟨#[32]⟩ + 1 = (cutW 32 s).length := by
    rw [← hW, List.length_map, Lib.splitB_all ⟨#[32]⟩ (by decide) 0 _ ⟨s.toArray⟩ rfl]
  refine (Tryz.strings_Split ⟨s.toArray⟩ ⟨#[32]⟩ mx w (by omega) hm (by decide)).mono ?_
  rintro e w' ⟨rfl, rfl⟩
  rw [hlen]
  generalize hB : Lib.splitB ⟨#[32]⟩ 0 (Lib.countB ⟨s.toArray⟩ ⟨#[32]⟩) ⟨s.toArray⟩ = B at hW ⊢
  have hBl : B.length = (cutW 32 s).length := by rw [← hW, List.length_map]
  have hv : VRs r (tab (cutW 32 s).length fun q => strV ((cutW 32 s).getD q [])) (B.map Value.string) := by
    refine ⟨by rw [tab_len, List.length_map, hBl], fun i x y hx hy => ?_⟩
    have hi : i < (cutW 32 s).length := by
      have := (List.getElem?_eq_some_iff.1 hx).1
      rwa [tab_len] at this
    rw [tab_get hi] at hx
    rw [List.getElem?_map] at hy
    obtain ⟨z, hz, rfl⟩ := Option.map_eq_some_iff.1 hy
    cases hx
    have e1 : (cutW 32 s).getD i [] = z.data.toList := by
      rw [← hW, List.getD_eq_getElem?_getD, List.getElem?_map, hz]; rfl
    rw [e1]
    exact .base rfl
  refine ⟨_, _, M ++ [wdsB (cutW 32 s) none], _, rfl, ⟨rfl, rfl⟩, hs.ext_new none w.heap.size, hs.push hv none (.inl rfl) _, ?_⟩
  exact .base ⟨w.heap.size, 0, _, rfl, by unfold addR; rw [if_pos ⟨rfl, rfl⟩], .inl ⟨rfl, rfl⟩⟩
end Go.Proofs.YtgdpcomemkimhaaGreatDoor

/- Numbers that are read: the program's and the reference's; a text that is cut by the reference. -/
namespace Go.Proofs.YtgdpcomemkimhaaGreatDoor
open Go.RowKit
attribute [local irreducible] AW AOs AO AQ AQW thenA inBlockA postA ACalls Pure
set_option linter.unusedSimpArgs false
set_option linter.unusedVariables false
set_option linter.unusedSectionVars false

def pnB (s : List UInt8) : Bool := match Lib.parseIntB 64 s with
  | .ok v => decide (Lib.itoa v = s)
  | _ => false
set_option maxHeartbeats 2000000 in
theorem inumber (s : List UInt8) (hl : s.length ≤ 281474976710656) (M : Mem) : Pure Tryz.prog 54 [strV s] M (.tuple [.int .i64 (pnV s), .bool (pnB s)].toArray) := by
  refine pure_of Tryz.func54 Tryz.ntmps54 rfl rfl (by repeat' (first | exact Flat.bool _ | exact Flat.int _ _ | exact flat_nil | refine flat_tuple ?_ | refine flat_cons ?_ ?_)) ?_
  have hb := pnV_bd s
  have hP := fun M' => iParseInt s hl M'
  have hD := fun M' => idecimal (pnV s) hb.1 hb.2 M'
  unfold pnE at hP
  unfold pnB
  unfold itoaV at hD
  cases hp : Lib.parseIntB 64 s with
  | ok v =>
    have e : pnV s = v := by unfold pnV; rw [hp]
    rw [hp] at hP
    rw [e] at hP hD ⊢
    simp only at hP ⊢
    clear hb e hp
    generalize Lib.itoa v = w at *
    simp only [envOf, Nat.zero_add, Nat.reduceAdd]
    repeat' (first | (refine d_AOs (h := ?_) ; first | refine o_move (h := ?_) | refine o_assign (h := ?_) | refine AOs.nil (h := ?_) | (refine d_bin (h := ?_) ; first | refine o_eqIf (hu := Tryz.underlying111) (hb := by rfl) (h := ?_) | refine o_seqV (a := w) (b := s) (h := ?_)) | (refine d_grd (h := ?_) ; first | refine g_yes (h := ?_)) | refine o_call (hc := (hP _)) (h := ?_) | refine o_call (hc := (hD _)) (h := ?_) | refine o_pick (h := ?_) | refine o_extract (h := ?_)) | (refine d_AW (h := ?_) ; first | refine AW.seq (h := ?_) | refine AW.region (h := ?_) | refine AW.ret (h := ?_)) | (first | refine t_normal ?_) | (refine d_post (h := ?_) ; first | refine p_ret2 rfl (h := ?_)))
    all_goals first | rfl | (simp_all; done)
  | «syntax» =>
    rw [hp] at hP
    simp only at hP ⊢
    clear hb hD hp
    generalize pnV s = v at *
    simp only [envOf, Nat.zero_add, Nat.reduceAdd]
    repeat' (first | (refine d_AOs (h := ?_) ; first | refine o_move (h := ?_) | refine o_assign (h := ?_) | refine AOs.nil (h := ?_) | (refine d_bin (h := ?_) ; first | refine o_eqIf (hu := Tryz.underlying111) (hb := by rfl) (h := ?_)) | (refine d_grd (h := ?_) ; first | refine g_no (h := ?_)) | refine o_call (hc := (hP _)) (h := ?_) | refine o_pick (h := ?_) | refine o_extract (h := ?_)) | (refine d_AW (h := ?_) ; first | refine AW.seq (h := ?_) | refine AW.region (h := ?_) | refine AW.ret (h := ?_)) | (first | refine t_normal ?_) | (refine d_post (h := ?_) ; first | refine p_ret2 rfl (h := ?_)))
    all_goals first | rfl | (simp_all; done)
  | range =>
    rw [hp] at hP
    simp only at hP ⊢
    clear hb hD hp
    generalize pnV s = v at *
    simp only [envOf, Nat.zero_add, Nat.reduceAdd]
    repeat' (first | (refine d_AOs (h := ?_) ; first | refine o_move (h := ?_) | refine o_assign (h := ?_) | refine AOs.nil (h := ?_) | (refine d_bin (h := ?_) ; first | refine o_eqIf (hu := Tryz.underlying111) (hb := by rfl) (h := ?_)) | (refine d_grd (h := ?_) ; first | refine g_no (h := ?_)) | refine o_call (hc := (hP _)) (h := ?_) | refine o_pick (h := ?_) | refine o_extract (h := ?_)) | (refine d_AW (h := ?_) ; first | refine AW.seq (h := ?_) | refine AW.region (h := ?_) | refine AW.ret (h := ?_)) | (first | refine t_normal ?_) | (refine d_post (h := ?_) ; first | refine p_ret2 rfl (h := ?_)))
    all_goals first | rfl | (simp_all; done)
end Go.Proofs.YtgdpcomemkimhaaGreatDoor
