/- Numbers as sixteen letters: the program's, with Go's own formatting. -/
import Derived.Test.YtgdpcomemkimhaaGreatDoorHx
import Derived.Test.YtgdpcomemkimhaaGreatDoorCc
import Derived.Test.YtgdpcomemkimhaaGreatDoorOf
import Derived.Lib.ItoaLen
import Derived.Test.YtgdpcomemkimhaaGreatDoorJv
import Derived.Test.YtgdpcomemkimhaaGreatDoorFr
import Derived.Test.YtgdpcomemkimhaaGreatDoorDr2

namespace Go.Proofs.YtgdpcomemkimhaaGreatDoor
open Go.RowKit
attribute [local irreducible] AW AOs AO AQ AQW thenA inBlockA postA ACalls Pure
set_option linter.unusedSimpArgs false
set_option linter.unusedVariables false
set_option linter.unusedSectionVars false

section
variable {P : Program} {ops l : List Oper} {K : St → Prop} {n : Nat} {t : Env} {m : Mem} {d ty : Nat} {pos : String} {af : Array Edge}
theorem o_slArrLo {at_ len k e : Nat} [ha : ArrT P at_ len k e] {x lo : Operand} {j o o' q ln' : Nat} {ik : IntKind} (hx : evalA t x = .pointer (some ⟨j, o, none⟩) := by (conv => (lhs; whnf)); first | done | rfl) (hh : evalA t lo = .int ik (q : Int) := by (conv => (lhs; whnf)); first | done | rfl)
    (hle : q < len := by omega) (ho : o + q * k = o' := by first | (simp only [Int.toNat_natCast, Nat.zero_add, Nat.mul_one, Nat.reduceMul, Nat.reduceAdd, Int.reduceToNat]; rfl) | rfl) (hln : len - q = ln' := by rfl) (hd : Nat.blt d n = true := by rfl)
    (h : AOs P ops l K ⟨n, (d, .slice (some ⟨j, o', none⟩) ln' ln') :: t, m⟩) : AOs P ops (⟨some d, .slice at_ x (some lo) none none, ty, pos, af, none⟩ :: l) K ⟨n, t, m⟩ :=
  AOs.val (v := .slice (some ⟨j, o', none⟩) ln' ln') rfl hd (fun B0 w0 r a w hs => by
    subst hln
    have hx1 := hs.eval x
    have hh1 := hs.eval lo
    rw [hx] at hx1
    rw [hh] at hh1
    obtain ⟨c, z, he, hr⟩ := hx1.ptr_inv
    have hh2 := hh1.int_inv
    obtain ⟨hu, hsz⟩ := arr_facts (P := P) (at_ := at_)
    refine ⟨.slice (some ⟨c, zo none z + o', none⟩) (len - q) (len - q), ?_, .base ⟨c, z, len - q, rfl, hr, .inl ⟨rfl, rfl⟩⟩⟩
    have h1 : q ≤ len := by omega
    have h2 : len ≠ q := by omega
    have h3 : zo none z + o' = zo none z + o + q * k := by omega
    simp [execOp, he, hh2, Instr.sliceAt, Instr.sureAddr, Instr.sliceBounds, Instr.sliceBound, asIntOf, run_underlying hu, hsz, addr_add, h1, h2, h3]) h
section
variable {xt yt : TypeId} {x y : Operand} {k k' : IntKind} {a b c : Int}
theorem o_subE (he : a - b = c) (hx : evalA t x = .int k a := by (conv => (lhs; whnf)); first | done | rfl) (hy : evalA t y = .int k b := by (conv => (lhs; whnf)); first | done | rfl) (hf : Fits k c := by first | (refine fit_i64 ?_; omega) | (refine fit_u64 ?_; omega) | (refine fit_i16 ?_; omega) | (refine fit_u8 ?_; omega) | (refine fit_u32 ?_; omega) | (refine fit_i32 ?_; omega)) (hd : Nat.blt d n = true := by rfl) (h : AOs P ops l K ⟨n, (d, .int k c) :: t, m⟩) :
    AOs P ops (⟨some d, .binOp .sub xt x y yt, ty, pos, af, none⟩ :: l) K ⟨n, t, m⟩ := by
  subst he
  exact o_subS hx hy hf hd h
theorem o_bitsE3 {bop : BinOp} (he : bits bop k a b = c) (hop : bop = .and ∨ bop = .or ∨ bop = .xor ∨ bop = .andNot := by simp) (hx : evalA t x = .int k a := by (conv => (lhs; whnf)); first | done | rfl) (hy : evalA t y = .int k b := by (conv => (lhs; whnf)); first | done | rfl) (hd : Nat.blt d n = true := by rfl) (h : AOs P ops l K ⟨n, (d, .int k c) :: t, m⟩) :
    AOs P ops (⟨some d, .binOp bop xt x y yt, ty, pos, af, none⟩ :: l) K ⟨n, t, m⟩ := o_bits hop hx hy hd (he ▸ h)
theorem o_shrE3 (he : a.fdiv (2 ^ min b.toNat k.bits) = c) (hx : evalA t x = .int k a := by (conv => (lhs; whnf)); first | done | rfl) (hy : evalA t y = .int k' b := by (conv => (lhs; whnf)); first | done | rfl) (hb : 0 ≤ b := by omega) (hd : Nat.blt d n = true := by rfl) (h : AOs P ops l K ⟨n, (d, .int k c) :: t, m⟩) :
    AOs P ops (⟨some d, .binOp .shr xt x y yt, ty, pos, af, none⟩ :: l) K ⟨n, t, m⟩ := o_shr hx hy hb hd (he ▸ h)
end
end
theorem and15 {x : Nat} (h : x < 4294967296) : bits .and .u64 (x : Int) 15 = ((x % 16 : Nat) : Int) := by
  show IntKind.u64.wrap ((BitVec.ofInt 64 (x : Int) &&& BitVec.ofInt 64 ((15 : Nat) : Int)).toNat : Int) = _
  rw [BitVec.toNat_and, BitVec.ofInt_natCast, BitVec.ofInt_natCast, BitVec.toNat_ofNat, BitVec.toNat_ofNat, Nat.mod_eq_of_lt (show x < 2 ^ 64 by omega), Nat.mod_eq_of_lt (show 15 < 2 ^ 64 by omega)]
  have e : x &&& 15 = x % 16 := Nat.and_two_pow_sub_one_eq_mod x 4
  rw [e]
  exact wrap_fits (k := .u64) ⟨by omega, by omega⟩
theorem shr4 {x : Nat} : (x : Int).fdiv (2 ^ min (4 : Int).toNat IntKind.u64.bits) = ((x / 16 : Nat) : Int) := by
  show (x : Int).fdiv 16 = _
  rw [Int.fdiv_eq_ediv_of_nonneg _ (by decide)]
  rfl
theorem one_arg {r : Ren} {x : Value} {cargs : List Value} (h : VRs r [x] cargs) : ∃ a, cargs = [a] ∧ VR r x a := by
  have hl := h.1
  match cargs, hl with
  | [a], _ => exact ⟨a, rfl, h.2 0 x a rfl rfl⟩
theorem tz16 (w : World) (hcell : w.cell? ⟨8, 15, none⟩ = some (.int .u8 4)) : Calls Tryz.prog 179 #[.int .u64 16] w fun e w' => e = .returned (.int .i64 4) ∧ Below w.heap.size w w' := by
  have key : IntKind.u64.wrap (bits BinOp.and IntKind.u64 16 (IntKind.u64.wrap (-16)) * 285870213051353865) / 288230376151711744 = 15 := by decide +kernel
  go_enter Tryz.func179, Tryz.ntmps179
  go_wp2_with (simp only [key])
  go_ret
  exact ⟨rfl, Below.refl _ _⟩
theorem oTz64 (M : Mem) : Pure Tryz.prog 179 [.int .u64 16] M (.int .i64 4) :=
  Pure.ofFar (fun r => VR.int r _ _) fun B0 w0 r w cargs hs hc => by
    obtain ⟨a, rfl, ha⟩ := one_arg hc
    rw [ha.int_inv]
    exact tz16 w ((hs.base.2 w hs.below).2.1.cell (g := 8) (by kernel_rfl) 15 (by decide))
theorem oTz (M : Mem) : Pure Tryz.prog 171 [.int .u64 16] M (.int .i64 4) := by
  refine pure_of Tryz.func171 Tryz.ntmps171 rfl rfl (by repeat' (first | exact Flat.int _ _)) ?_
  simp only [envOf, Nat.zero_add, Nat.reduceAdd]
  repeat' (first | (refine d_AOs (h := ?_) ; first | refine o_move (h := ?_) | refine o_assign (h := ?_) | refine AOs.nil (h := ?_) | refine o_call (hc := (oTz64 _)) (h := ?_)) | (refine d_AW (h := ?_) ; first | refine AW.seq (h := ?_) | refine AW.region (h := ?_) | (refine AW.cond (ht := (fun hc => ?_)) (hf := (fun hc => ?_)) <;> (try (with_reducible first | exact absurd hc Bool.false_ne_true | exact absurd hc.symm Bool.false_ne_true)) <;> (try simp only [decide_eq_true_eq, decide_eq_false_iff_not, Int.ofNat_inj, Bool.not_eq_true', Bool.not_eq_false', Int.not_lt, Int.not_le] at hc) <;> (try (exfalso; omega)) <;> (try (exact absurd hc (by decide)))) | refine AW.ret (h := ?_) | refine AW.skip (h := ?_)) | (first | refine t_normal ?_) | (refine d_post (h := ?_) ; first | refine p_ret1 rfl (h := ?_)))
  all_goals rfl
instance : FnT Tryz.prog 170 := FnT.mk' Tryz.func170 (by kernel_rfl) (by kernel_rfl)
instance : FnT Tryz.prog 153 := FnT.mk' Tryz.func153 (by kernel_rfl) (by kernel_rfl)
instance : FnT Tryz.prog 124 := FnT.mk' Tryz.func124 (by kernel_rfl) (by kernel_rfl)
instance : FnT Tryz.prog 86 := FnT.mk' Tryz.func86 (by kernel_rfl) (by kernel_rfl)
instance : FnT Tryz.prog 88 := FnT.mk' Tryz.func88 (by kernel_rfl) (by kernel_rfl)
theorem oPow2 (M : Mem) : Pure Tryz.prog 170 [.int .i64 16] M (.bool true) := by
  refine pure_of Tryz.func170 Tryz.ntmps170 rfl rfl (by repeat' (first | exact Flat.bool _)) ?_
  simp only [envOf, Nat.zero_add, Nat.reduceAdd]
  repeat' (first | (refine d_AOs (h := ?_) ; first | refine o_move (h := ?_) | refine o_assign (h := ?_) | refine AOs.nil (h := ?_) | (refine d_bin (h := ?_) ; first | refine o_eqi (h := ?_) | refine o_subS (h := ?_) | refine o_bits (h := ?_))) | (refine d_AW (h := ?_) ; first | refine AW.seq (h := ?_) | refine AW.region (h := ?_) | refine AW.ret (h := ?_)) | (first | refine t_normal ?_) | (refine d_post (h := ?_) ; first | refine p_ret1 rfl (h := ?_)))
  all_goals rfl
theorem hb_zero (u : Nat) : (tab 65 fun q => Value.int .u8 (if 65 - 0 ≤ q then hxZ (hq u (64 - q) % 16) else 0)) = tab 65 fun _ => Value.int .u8 0 := tab_congr fun q hq8' => by rw [if_neg (by omega)]
theorem hb_put (u i p : Nat) (h : p + i = 64) : (tab 65 fun q => if q = p then Value.int .u8 (hxZ (hq u i % 16)) else Value.int .u8 (if 65 - i ≤ q then hxZ (hq u (64 - q) % 16) else 0)) = tab 65 fun q => Value.int .u8 (if 65 - (i + 1) ≤ q then hxZ (hq u (64 - q) % 16) else 0) := tab_congr fun q hq8' => by
  by_cases e : q = p
  · subst e
    rw [if_pos rfl, if_pos (by omega), show 64 - q = i by omega]
  · rw [if_neg e]
    by_cases e2 : 65 - (i + 1) ≤ q
    · rw [if_pos e2, if_pos (by omega)]
    · rw [if_neg e2, if_neg (by omega)]
theorem hb_full {u d p : Nat} (hp : p + d = 65) : ∀ i z, ((List.range d).map fun q => hxZ (hq u (d - 1 - q) % 16))[i]? = some z → (tab 65 fun q => Value.int .u8 (if 65 - d ≤ q then hxZ (hq u (64 - q) % 16) else 0))[p + i]? = some (.int .u8 z) := fun i z h => by
  have hi : i < d := by
    have := (List.getElem?_eq_some_iff.1 h).1
    simpa using this
  rw [List.getElem?_map, List.getElem?_range hi] at h
  simp only [Option.map_some, Option.some.injEq] at h
  rw [tab_get (by omega), if_pos (by omega), ← h, show 64 - (p + i) = d - 1 - i by omega]
set_option maxRecDepth 20000 in
set_option maxHeartbeats 16000000 in
theorem oFormatBits {u d : Nat} (hu : u < 4294967296) (hd : 1 ≤ d ∧ d ≤ 8) (h1 : ∀ i, i + 1 < d → 16 ≤ hq u i) (h2 : hq u (d - 1) < 16) (M : Mem) : Pure Tryz.prog 153 [.slice none 0 0, .int .u64 (u : Int), .int .i64 16, .bool false, .bool false] M (.tuple [.slice none 0 0, strV (hexN u d)].toArray) := by
  refine pure_of Tryz.func153 Tryz.ntmps153 rfl rfl (by repeat' (first | exact Flat.nilSlice _ _ | exact Flat.string _ | exact flat_nil | refine flat_tuple ?_ | refine flat_cons ?_ ?_)) ?_
  have hu0 : hq u 0 = u := rfl
  simp only [envOf, Nat.zero_add, Nat.reduceAdd]
  repeat' (first | (refine d_AOs (h := ?_) ; first | refine o_move (h := ?_) | refine o_assign (h := ?_) | refine AOs.nil (h := ?_) | (refine d_bin (h := ?_) ; first | refine o_lss (h := ?_) | refine o_eqi (h := ?_) | refine o_gtr (h := ?_) | refine o_subS (h := ?_)) | (refine d_grd (h := ?_) ; first | refine g_yes (h := ?_)) | refine o_call (hc := (oPow2 _)) (h := ?_) | refine o_call (hc := (oTz _)) (h := ?_) | refine o_pick (h := ?_) | refine o_alloc (h := ?_) | refine o_convS (h := ?_)) | (refine d_AW (h := ?_) ; first | refine AW.seq (h := ?_) | refine AW.region (h := ?_) | (refine AW.cond (ht := (fun hc => ?_)) (hf := (fun hc => ?_)) <;> (try (with_reducible first | exact absurd hc Bool.false_ne_true | exact absurd hc.symm Bool.false_ne_true)) <;> (try simp only [decide_eq_true_eq, decide_eq_false_iff_not, Int.ofNat_inj, Bool.not_eq_true', Bool.not_eq_false', Int.not_lt, Int.not_le] at hc) <;> (try (exfalso; omega)) <;> (try (exact absurd hc (by decide)))) | refine AW.block (h := ?_) | refine AW.skip (h := ?_)) | (first | refine t_normal ?_))
  all_goals try (exfalso; simp at hc; done)
  refine AW.loopN [0, 1, 3, 4, 10, 11, 12, 13, 14, 15, 16] (fun k st => ∃ i : Nat, i + k = d - 1 ∧ st = ⟨102, [(0, .slice none 0 0), (1, .int .u64 (hq u i : Int)), (3, .bool false), (4, .bool false), (10, .slice none 0 0), (11, .string ⟨#[]⟩), (12, .pointer (some ⟨M.length, 0, none⟩)), (13, .int .i64 (65 - (i : Int))), (14, .int .u64 4), (15, .int .u64 16), (16, .int .u64 15)], M ++ [⟨tab 65 fun q => .int .u8 (if 65 - i ≤ q then hxZ (hq u (64 - q) % 16) else 0), none, true⟩]⟩) (d - 1) ?_ ?_
  · exact ⟨0, by omega, by rw [hb_zero]; rfl⟩
  rintro k st ⟨i, hi, rfl⟩
  have hl := hq_le u 0 i (by omega)
  obtain ⟨p, hp⟩ : ∃ p, p + i = 64 := ⟨64 - i, by omega⟩
  have hT := hb_put u i p hp
  have hp1 : (65 : Int) - (i : Int) - 1 = (p : Int) := by omega
  by_cases hin : i + 1 < d
  · have h16 := h1 i hin
    have hs : hq u (i + 1) = hq u i / 16 := rfl
    have hx := dig36 (hq u i % 16) (by omega)
    have hA := and15 (x := hq u i) (by omega)
    have hp2 : (65 : Int) - ((i + 1 : Nat) : Int) = (p : Int) := by omega
    generalize hq u i = x at *
    repeat' (first | (refine d_AOs (h := ?_) ; first | refine o_move (h := ?_) | refine o_assign (h := ?_) | refine AOs.nil (h := ?_) | (refine d_bin (h := ?_) ; first | refine o_subE hp1 (h := ?_) | refine o_bitsE3 hA (h := ?_) | refine o_shrE3 (c := ((x / 16 : Nat) : Int)) shr4 (h := ?_) | refine o_geq (h := ?_)) | refine o_ixStr (by rfl) (by rfl) (hb := by rw [Int.toNat_natCast]; exact hx) (hz := by rfl) (h := ?_) | refine o_at (h := ?_) | refine o_store (h := ?_)) | (refine d_AW (h := ?_) ; first | refine AW.seq (h := ?_) | refine AW.region (h := ?_) | (refine AW.cond (ht := (fun hc => ?_)) (hf := (fun hc => ?_)) <;> (try (with_reducible first | exact absurd hc Bool.false_ne_true | exact absurd hc.symm Bool.false_ne_true)) <;> (try simp only [decide_eq_true_eq, decide_eq_false_iff_not, Int.ofNat_inj, Bool.not_eq_true', Bool.not_eq_false', Int.not_lt, Int.not_le] at hc) <;> (try (exfalso; omega)) <;> (try (exact absurd hc (by decide)))) | refine AW.block (h := ?_) | refine AW.skip (h := ?_)) | (first | refine t_normal ?_ | refine b_normal ?_))
    all_goals exact ⟨k - 1, by omega, i + 1, by omega, by rw [hT, hs, ← hp2]; rfl⟩
  · obtain rfl : i = d - 1 := by omega
    have hx := dig36 (hq u (d - 1)) (by omega)
    have hm : hq u (d - 1) % 16 = hq u (d - 1) := by omega
    rw [hm, show d - 1 + 1 = d by omega] at hT
    have hF := hb_full (u := u) (d := d) (p := p) (by omega)
    have hl2 : 65 - p = d := by omega
    have hN := hexN_of u d
    generalize hexN u d = res at *
    generalize hq u (d - 1) = x at *
    repeat' (first | (refine d_AOs (h := ?_) ; first | refine o_move (h := ?_) | refine o_assign (h := ?_) | refine AOs.nil (h := ?_) | (refine d_bin (h := ?_) ; first | refine o_subE hp1 (h := ?_) | refine o_geq (h := ?_)) | refine o_ixStr (by rfl) (by rfl) (hb := by rw [Int.toNat_natCast]; exact hx) (hz := by rfl) (h := ?_) | refine o_slArrLo (q := p) (ln' := d) (hln := hl2) (h := ?_) | refine o_b2s (g := (List.range d).map fun q => hxZ (hq u (d - 1 - q) % 16)) (by rfl) (by rfl) (by rfl) (hk := by simp) (hb := by first | (simp only [mem_tail, mem_tail0, List.getElem?_cons_zero, List.getElem?_cons_succ]; first | done | rfl) | exact mem_head (by assumption) | assumption | (simp only [mem_tailS, mem_tailS0, List.getElem?_cons_zero, List.getElem?_cons_succ]; first | done | rfl) | exact mem_set1 (by assumption) | exact mem_set0 (by assumption) | exact mem_setN1 (by assumption) (by assumption) | exact mem_setN (by assumption) (by assumption)) (hg := by rw [hT]; exact hF) (hz := hN) (h := ?_) | refine o_at (h := ?_) | refine o_store (h := ?_)) | (refine d_AW (h := ?_) ; first | refine AW.seq (h := ?_) | refine AW.region (h := ?_) | (refine AW.cond (ht := (fun hc => ?_)) (hf := (fun hc => ?_)) <;> (try (with_reducible first | exact absurd hc Bool.false_ne_true | exact absurd hc.symm Bool.false_ne_true)) <;> (try simp only [decide_eq_true_eq, decide_eq_false_iff_not, Int.ofNat_inj, Bool.not_eq_true', Bool.not_eq_false', Int.not_lt, Int.not_le] at hc) <;> (try (exfalso; omega)) <;> (try (exact absurd hc (by decide)))) | refine AW.ret (h := ?_) | refine AW.skip (h := ?_) | refine AW.exit (h := ?_)) | (first | refine t_normal ?_ | refine t_exit ?_ | refine b_exit ?_) | (refine d_post (h := ?_) ; first | refine p_ret2 rfl (h := ?_)))
    all_goals rfl
theorem oFormatUintI {u d : Nat} (hu : u < 4294967296) (hd : 1 ≤ d ∧ d ≤ 8) (h1 : ∀ i, i + 1 < d → 16 ≤ hq u i) (h2 : hq u (d - 1) < 16) (M : Mem) : Pure Tryz.prog 124 [.int .u64 (u : Int), .int .i64 16] M (strV (hexN u d)) := by
  refine pure_of Tryz.func124 Tryz.ntmps124 rfl rfl (Flat.string _) ?_
  have hF := fun M' => oFormatBits hu hd h1 h2 M'
  generalize hexN u d = res at *
  simp only [envOf, Nat.zero_add, Nat.reduceAdd]
  repeat' (first | (refine d_AOs (h := ?_) ; first | refine o_move (h := ?_) | refine o_assign (h := ?_) | refine AOs.nil (h := ?_) | (refine d_bin (h := ?_) ; first | refine o_eqi (h := ?_)) | refine o_call (hc := (hF _)) (h := ?_) | refine o_extract (h := ?_)) | (refine d_AW (h := ?_) ; first | refine AW.seq (h := ?_) | refine AW.region (h := ?_) | (refine AW.cond (ht := (fun hc => ?_)) (hf := (fun hc => ?_)) <;> (try (with_reducible first | exact absurd hc Bool.false_ne_true | exact absurd hc.symm Bool.false_ne_true)) <;> (try simp only [decide_eq_true_eq, decide_eq_false_iff_not, Int.ofNat_inj, Bool.not_eq_true', Bool.not_eq_false', Int.not_lt, Int.not_le] at hc) <;> (try (exfalso; omega)) <;> (try (exact absurd hc (by decide)))) | refine AW.ret (h := ?_) | refine AW.skip (h := ?_)) | (first | refine t_normal ?_) | (refine d_post (h := ?_) ; first | refine p_ret1 rfl (h := ?_)))
  all_goals first | rfl | (exfalso; simp at hc; done)
theorem oFormatUint {u d : Nat} (hu : u < 4294967296) (hd : 1 ≤ d ∧ d ≤ 8) (h1 : ∀ i, i + 1 < d → 16 ≤ hq u i) (h2 : hq u (d - 1) < 16) (M : Mem) : Pure Tryz.prog 86 [.int .u64 (u : Int), .int .i64 16] M (strV (hexN u d)) := by
  refine pure_of Tryz.func86 Tryz.ntmps86 rfl rfl (Flat.string _) ?_
  have hF := fun M' => oFormatUintI hu hd h1 h2 M'
  generalize hexN u d = res at *
  simp only [envOf, Nat.zero_add, Nat.reduceAdd]
  repeat' (first | (refine d_AOs (h := ?_) ; first | refine o_move (h := ?_) | refine o_assign (h := ?_) | refine AOs.nil (h := ?_) | refine o_call (hc := (hF _)) (h := ?_)) | (refine d_AW (h := ?_) ; first | refine AW.seq (h := ?_) | refine AW.region (h := ?_) | refine AW.ret (h := ?_)) | (first | refine t_normal ?_) | (refine d_post (h := ?_) ; first | refine p_ret1 rfl (h := ?_)))
  all_goals rfl
theorem rep_eq (b : UInt8) : ∀ c, Lib.repeatL [b] c = List.replicate c b
  | 0 => rfl
  | c + 1 => by rw [List.replicate_succ, ← rep_eq b c]; rfl
theorem iRepeat (c : Nat) (hc : c ≤ 1000) (M : Mem) : Pure Tryz.prog 88 [strV [48], .int .i64 (c : Int)] M (strV (List.replicate c 48)) :=
  Pure.ofFar (fun r => VR.string r _) fun B0 w0 r w cargs hs hcc => by
    obtain ⟨a, b, rfl, ha, hb⟩ := two_args hcc
    rw [ha.string_inv, hb.int_inv, ← rep_eq]
    exact Tryz.strings_Repeat ⟨#[48]⟩ c w (by omega) (by show 1 * c ≤ _; omega)
set_option maxHeartbeats 4000000 in
theorem iNumberText (a : Nat) (M : Mem) : Pure Tryz.prog 31 [.float .f32 a] M (strV (hexN a 8)) := by
  refine Pure.given 0 rfl fun ha => ?_
  have hlt := flt_lt ha
  obtain ⟨d, hd, h1, h2⟩ := hx_dg hlt
  rw [← hexN_pad hlt hd h2]
  refine pure_of Tryz.func31 Tryz.ntmps31 rfl rfl (Flat.string _) ?_
  have hB := fun M' => ibitsOf a M'
  have hF := fun M' => oFormatUint hlt hd h1 h2 M'
  have hR := fun M' => iRepeat (8 - d) (by omega) M'
  have hl := hexN_len a d
  have hs : (8 : Int) - ((⟨(hexN a d).toArray⟩ : ByteArray).size : Int) = ((8 - d : Nat) : Int) := by
    show (8 : Int) - (((hexN a d).toArray.size : Nat) : Int) = _
    rw [List.size_toArray, hl]; omega
  have hlen : (List.replicate (8 - d) (48 : UInt8)).length + (hexN a d).length ≤ 9223372036854775807 := by
    rw [List.length_replicate, hl]; omega
  clear h1 h2 ha
  generalize hexN a d = res at *
  generalize List.replicate (8 - d) (48 : UInt8) = zs at *
  simp only [envOf, Nat.zero_add, Nat.reduceAdd]
  repeat' (first | (refine d_AOs (h := ?_) ; first | refine o_move (h := ?_) | refine o_assign (h := ?_) | refine AOs.nil (h := ?_) | (refine d_bin (h := ?_) ; first | refine o_sadd (hl := hlen) (h := ?_) | refine o_subE hs (h := ?_)) | refine o_call (hc := (hB _)) (h := ?_) | refine o_call (hc := (hF _)) (h := ?_) | refine o_call (hc := (hR _)) (h := ?_) | refine o_lenS (h := ?_) | refine o_convS (h := ?_)) | (refine d_AW (h := ?_) ; first | refine AW.seq (h := ?_) | refine AW.region (h := ?_) | refine AW.ret (h := ?_)) | (first | refine t_normal ?_) | (refine d_post (h := ?_) ; first | refine p_ret1 rfl (h := ?_)))
  all_goals rfl
end Go.Proofs.YtgdpcomemkimhaaGreatDoor

/- Texts of plans. -/
namespace Go.Proofs.YtgdpcomemkimhaaGreatDoor
open Go.RowKit
attribute [local irreducible] AW AOs AO AQ AQW thenA inBlockA postA ACalls Pure
set_option linter.unusedSimpArgs false
set_option linter.unusedVariables false
set_option linter.unusedSectionVars false

end Go.Proofs.YtgdpcomemkimhaaGreatDoor

/- Texts of plans: the walks. -/
namespace Go.Proofs.YtgdpcomemkimhaaGreatDoor
open Go.RowKit
attribute [local irreducible] AW AOs AO AQ AQW thenA inBlockA postA ACalls Pure
set_option linter.unusedSimpArgs false
set_option linter.unusedVariables false
set_option linter.unusedSectionVars false

abbrev tD (x : Int) : List UInt8 := Lib.decDigits x.toNat
theorem tD_len (x : Int) (h : 0 ≤ x ∧ x < 1000000000) : (tD x).length ≤ 21 := by
  have := Lib.itoa_length_le x (by omega) (by omega)
  unfold Lib.itoa at this
  rw [if_neg (by omega)] at this
  exact this
theorem joinTail_app (sep : List UInt8) (r s : List (List UInt8)) : Lib.joinTail sep (r ++ s) = Lib.joinTail sep r ++ Lib.joinTail sep s := by simp [Lib.joinTail]
theorem join_app (x : List UInt8) (r s : List (List UInt8)) (sep : List UInt8) : Lib.join ((x :: r) ++ s) sep = Lib.join (x :: r) sep ++ Lib.joinTail sep s := by
  rw [List.cons_append, Lib.join_cons, Lib.join_cons, joinTail_app, List.append_assoc]
theorem iDec (x : Int) (h : 0 ≤ x ∧ x < 1000000000) (M : Mem) : Pure Tryz.prog 57 [.int .i64 x] M (strV (tD x)) := by
  have := idecimal x (by omega) (by omega) M
  unfold itoaV Lib.itoa at this
  rwa [if_neg (by omega)] at this
section
variable (a : Option Addr) (n cp : Nat) (b o : Int) (G : Nat → Nat → Bool) (T : Nat → Int)
/-- Joined words. -/
abbrev wdB (W : List (List UInt8)) (tg : Option Nat) : Blk := ⟨tab W.length fun q => strV (W.getD q []), tg, true⟩
theorem iJoinW (W : List (List UInt8)) (sep : List UInt8) (j cp2 : Nat) (tg : Option Nat) (M : Mem) (hb : M[j]? = some (wdB W tg)) (hcap : W.length ≤ cp2) (hn : W.length ≤ 1000000) (hlen : (Lib.join W sep).length ≤ 1000000) :
    Pure Tryz.prog 58 [.slice (some ⟨j, 0, tg⟩) W.length cp2, strV sep] M (strV (Lib.join W sep)) := by
  have e1 : (W.map fun l => (⟨l.toArray⟩ : ByteArray)).map (·.data.toList) = W := by
    rw [List.map_map]
    refine (List.map_congr_left fun l _ => ?_).trans (List.map_id W)
    simp
  have e2 : (W.map fun l => (⟨l.toArray⟩ : ByteArray)).length = W.length := by simp
  have h := iJoin (W.map fun l => (⟨l.toArray⟩ : ByteArray)) ⟨sep.toArray⟩ j cp2 tg true M (by
    have et : (tab W.length fun q => strV (W.getD q [])) = tab W.length fun q => Value.string ((W.map fun l => (⟨l.toArray⟩ : ByteArray)).getD q ByteArray.empty) := tab_congr fun q hq => by
      rw [List.getD_eq_getElem?_getD, List.getD_eq_getElem?_getD, List.getElem?_map, List.getElem?_eq_getElem hq]; rfl
    rw [hb]
    unfold wordsB
    rw [e2]
    show some (⟨tab W.length (fun q => strV (W.getD q [])), tg, true⟩ : Blk) = _
    rw [et]) (by rw [e2]; exact hcap) (by rw [e2]; omega) (by rw [e1]; show (Lib.join W sep).length ≤ _; omega)
  unfold joinB at h
  rw [e1, e2] at h
  exact h
theorem wd_flat (W : List (List UInt8)) (tg : Option Nat) : ∀ c ∈ (wdB W tg).cells, Flat c := flat_tabs fun i => Flat.string _
end
end Go.Proofs.YtgdpcomemkimhaaGreatDoor

/- Texts of junctions: the words, and the text of the reference. -/
namespace Go.Proofs.YtgdpcomemkimhaaGreatDoor
open Go.RowKit
attribute [local irreducible] AW AOs AO AQ AQW thenA inBlockA postA ACalls Pure
set_option linter.unusedSimpArgs false
set_option linter.unusedVariables false
set_option linter.unusedSectionVars false

/-! ### Plain -/
def jnK : List UInt8 := [106, 117, 110, 99, 116, 105, 111, 110]
/-- Words with numbers, and their text. -/
def nmW (a b : List UInt8) (f : Nat → Nat) : Nat → List (List UInt8)
  | 0 => [jnK, a, b]
  | c + 1 => nmW a b f c ++ [hexN (f c) 8]
def nmS (a b : List UInt8) (f : Nat → Nat) : Nat → List UInt8
  | 0 => (([106, 117, 110, 99, 116, 105, 111, 110, 32] ++ a) ++ [32]) ++ b
  | c + 1 => nmS a b f c ++ ([32] ++ hexN (f c) 8)
theorem nmW_cons (a b : List UInt8) (f : Nat → Nat) : ∀ c, ∃ r, nmW a b f c = jnK :: r
  | 0 => ⟨_, rfl⟩
  | c + 1 => by
    obtain ⟨r, hr⟩ := nmW_cons a b f c
    exact ⟨r ++ [hexN (f c) 8], by unfold nmW; rw [hr]; rfl⟩
theorem nm_eq (a b : List UInt8) (f : Nat → Nat) : ∀ c, Lib.join (nmW a b f c) [32] = nmS a b f c
  | 0 => by
    show Lib.join [jnK, a, b] [32] = _
    rw [Lib.join_cons]
    simp [Lib.joinTail, nmS, jnK]
  | c + 1 => by
    have ih := nm_eq a b f c
    obtain ⟨r, hr⟩ := nmW_cons a b f c
    show Lib.join (nmW a b f c ++ [hexN (f c) 8]) [32] = nmS a b f c ++ _
    rw [← ih, hr, join_app]
    simp [Lib.joinTail]
theorem nmW_len (a b : List UInt8) (f : Nat → Nat) : ∀ c, (nmW a b f c).length = 3 + c
  | 0 => rfl
  | c + 1 => by
    unfold nmW
    rw [List.length_append, nmW_len a b f c]
    simp; omega
theorem nmS_len {a b : List UInt8} (f : Nat → Nat) (ha : a.length ≤ 21) (hb : b.length ≤ 21) : ∀ c, (nmS a b f c).length ≤ 100 + 9 * c
  | 0 => by
    show ((([106, 117, 110, 99, 116, 105, 111, 110, 32] ++ a) ++ [32]) ++ b).length ≤ _
    simp only [List.length_append, List.length_cons, List.length_nil]; omega
  | c + 1 => by
    have ih := nmS_len f ha hb c
    show (nmS a b f c ++ _).length ≤ _
    simp only [List.length_append, List.length_cons, List.length_nil, hexN_len]; omega
/-- The numbers of a junction, in order. -/
def jF (n o : Nat) (h : Nat → Nat) (c : Nat) : Nat := if c < n * o then jA h (c / o) (c % o) else h (18 + (c - n * o))
theorem jF_1 {n o : Nat} {h : Nat → Nat} {i k : Nat} (hi : i < n) (hk : k < o) : jF n o h (i * o + k) = jA h i k := by
  have h1 : i * o + k < n * o := by
    have : (i + 1) * o ≤ n * o := Nat.mul_le_mul_right o (by omega)
    rw [Nat.add_mul, Nat.one_mul] at this
    omega
  unfold jF
  rw [if_pos h1, Nat.add_comm (i * o) k, Nat.add_mul_div_right _ _ (by omega), Nat.add_mul_mod_self_right, Nat.div_eq_of_lt hk, Nat.mod_eq_of_lt hk, Nat.zero_add]
theorem jF_2 {n o : Nat} {h : Nat → Nat} {i : Nat} : jF n o h (n * o + i) = h (18 + i) := by
  unfold jF
  rw [if_neg (by omega), show n * o + i - n * o = i by omega]
def jnS (n o : Nat) (h : Nat → Nat) (c : Nat) : List UInt8 := nmS (tD (n : Int)) (tD (o : Int)) (jF n o h) c
def jnT (n o : Nat) (h : Nat → Nat) : List UInt8 := jnS n o h (n * o + n)
theorem sm_tD {n : Nat} (h : n ≤ 4) : (tD (n : Int)).length ≤ 21 := tD_len _ (by omega)
theorem jnS_len {n o : Nat} {h : Nat → Nat} (hn : n ≤ 4) (ho : o ≤ 4) {c : Nat} (hc : c ≤ 20) : (jnS n o h c).length ≤ 1000 := by
  have := nmS_len (jF n o h) (sm_tD hn) (sm_tD ho) c
  unfold jnS
  omega
theorem mul_le16 {n o : Nat} (hn : n ≤ 4) (ho : o ≤ 4) : n * o ≤ 16 := Nat.mul_le_mul hn ho
theorem ix_le {n o i : Nat} (hi : i < n) : i * o + o ≤ n * o := by
  have : (i + 1) * o ≤ n * o := Nat.mul_le_mul_right o (by omega)
  rwa [Nat.add_mul, Nat.one_mul] at this

/-! ### The reference's text -/
section
variable (n o : Nat) (h : Nat → Nat)
end
theorem jnP_nat {ins outs : Int} {h : Nat → Nat} (hp : jnP ins outs h) : ∃ n o : Nat, ins = n ∧ outs = o ∧ (1 ≤ n ∧ n ≤ 4) ∧ (1 ≤ o ∧ o ≤ 4) := ⟨ins.toNat, outs.toNat, by have := hp.1; omega, by have := hp.2.1; omega, by have := hp.1; omega, by have := hp.2.1; omega⟩
/-- The text of a junction, if it is valid. -/
def jnX (ins outs : Int) (h : Nat → Nat) : List UInt8 := if jnP ins outs h then jnT ins.toNat outs.toNat h else []
end Go.Proofs.YtgdpcomemkimhaaGreatDoor

/- Memory with blocks of plain values. -/
namespace Go.Proofs.YtgdpcomemkimhaaGreatDoor
open Go.RowKit
attribute [local irreducible] AW AOs AO AQ AQW thenA inBlockA postA ACalls Pure
set_option linter.unusedSimpArgs false
set_option linter.unusedVariables false
set_option linter.unusedSectionVars false

theorem next_TT {M T G : Mem} {m : Mem} (h : m = M ++ (T ++ G)) : m = (M ++ T) ++ G := by rw [h, List.append_assoc]
theorem closed1 {M : Mem} (hM : Closed M.length M) {b1 : Blk} (h1 : ∀ x ∈ b1.cells, Flat x) : Closed (M ++ [b1]).length (M ++ [b1]) := by
  refine Closed.append (hM.mono (by simp)) fun x hx y hy => Bel.flat ?_
  simp only [List.mem_cons, List.not_mem_nil, or_false] at hx
  rcases hx with rfl
  exact h1 y hy
theorem closed3 {M : Mem} (hM : Closed M.length M) {b1 b2 b3 : Blk} (h1 : ∀ x ∈ b1.cells, Flat x) (h2 : ∀ x ∈ b2.cells, Flat x) (h3 : ∀ x ∈ b3.cells, Flat x) : Closed (M ++ [b1, b2, b3]).length (M ++ [b1, b2, b3]) := by
  refine Closed.append (hM.mono (by simp)) fun x hx y hy => Bel.flat ?_
  simp only [List.mem_cons, List.not_mem_nil, or_false] at hx
  rcases hx with rfl | rfl | rfl
  all_goals first | exact h1 y hy | exact h2 y hy | exact h3 y hy
end Go.Proofs.YtgdpcomemkimhaaGreatDoor
