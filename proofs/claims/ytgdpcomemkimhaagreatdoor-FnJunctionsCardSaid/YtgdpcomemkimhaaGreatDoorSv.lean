/- strconv.ParseUint at base 16; numbers that are read off sixteen letters. -/
import Derived.Test.YtgdpcomemkimhaaGreatDoorSz
import Derived.Test.YtgdpcomemkimhaaGreatDoorHl

namespace Go.Proofs.YtgdpcomemkimhaaGreatDoor
open Go.RowKit
attribute [local irreducible] AW AOs AO AQ AQW thenA inBlockA postA ACalls Pure
set_option linter.unusedSimpArgs false
set_option linter.unusedVariables false
set_option linter.unusedSectionVars false

instance fntPU16 : FnT Tryz.prog 122 := FnT.mk' Tryz.func122 (by kernel_rfl) (by kernel_rfl)
instance fntToError : FnT Tryz.prog 123 := FnT.mk' Tryz.func123 (by kernel_rfl) (by kernel_rfl)
instance fntParseUint : FnT Tryz.prog 84 := FnT.mk' Tryz.func84 (by kernel_rfl) (by kernel_rfl)
instance extFrom32 : ExtT Tryz.prog 85 Extern.MathFloatBits.float32frombits := ExtT.mk' Tryz.func85 (by kernel_rfl) (by kernel_rfl) (by kernel_rfl) (by kernel_rfl)
theorem VR.ifaceInt (r : Ren) (t : TypeId) (k : IntKind) (n : Int) : VR r (.iface t (.int k n)) (.iface t (.int k n)) := .iface _ _ _ (VR.int r k n)
theorem puT_VR (r : Ren) (x : Lib.NumEnd Nat) : VR r (puT x) (puT x) := by
  cases x with
  | ok n =>
    refine .tuple [.int .u64 (n : Int), .nilIface] [.int .u64 (n : Int), .nilIface] rfl fun i x y hx hy => ?_
    rcases i with _ | _ | i
    · cases hx; cases hy; exact VR.int r _ _
    · cases hx; cases hy; exact .base rfl
    · simp at hx
  | «syntax» =>
    refine .tuple [.int .u64 0, .iface 165 (.int .i64 2)] [.int .u64 0, .iface 165 (.int .i64 2)] rfl fun i x y hx hy => ?_
    rcases i with _ | _ | i
    · cases hx; cases hy; exact VR.int r _ _
    · cases hx; cases hy; exact VR.ifaceInt _ _ _ _
    · simp at hx
  | range =>
    refine .tuple [.int .u64 4294967295, .iface 165 (.int .i64 1)] [.int .u64 4294967295, .iface 165 (.int .i64 1)] rfl fun i x y hx hy => ?_
    rcases i with _ | _ | i
    · cases hx; cases hy; exact VR.int r _ _
    · cases hx; cases hy; exact VR.ifaceInt _ _ _ _
    · simp at hx
theorem iPU16 (s : List UInt8) (hl : s.length ≤ 281474976710656) (M : Mem) : Pure Tryz.prog 122 [strV s, .int .i64 16, .int .i64 32] M (puT (puR s)) :=
  Pure.ofFar2 fun B0 w0 r w cargs hs hc => by
    obtain ⟨a, b, c, rfl, ha, hb, hc'⟩ := three_args hc
    rw [ha.string_inv, hb.int_inv, hc'.int_inv]
    have hd : (⟨s.toArray⟩ : ByteArray).data.toList = s := by simp
    have hsz : (⟨s.toArray⟩ : ByteArray).size = s.length := List.size_toArray ..
    unfold puR
    by_cases he : s = []
    · subst he
      rw [if_pos rfl]
      refine (Tryz.internal_strconv_ParseUint_empty 16 32 w).mono ?_
      rintro e w' ⟨rfl, rfl⟩
      exact ⟨_, rfl, puT_VR r .«syntax», Below.refl _ _⟩
    · rw [if_neg he]
      have hp : 0 < s.length := List.length_pos_iff.2 he
      refine (cParseUint16 ⟨s.toArray⟩ (by omega) (by omega) w).mono ?_
      rintro e w' ⟨rfl, rfl⟩
      rw [hd]
      exact ⟨_, rfl, puT_VR r _, Lib.bytesWorld_below _ _ _⟩
theorem five_args {r : Ren} {x1 x2 x3 x4 x5 : Value} {cargs : List Value} (h : VRs r [x1, x2, x3, x4, x5] cargs) : ∃ a b c d e, cargs = [a, b, c, d, e] ∧ VR r x1 a ∧ VR r x2 b ∧ VR r x3 c ∧ VR r x4 d ∧ VR r x5 e := by
  have hl := h.1
  match cargs, hl with
  | [a, b, c, d, e], _ => exact ⟨a, b, c, d, e, rfl, h.2 0 x1 a rfl rfl, h.2 1 x2 b rfl rfl, h.2 2 x3 c rfl rfl, h.2 3 x4 d rfl rfl, h.2 4 x5 e rfl rfl⟩
theorem cell_of_var {P : Program} {w : World} {n : String} {g : Nat} {x : Value} (hg : P.globalNamed n = some g) (h : w.var? P n = some #[x]) : w.cell? ⟨g, 0, none⟩ = some x := by
  unfold World.var? at h
  rw [hg] at h
  simp only [Option.bind_some] at h
  unfold World.cell?
  cases hh : w.heap[g]? with
  | none => rw [hh] at h; cases h
  | some o =>
    rw [hh] at h
    cases o <;> simp at h ⊢
    case cells cs ty fr => subst h; rfl
theorem itoError (c : Int) (hcode : c = 1 ∨ c = 2) (f s : List UInt8) (hl : s.length ≤ 281474976710656) (b1 b2 : Int) (M : Mem) : Pure Tryz.prog 123 [strV f, strV s, .int .i64 b1, .int .i64 b2, .iface 165 (.int .i64 c)] M (.iface 168 dead) :=
  Pure.ofFar2 fun B0 w0 r w cargs hs hc => by
    obtain ⟨a1, a2, a3, a4, a5, rfl, h1, h2, h3, h4, h5⟩ := five_args hc
    obtain ⟨z, rfl, hz⟩ := h5.iface_inv
    rw [h1.string_inv, h2.string_inv, h3.int_inv, h4.int_inv, hz.int_inv]
    have hsz : (⟨s.toArray⟩ : ByteArray).size ≤ 281474976710656 := by show s.toArray.size ≤ _; simpa using hl
    obtain ⟨_, _, _, ⟨t1, p1, g1⟩, ⟨t2, p2, g2⟩⟩ := hs.base.2 w hs.below
    rcases hcode with rfl | rfl
    · refine (Tryz.strconv_toError_range ⟨f.toArray⟩ ⟨s.toArray⟩ b1 b2 _ w hsz (cell_of_var (by kernel_rfl) g2) (.inr ⟨_, _, rfl⟩)).mono ?_
      rintro e w' ⟨N, rfl, _, _, hw⟩
      exact ⟨_, rfl, .iface _ _ _ VR.dead, hw⟩
    · refine (Tryz.strconv_toError_syntax ⟨f.toArray⟩ ⟨s.toArray⟩ b1 b2 _ w hsz (cell_of_var (by kernel_rfl) g1) (.inr ⟨_, _, rfl⟩)).mono ?_
      rintro e w' ⟨N, rfl, _, _, hw⟩
      exact ⟨_, rfl, .iface _ _ _ VR.dead, hw⟩
section
variable {P : Program} {ops l : List Oper} {K : St → Prop} {n : Nat} {t : Env} {m : Mem} {d ty : Nat} {pos : String} {af : Array Edge}
theorem o_neIf {xt yt : TypeId} {ms : Array (String × TypeId)} {x : Operand} {v : Value} {bb : Bool} (hu : P.underlying xt = some (.interface ms)) (hx : evalA t x = v := by (conv => (lhs; whnf)); first | done | rfl) (hb : isNilI v = some bb) (hd : Nat.blt d n = true := by rfl)
    (h : AOs P ops l K ⟨n, (d, .bool (!bb)) :: t, m⟩) : AOs P ops (⟨some d, .binOp .neq xt x (.const .nilIface) yt, ty, pos, af, none⟩ :: l) K ⟨n, t, m⟩ :=
  AOs.val (v := .bool (!bb)) rfl hd (fun B0 w0 r ac w hs => by
    have hx1 := hs.eval x
    rw [hx] at hx1
    refine ⟨.bool (!bb), ?_, VR.bool r _⟩
    have hev : ac.eval (.const .nilIface) = .nilIface := rfl
    cases v with
    | nilIface =>
      have he := hx1.nilIface_inv
      have : bb = true := by simpa [isNilI] using hb.symm
      subst this
      have heq : (Op.equal xt .nilIface .nilIface).run P w = .ok true w := by
        show (Op.equalIn (9999 + 1) xt .nilIface .nilIface).run P w = _
        unfold Op.equalIn
        simp [run_underlying hu]
      simp [execOp, he, hev, eqGuard, binOp, heq]
    | iface ti v' =>
      obtain ⟨z, he, _⟩ := hx1.iface_inv
      have : bb = false := by simpa [isNilI] using hb.symm
      subst this
      have heq : (Op.equal xt (.iface ti z) .nilIface).run P w = .ok false w := by
        show (Op.equalIn (9999 + 1) xt (.iface ti z) .nilIface).run P w = _
        unfold Op.equalIn
        simp [run_underlying hu]
      simp [execOp, he, hev, eqGuard, binOp, heq]
    | _ => simp [isNilI] at hb) h
theorem o_from32 {f : FuncId} [hf : ExtT P f Extern.MathFloatBits.float32frombits] {x : Operand} {ats : Array TypeId} {a : Nat} (hx : evalA t x = .int .u32 (a : Int) := by (conv => (lhs; whnf)); first | done | rfl) (ha : a < 4294967296) {b : Nat} (hcf : cf .f32 a = b := by rfl) (hd : Nat.blt d n = true := by rfl)
    (h : AOs P ops l K ⟨n, (d, .float .f32 b) :: t, m⟩) : AOs P ops (⟨some d, .call { callee := .value (.func f), args := #[x], argTypes := ats }, ty, pos, af, none⟩ :: l) K ⟨n, t, m⟩ := by
  subst hcf
  exact AOs.val (v := .float .f32 (cf .f32 a)) rfl hd (fun B0 w0 r ac w hs => by
    have h1 := hs.eval x
    rw [hx] at h1
    have e1 := h1.int_inv
    refine ⟨.float .f32 a, ?_, .base ⟨a, rfl, rfl, ha⟩⟩
    have ef : ac.eval (.func f) = .func (.func f) #[] #[] := rfl
    have hr : (Extern.MathFloatBits.float32frombits #[.int .u32 (a : Int)]).run P w = .ok (.float .f32 a) w := by
      show (pure (Value.float .f32 ((a : Int).toNat)) : Sem Value).run P w = _
      rw [Int.toNat_natCast]; rfl
    simp [execOp, resolve, ef, Deferred.ofValue, invoke, hf.out, e1, hr, Result.andThen]) h
end
/-- What ParseUint answers. -/
def puN (s : List UInt8) : Nat := match puR s with
  | .ok n => n
  | .«syntax» => 0
  | .range => 4294967295
def puB (s : List UInt8) : Bool := match puR s with
  | .ok _ => true
  | _ => false
def puE (s : List UInt8) : Value := if puB s then .nilIface else .iface 168 dead
theorem puM_lt : ∀ (l : List UInt8) (a n : Nat), a < 4294967296 → puM a l = .ok n → n < 4294967296
  | [], a, n, ha, h => by
    have : a = n := by simpa [puM] using h
    omega
  | c :: r, a, n, ha, h => by
    unfold puM at h
    split at h
    · cases h
    · split at h
      · cases h
      · exact puM_lt r _ n (by omega) h
theorem puN_lt (s : List UInt8) : puN s < 4294967296 := by
  unfold puN
  cases h : puR s with
  | ok n =>
    unfold puR at h
    split at h
    · cases h
    · exact puM_lt s 0 n (by omega) h
  | «syntax» => simp
  | range => simp
set_option maxHeartbeats 2000000 in
theorem iParseUint (s : List UInt8) (hl : s.length ≤ 281474976710656) (M : Mem) : Pure Tryz.prog 84 [strV s, .int .i64 16, .int .i64 32] M (.tuple [.int .u64 (puN s : Int), puE s].toArray) := by
  have hP := fun M' => iPU16 s hl M'
  have h1 := fun M' => itoError 1 (.inl rfl) [80, 97, 114, 115, 101, 85, 105, 110, 116] s hl 16 32 M'
  have h2 := fun M' => itoError 2 (.inr rfl) [80, 97, 114, 115, 101, 85, 105, 110, 116] s hl 16 32 M'
  unfold puE puB puN
  refine pure_of Tryz.func84 Tryz.ntmps84 rfl rfl (by
    refine flat_tuple (flat_cons (Flat.int _ _) (flat_cons ?_ flat_nil))
    split
    · exact Flat.nilIface
    · exact Flat.iface _ _ (Flat.chan _)) ?_
  cases hp : puR s with
  | ok n =>
    rw [hp] at hP
    simp only [if_true] at hP ⊢
    unfold puT at hP
    clear h1 h2 hp
    simp only [envOf, Nat.zero_add, Nat.reduceAdd]
    repeat' (first | (refine d_AOs (h := ?_) ; first | refine o_move (h := ?_) | refine o_assign (h := ?_) | refine AOs.nil (h := ?_) | (refine d_bin (h := ?_) ; first | refine o_neIf (hu := Tryz.underlying111) (hb := by rfl) (h := ?_)) | refine o_call (hc := (hP _)) (h := ?_) | refine o_extract (h := ?_)) | (refine d_AW (h := ?_) ; first | refine AW.seq (h := ?_) | refine AW.region (h := ?_) | (refine AW.cond (ht := (fun hc => ?_)) (hf := (fun hc => ?_)) <;> (try (with_reducible first | exact absurd hc Bool.false_ne_true | exact absurd hc.symm Bool.false_ne_true)) <;> (try simp only [decide_eq_true_eq, decide_eq_false_iff_not, Int.ofNat_inj, Bool.not_eq_true', Bool.not_eq_false', Int.not_lt, Int.not_le] at hc) <;> (try (exfalso; omega)) <;> (try (exact absurd hc (by decide)))) | refine AW.ret (h := ?_) | refine AW.skip (h := ?_)) | (first | refine t_normal ?_) | (refine d_post (h := ?_) ; first | refine p_ret2 rfl (h := ?_)))
    all_goals first | rfl | (simp_all; done)
  | «syntax» =>
    rw [hp] at hP
    simp only [Bool.false_eq_true, if_false] at hP ⊢
    unfold puT at hP
    clear h1 hp
    simp only [envOf, Nat.zero_add, Nat.reduceAdd]
    repeat' (first | (refine d_AOs (h := ?_) ; first | refine o_move (h := ?_) | refine o_assign (h := ?_) | refine AOs.nil (h := ?_) | (refine d_bin (h := ?_) ; first | refine o_neIf (hu := Tryz.underlying111) (hb := by rfl) (h := ?_)) | refine o_call (hc := (hP _)) (h := ?_) | refine o_call (hc := (h2 _)) (h := ?_) | refine o_extract (h := ?_)) | (refine d_AW (h := ?_) ; first | refine AW.seq (h := ?_) | refine AW.region (h := ?_) | (refine AW.cond (ht := (fun hc => ?_)) (hf := (fun hc => ?_)) <;> (try (with_reducible first | exact absurd hc Bool.false_ne_true | exact absurd hc.symm Bool.false_ne_true)) <;> (try simp only [decide_eq_true_eq, decide_eq_false_iff_not, Int.ofNat_inj, Bool.not_eq_true', Bool.not_eq_false', Int.not_lt, Int.not_le] at hc) <;> (try (exfalso; omega)) <;> (try (exact absurd hc (by decide)))) | refine AW.ret (h := ?_)) | (first | refine t_normal ?_ | refine t_ret ?_) | (refine d_post (h := ?_) ; first | refine p_ret2 rfl (h := ?_)))
    all_goals first | rfl | (simp_all; done)
  | range =>
    rw [hp] at hP
    simp only [Bool.false_eq_true, if_false] at hP ⊢
    unfold puT at hP
    clear h2 hp
    simp only [envOf, Nat.zero_add, Nat.reduceAdd]
    repeat' (first | (refine d_AOs (h := ?_) ; first | refine o_move (h := ?_) | refine o_assign (h := ?_) | refine AOs.nil (h := ?_) | (refine d_bin (h := ?_) ; first | refine o_neIf (hu := Tryz.underlying111) (hb := by rfl) (h := ?_)) | refine o_call (hc := (hP _)) (h := ?_) | refine o_call (hc := (h1 _)) (h := ?_) | refine o_extract (h := ?_)) | (refine d_AW (h := ?_) ; first | refine AW.seq (h := ?_) | refine AW.region (h := ?_) | (refine AW.cond (ht := (fun hc => ?_)) (hf := (fun hc => ?_)) <;> (try (with_reducible first | exact absurd hc Bool.false_ne_true | exact absurd hc.symm Bool.false_ne_true)) <;> (try simp only [decide_eq_true_eq, decide_eq_false_iff_not, Int.ofNat_inj, Bool.not_eq_true', Bool.not_eq_false', Int.not_lt, Int.not_le] at hc) <;> (try (exfalso; omega)) <;> (try (exact absurd hc (by decide)))) | refine AW.ret (h := ?_)) | (first | refine t_normal ?_ | refine t_ret ?_) | (refine d_post (h := ?_) ; first | refine p_ret2 rfl (h := ?_)))
    all_goals first | rfl | (simp_all; done)
end Go.Proofs.YtgdpcomemkimhaaGreatDoor

/- Plain: eight letters of base 16. -/
namespace Go.Proofs.YtgdpcomemkimhaaGreatDoor
open Go.RowKit
attribute [local irreducible] AW AOs AO AQ AQW thenA inBlockA postA ACalls Pure
set_option linter.unusedSimpArgs false
set_option linter.unusedVariables false
set_option linter.unusedSectionVars false

/-- A small digit of base 16. -/
def ldD (c : UInt8) : Option Nat := if 48 ≤ c.toNat ∧ c.toNat ≤ 57 then some (c.toNat - 48) else if 97 ≤ c.toNat ∧ c.toNat ≤ 102 then some (c.toNat - 87) else none
def ldN (c : UInt8) : Nat := (ldD c).getD 0
def ldO (c : UInt8) : Bool := (ldD c).isSome
def hvA (a : Nat) (c : UInt8) : Nat := a * 16 + ldN c
def hvF (a : Nat) (w : List UInt8) : Nat := w.foldl hvA a
theorem hvF_nil (a : Nat) : hvF a [] = a := rfl
theorem hvF_cons (a : Nat) (c : UInt8) (r : List UInt8) : hvF a (c :: r) = hvF (a * 16 + ldN c) r := by
  unfold hvF
  rw [List.foldl_cons, hvA]
theorem hvF_snoc (a : Nat) (w : List UInt8) (c : UInt8) : hvF a (w ++ [c]) = hvF a w * 16 + ldN c := by
  unfold hvF
  rw [List.foldl_append, List.foldl_cons, List.foldl_nil, hvA]
theorem ldN_lt (c : UInt8) : ldN c < 16 := by
  unfold ldN ldD
  split
  · simp only [Option.getD_some]; omega
  · split
    · simp only [Option.getD_some]; omega
    · simp
theorem hxB_ld : ∀ x, x < 16 → ldD (hxB x) = some x := by decide
theorem ld_hxB {c : UInt8} (h : ldO c = true) : hxB (ldN c) = c := by
  have key : ∀ n : Nat, n < 256 → ldO (UInt8.ofNat n) = true → hxB (ldN (UInt8.ofNat n)) = UInt8.ofNat n := by decide +kernel
  have := key c.toNat (UInt8.toNat_lt c)
  rw [UInt8.ofNat_toNat] at this
  exact this h
theorem hxD_ld {c : UInt8} (h : ldO c = true) : hxD c = some (ldN c) := by
  have key : ∀ n : Nat, n < 256 → ldO (UInt8.ofNat n) = true → hxD (UInt8.ofNat n) = some (ldN (UInt8.ofNat n)) := by decide +kernel
  have := key c.toNat (UInt8.toNat_lt c)
  rw [UInt8.ofNat_toNat] at this
  exact this h
theorem hq_div (u : Nat) : ∀ i, hq u (i + 1) = hq (u / 16) i
  | 0 => rfl
  | i + 1 => by
    show hq u (i + 1) / 16 = hq (u / 16) i / 16
    rw [hq_div u i]
theorem hexN_snoc (u d : Nat) : hexN u (d + 1) = hexN (u / 16) d ++ [hxB (u % 16)] := by
  unfold hexN
  rw [List.range_succ, List.map_append]
  congr 1
  · refine List.map_congr_left fun q hq' => ?_
    have : q < d := List.mem_range.1 hq'
    rw [show d + 1 - 1 - q = (d - 1 - q) + 1 by omega, hq_div]
  · show [hxB (hq u (d + 1 - 1 - d) % 16)] = _
    rw [show d + 1 - 1 - d = 0 by omega]; rfl
theorem hexN_ok (d : Nat) : ∀ u, (hexN u d).all ldO = true := by
  induction d with
  | zero => intro u; rfl
  | succ d ih =>
    intro u
    rw [hexN_snoc, List.all_append, ih]
    simp only [List.all_cons, List.all_nil, Bool.and_true, Bool.true_and]
    unfold ldO
    rw [hxB_ld _ (by omega)]; rfl
theorem hvF_hexN (d : Nat) : ∀ u, u < 16 ^ d → hvF 0 (hexN u d) = u := by
  induction d with
  | zero => intro u h; rw [Nat.pow_zero] at h; show hvF 0 [] = u; rw [hvF_nil]; omega
  | succ d ih =>
    intro u h
    rw [hexN_snoc, hvF_snoc, ih _ (by rw [Nat.pow_succ] at h; omega)]
    unfold ldN
    rw [hxB_ld _ (by omega)]
    simp only [Option.getD_some]; omega
theorem hexN_hvF : ∀ (d : Nat) (w : List UInt8), w.length = d → w.all ldO = true → hexN (hvF 0 w) d = w
  | 0, w, hl, _ => by
    have : w = [] := List.eq_nil_of_length_eq_zero hl
    rw [this]; rfl
  | d + 1, w, hl, h => by
    have hne : w ≠ [] := fun e => by rw [e] at hl; simp at hl
    obtain ⟨u, c, rfl⟩ : ∃ u c, w = u ++ [c] := ⟨w.dropLast, w.getLast hne, (List.dropLast_concat_getLast hne).symm⟩
    rw [List.all_append, Bool.and_eq_true] at h
    have hc : ldO c = true := by simpa using h.2
    have hlt := ldN_lt c
    rw [hexN_snoc, hvF_snoc, show (hvF 0 u * 16 + ldN c) / 16 = hvF 0 u by omega, show (hvF 0 u * 16 + ldN c) % 16 = ldN c by omega, ld_hxB hc]
    rw [hexN_hvF d u (by rw [List.length_append] at hl; simpa using hl) h.1]
theorem puM_ld (w : List UInt8) : ∀ a, w.all ldO = true → (a + 1) * 16 ^ w.length ≤ 4294967296 → puM a w = .ok (hvF a w) := by
  induction w with
  | nil => intro a _ _; rw [hvF_nil]; rfl
  | cons c r ih =>
    intro a h hl
    rw [List.all_cons, Bool.and_eq_true] at h
    have h1 := ldN_lt c
    have hp : 1 ≤ 16 ^ r.length := Nat.pos_of_ne_zero (by simp)
    have hl2 : (a * 16 + ldN c + 1) * 16 ^ r.length ≤ 4294967296 := by
      refine Nat.le_trans ?_ hl
      rw [List.length_cons, Nat.pow_succ, Nat.mul_comm (16 ^ r.length) 16, ← Nat.mul_assoc]
      exact Nat.mul_le_mul_right _ (by omega)
    have hl3 : a * 16 + ldN c + 1 ≤ 4294967296 := Nat.le_trans (Nat.le_mul_of_pos_right _ hp) hl2
    unfold puM
    rw [hxD_ld h.1]
    simp only
    rw [if_neg (by omega), ih _ h.2 hl2, hvF_cons]
/-- A word is eight small digits. -/
def ok8 (w : List UInt8) : Bool := decide (w.length = 8) && w.all ldO
theorem ok8_iff {w : List UInt8} : ok8 w = true ↔ w.length = 8 ∧ w.all ldO = true := by
  unfold ok8
  rw [Bool.and_eq_true, decide_eq_true_eq]
/-- What ReadNumber answers. -/
def rnB (w : List UInt8) : Bool := puB w && decide (hexN (cf .f32 (puN w)) 8 = w)
def rnV (w : List UInt8) : Nat := if rnB w then cf .f32 (puN w) else 0
/-- What the reference's reading answers. -/
def rrB (w : List UInt8) : Bool := ok8 w && decide (cf .f32 (hvF 0 w) = hvF 0 w)
theorem cf_lt32 (n : Nat) (h : n < 4294967296) : cf .f32 n < 4294967296 := by
  unfold cf
  split
  · decide
  · exact h
theorem rn_rr (w : List UInt8) : rnB w = rrB w ∧ (rnB w = true → rnV w = hvF 0 w ∧ hexN (hvF 0 w) 8 = w) := by
  have h1 : rnB w = true → rrB w = true ∧ rnV w = hvF 0 w ∧ hexN (hvF 0 w) 8 = w := fun h => by
    have h' := h
    unfold rnB at h'
    rw [Bool.and_eq_true, decide_eq_true_eq] at h'
    obtain ⟨_, h2⟩ := h'
    have hlt := cf_lt32 _ (puN_lt w)
    have hv : hvF 0 w = cf .f32 (puN w) := by
      have := hvF_hexN 8 (cf .f32 (puN w)) (Nat.lt_of_lt_of_le hlt (by decide))
      rwa [h2] at this
    refine ⟨?_, by unfold rnV; rw [if_pos h, hv], by rw [hv]; exact h2⟩
    unfold rrB
    rw [Bool.and_eq_true, decide_eq_true_eq, ok8_iff, hv, cf_cf]
    refine ⟨⟨?_, ?_⟩, rfl⟩
    · have := hexN_len (cf .f32 (puN w)) 8
      rwa [h2] at this
    · have := hexN_ok 8 (cf .f32 (puN w))
      rwa [h2] at this
  have h2 : rrB w = true → rnB w = true := fun h => by
    unfold rrB at h
    rw [Bool.and_eq_true, decide_eq_true_eq, ok8_iff] at h
    obtain ⟨⟨hl, ho⟩, hc⟩ := h
    have hp : puR w = .ok (hvF 0 w) := by
      unfold puR
      rw [if_neg (fun e => by rw [e] at hl; simp at hl)]
      exact puM_ld w 0 ho (by rw [hl]; decide)
    unfold rnB puB puN
    rw [hp]
    simp only [Bool.true_and, decide_eq_true_eq]
    rw [hc]
    exact hexN_hvF 8 w hl ho
  refine ⟨?_, fun h => (h1 h).2⟩
  cases e : rnB w
  · cases e2 : rrB w
    · rfl
    · rw [h2 e2] at e; cases e
  · exact ((h1 e).1).symm
end Go.Proofs.YtgdpcomemkimhaaGreatDoor

/- Numbers that are read off sixteen letters: the walks. -/
namespace Go.Proofs.YtgdpcomemkimhaaGreatDoor
open Go.RowKit
attribute [local irreducible] AW AOs AO AQ AQW thenA inBlockA postA ACalls Pure
set_option linter.unusedSimpArgs false
set_option linter.unusedVariables false
set_option linter.unusedSectionVars false

set_option maxHeartbeats 2000000 in
theorem iReadNumber (s : List UInt8) (hl : s.length ≤ 281474976710656) (M : Mem) : Pure Tryz.prog 30 [strV s] M (.tuple [.float .f32 (rnV s), .int .i64 (if rnB s then 0 else 5)].toArray) := by
  refine pure_of Tryz.func30 Tryz.ntmps30 rfl rfl (by repeat' (first | exact Flat.int _ _ | exact Flat.float _ _ | exact flat_nil | refine flat_tuple ?_ | refine flat_cons ?_ ?_)) ?_
  have hP := fun M' => iParseUint s hl M'
  have hu := puN_lt s
  have hN := fun M' => iNumberText (cf .f32 (puN s)) M'
  unfold rnV rnB
  unfold puE at hP
  generalize puN s = u at *
  cases hb : puB s
  · rw [hb] at hP
    simp only [Bool.false_eq_true, if_false, Bool.false_and] at hP ⊢
    clear hN hb
    simp only [envOf, Nat.zero_add, Nat.reduceAdd]
    repeat' (first | (refine d_AOs (h := ?_) ; first | refine o_move (h := ?_) | refine o_assign (h := ?_) | refine AOs.nil (h := ?_) | (refine d_bin (h := ?_) ; first | refine o_neIf (hu := Tryz.underlying111) (hb := by rfl) (h := ?_)) | (refine d_grd (h := ?_) ; first | refine g_no (h := ?_)) | refine o_from32 (a := u) (ha := hu) (h := ?_) | refine o_call (hc := (hP _)) (h := ?_) | refine o_pick (h := ?_) | refine o_convS (h := ?_) | refine o_extract (h := ?_)) | (refine d_AW (h := ?_) ; first | refine AW.seq (h := ?_) | refine AW.region (h := ?_) | (refine AW.cond (ht := (fun hc => ?_)) (hf := (fun hc => ?_)) <;> (try (with_reducible first | exact absurd hc Bool.false_ne_true | exact absurd hc.symm Bool.false_ne_true)) <;> (try simp only [decide_eq_true_eq, decide_eq_false_iff_not, Int.ofNat_inj, Bool.not_eq_true', Bool.not_eq_false', Int.not_lt, Int.not_le] at hc) <;> (try (exfalso; omega)) <;> (try (exact absurd hc (by decide)))) | refine AW.ret (h := ?_)) | (first | refine t_normal ?_ | refine t_ret ?_) | (refine d_post (h := ?_) ; first | refine p_ret2 rfl (h := ?_)))
    all_goals first | rfl | (exfalso; simp at hc; done) | (simp_all; done)
  · rw [hb] at hP
    simp only [if_true, Bool.true_and] at hP ⊢
    clear hb
    by_cases he : hexN (cf .f32 u) 8 = s
    · rw [he] at hN
      rw [decide_eq_true he]
      clear he
      simp only [if_true]
      generalize hcf : cf .f32 u = b at *
      simp only [envOf, Nat.zero_add, Nat.reduceAdd]
      repeat' (first | (refine d_AOs (h := ?_) ; first | refine o_move (h := ?_) | refine o_assign (h := ?_) | refine AOs.nil (h := ?_) | (refine d_bin (h := ?_) ; first | refine o_neIf (hu := Tryz.underlying111) (hb := by rfl) (h := ?_) | refine o_sneS (a := s) (h := ?_)) | (refine d_grd (h := ?_) ; first | refine g_yes (h := ?_)) | refine o_from32 (a := u) (ha := hu) (hcf := hcf) (h := ?_) | refine o_call (hc := (hP _)) (h := ?_) | refine o_call (hc := (hN _)) (h := ?_) | refine o_pick (h := ?_) | refine o_convS (h := ?_) | refine o_extract (h := ?_)) | (refine d_AW (h := ?_) ; first | refine AW.seq (h := ?_) | refine AW.region (h := ?_) | (refine AW.cond (ht := (fun hc => ?_)) (hf := (fun hc => ?_)) <;> (try (with_reducible first | exact absurd hc Bool.false_ne_true | exact absurd hc.symm Bool.false_ne_true)) <;> (try simp only [decide_eq_true_eq, decide_eq_false_iff_not, Int.ofNat_inj, Bool.not_eq_true', Bool.not_eq_false', Int.not_lt, Int.not_le] at hc) <;> (try (exfalso; omega)) <;> (try (exact absurd hc (by decide)))) | refine AW.ret (h := ?_) | refine AW.skip (h := ?_)) | (first | refine t_normal ?_) | (refine d_post (h := ?_) ; first | refine p_ret2 rfl (h := ?_)))
      all_goals first | rfl | (exfalso; simp at hc; done) | (simp_all; done)
    · rw [decide_eq_false he]
      simp only [Bool.false_eq_true, if_false]
      generalize hexN (cf .f32 u) 8 = x at *
      generalize hcf : cf .f32 u = b at *
      simp only [envOf, Nat.zero_add, Nat.reduceAdd]
      repeat' (first | (refine d_AOs (h := ?_) ; first | refine o_move (h := ?_) | refine o_assign (h := ?_) | refine AOs.nil (h := ?_) | (refine d_bin (h := ?_) ; first | refine o_neIf (hu := Tryz.underlying111) (hb := by rfl) (h := ?_) | refine o_sneN (a := x) (b := s) (hab := he) (h := ?_)) | (refine d_grd (h := ?_) ; first | refine g_yes (h := ?_)) | refine o_from32 (a := u) (ha := hu) (hcf := hcf) (h := ?_) | refine o_call (hc := (hP _)) (h := ?_) | refine o_call (hc := (hN _)) (h := ?_) | refine o_pick (h := ?_) | refine o_convS (h := ?_) | refine o_extract (h := ?_)) | (refine d_AW (h := ?_) ; first | refine AW.seq (h := ?_) | refine AW.region (h := ?_) | (refine AW.cond (ht := (fun hc => ?_)) (hf := (fun hc => ?_)) <;> (try (with_reducible first | exact absurd hc Bool.false_ne_true | exact absurd hc.symm Bool.false_ne_true)) <;> (try simp only [decide_eq_true_eq, decide_eq_false_iff_not, Int.ofNat_inj, Bool.not_eq_true', Bool.not_eq_false', Int.not_lt, Int.not_le] at hc) <;> (try (exfalso; omega)) <;> (try (exact absurd hc (by decide)))) | refine AW.ret (h := ?_)) | (first | refine t_normal ?_ | refine t_ret ?_) | (refine d_post (h := ?_) ; first | refine p_ret2 rfl (h := ?_)))
      all_goals first | rfl | (exfalso; simp at hc; done) | (simp_all; done)
end Go.Proofs.YtgdpcomemkimhaaGreatDoor

/- A text that is cut, and numbers that are counted, by the reference. -/
namespace Go.Proofs.YtgdpcomemkimhaaGreatDoor
open Go.RowKit
attribute [local irreducible] AW AOs AO AQ AQW thenA inBlockA postA ACalls Pure
set_option linter.unusedSimpArgs false
set_option linter.unusedVariables false
set_option linter.unusedSectionVars false

theorem next_W {M T G : Mem} {m : Mem} (h : m = M ++ (T ++ G)) : m = (M ++ T) ++ G := by rw [h, List.append_assoc]
theorem closedW {M : Mem} (hM : Closed M.length M) {b1 : Blk} (h1 : ∀ x ∈ b1.cells, Flat x) : Closed (M ++ [b1]).length (M ++ [b1]) := by
  refine Closed.append (hM.mono (by simp)) fun x hx y hy => Bel.flat ?_
  simp only [List.mem_cons, List.not_mem_nil, or_false] at hx
  rcases hx with rfl
  exact h1 y hy
theorem tab_snoc3 {n : Nat} {f : Nat → Value} : tab (n + 1) f = tab n f ++ [f n] := by simp [tab, List.range_succ]
end Go.Proofs.YtgdpcomemkimhaaGreatDoor
