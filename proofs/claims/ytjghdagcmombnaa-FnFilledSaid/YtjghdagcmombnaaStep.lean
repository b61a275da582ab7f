/- Small rules by which a clean walk goes on. No program in sight. -/
import Derived.Test.YtjghdagcmombnaaDraw

namespace Go.Proofs.Ytjghdagcmombnaa
open Go.RowKit
section
variable {K : St → Prop} {Q : Exit → St → Prop} {s : St} {id j : Nat}
theorem t_normal (h : K s) : thenA K Q .normal s := h
theorem t_exit (h : Q (.exit id) s) : thenA K Q (.exit id) s := h
theorem t_ret (h : Q .ret s) : thenA K Q .ret s := h
theorem b_normal (h : Q .normal s) : inBlockA id Q .normal s := h
theorem b_exit (h : Q .normal s) : inBlockA id Q (.exit id) s := by show (if id = id then Q .normal s else Q (.exit id) s); rw [if_pos rfl]; exact h
theorem b_exit' (hne : j ≠ id) (h : Q (.exit j) s) : inBlockA id Q (.exit j) s := by show (if j = id then Q .normal s else Q (.exit j) s); rw [if_neg hne]; exact h
theorem b_ret (h : Q .ret s) : inBlockA id Q .ret s := h
end
theorem ld_tab {n o : Nat} {f : Nat → Value} {v : Value} (h : o < n) (hv : f o = v) : ldA .one o (tab n f) = some v := by rw [← hv]; exact tab_get h
theorem ld_all {n : Nat} {cs : List Value} (h : cs.length = n) : ldA (.agg n) 0 cs = some (.agg cs.toArray) := by
  show (if 0 + n ≤ cs.length then some (Value.agg ((cs.drop 0).take n).toArray) else none) = _
  rw [if_pos (by omega), List.drop_zero, List.take_of_length_le (by omega)]
theorem ld_part {n o k : Nat} {f : Nat → Value} (h : o + k ≤ n) : ldA (.agg k) o (tab n f) = some (.agg (tab k fun i => f (o + i)).toArray) := by
  show (if o + k ≤ (tab n f).length then some (Value.agg (((tab n f).drop o).take k).toArray) else none) = _
  rw [if_pos (by rw [tab_len]; exact h), tab_part h]
theorem whole_tab {n : Nat} {f : Nat → Value} (h : ∀ i, one (f i) = true) : whole (.agg (tab n f).toArray) = true := tab_one h
section
variable {P : Program} {fn : Func} {n : Nat} {t : Env} {m M T : Mem} {v0 : Value}
/-- The end of a call that only reckons. -/
theorem p_ret1 {k : Nat} {v : Value} (hr : fn.results = #[.tmp k] := by rfl) (hv : look t k = v := by (conv => (lhs; whnf)); first | done | rfl) (hm : m = M ++ T := by first | rfl | exact (List.append_nil _).symm) (h : v = v0) : postA P fn (fun x M' => x = v0 ∧ ∃ T, M' = M ++ T) .ret ⟨n, t, m⟩ :=
  ⟨v0, res1 hr (by show look t k = v0; rw [hv, h]), rfl, T, hm⟩
theorem p_end1 {k : Nat} {v : Value} (hr : fn.results = #[.tmp k] := by rfl) (hv : look t k = v := by (conv => (lhs; whnf)); first | done | rfl) (hm : m = M ++ T := by first | rfl | exact (List.append_nil _).symm) (h : v = v0) : postA P fn (fun x M' => x = v0 ∧ ∃ T, M' = M ++ T) .normal ⟨n, t, m⟩ :=
  ⟨v0, res1 hr (by show look t k = v0; rw [hv, h]), rfl, T, hm⟩
theorem p_cell1 {p j o ty : Nat} {tg : Option Nat} {b : Blk} {k : TK} [hk : TyK P ty k] {v : Value} (hr : fn.results = #[.cell p ty] := by rfl) (hp : look t p = .pointer (some ⟨j, o, tg⟩) := by (conv => (lhs; whnf)); first | done | rfl) (hb : m[j]? = some b := by first | (simp only [mem_tail, mem_tail0, List.getElem?_cons_zero, List.getElem?_cons_succ]; first | done | rfl) | exact mem_head (by assumption) | assumption | (simp only [mem_tailS, mem_tailS0, List.getElem?_cons_zero, List.getElem?_cons_succ]; first | done | rfl) | exact mem_set1 (by assumption) | exact mem_set0 (by assumption) | exact mem_setN1 (by assumption) (by assumption) | exact mem_setN (by assumption) (by assumption)) (htg : b.tag = tg := by rfl) (hv : ldA k o b.cells = some v := by first | (refine ld_tab ?_ rfl; omega) | (refine ld_all ?_; (first | rfl | (simp only [tab_len]; done))) | (refine ld_part ?_; omega) | (refine ld_row ?_ ?_ rfl; omega; (intro q _; first | rfl | (split <;> rfl))) | (refine ld_cell ?_ ?_ ?_ rfl; omega; (intro q _; first | rfl | (split <;> rfl)); omega) | (refine ld_cell0 ?_ ?_ ?_ rfl; omega; (intro q _; first | rfl | (split <;> rfl)); omega) | (refine ld_row00 ?_ ?_ rfl; omega; (intro q _; first | rfl | (split <;> rfl))) | (refine ld_cell00 ?_ rfl; omega) | exact ld_tabL | exact ld_tabR | (refine ld_tabI ?_ rfl; omega) | (refine ld_rowL ?_ ?_ rfl; omega; (intro q _; first | rfl | (split <;> rfl))) | rfl)
    (hm : m = M ++ T := by first | rfl | exact (List.append_nil _).symm) (h : v = v0) : postA P fn (fun x M' => x = v0 ∧ ∃ T, M' = M ++ T) .ret ⟨n, t, m⟩ :=
  ⟨v0, res1 hr ⟨j, o, tg, b, k, hp, hk.out, hb, htg, by rw [← h]; exact hv⟩, rfl, T, hm⟩
end
theorem r_tmp {P : Program} {n : Nat} {t : Env} {m : Mem} {k : Nat} {v : Value} (h : look t k = v) : resOne P ⟨n, t, m⟩ v (.tmp k) := h
theorem r_cell {P : Program} {n : Nat} {t : Env} {m : Mem} {p j o ty : Nat} {tg : Option Nat} {b : Blk} {k : TK} [hk : TyK P ty k] {v : Value} (hp : look t p = .pointer (some ⟨j, o, tg⟩)) (hb : m[j]? = some b) (htg : b.tag = tg) (hv : ldA k o b.cells = some v) :
    resOne P ⟨n, t, m⟩ v (.cell p ty) := ⟨j, o, tg, b, k, hp, hk.out, hb, htg, hv⟩
section
variable {P : Program} {fn : Func} {s : St} {M T : Mem} {v0 v1 v2 v3 v4 v5 : Value} {x1 x2 x3 x4 x5 : ResultVar}
theorem p_ret2 (hr : fn.results = #[x1, x2] := by rfl) (h1 : resOne P s v1 x1 := by first | exact r_tmp (by (conv => (lhs; whnf)); first | done | rfl) | exact r_cell (by (conv => (lhs; whnf)); first | done | rfl) (by first | (simp only [mem_tail, mem_tail0, List.getElem?_cons_zero, List.getElem?_cons_succ]; first | done | rfl) | exact mem_head (by assumption) | assumption | (simp only [mem_tailS, mem_tailS0, List.getElem?_cons_zero, List.getElem?_cons_succ]; first | done | rfl) | exact mem_set1 (by assumption) | exact mem_set0 (by assumption) | exact mem_setN1 (by assumption) (by assumption) | exact mem_setN (by assumption) (by assumption)) (by rfl) (by first | (refine ld_tab ?_ rfl; omega) | (refine ld_all ?_; (first | rfl | (simp only [tab_len]; done))) | (refine ld_part ?_; omega) | (refine ld_row ?_ ?_ rfl; omega; (intro q _; first | rfl | (split <;> rfl))) | (refine ld_cell ?_ ?_ ?_ rfl; omega; (intro q _; first | rfl | (split <;> rfl)); omega) | (refine ld_cell0 ?_ ?_ ?_ rfl; omega; (intro q _; first | rfl | (split <;> rfl)); omega) | (refine ld_row00 ?_ ?_ rfl; omega; (intro q _; first | rfl | (split <;> rfl))) | (refine ld_cell00 ?_ rfl; omega) | exact ld_tabL | exact ld_tabR | (refine ld_tabI ?_ rfl; omega) | (refine ld_rowL ?_ ?_ rfl; omega; (intro q _; first | rfl | (split <;> rfl))) | rfl)) (h2 : resOne P s v2 x2 := by first | exact r_tmp (by (conv => (lhs; whnf)); first | done | rfl) | exact r_cell (by (conv => (lhs; whnf)); first | done | rfl) (by first | (simp only [mem_tail, mem_tail0, List.getElem?_cons_zero, List.getElem?_cons_succ]; first | done | rfl) | exact mem_head (by assumption) | assumption | (simp only [mem_tailS, mem_tailS0, List.getElem?_cons_zero, List.getElem?_cons_succ]; first | done | rfl) | exact mem_set1 (by assumption) | exact mem_set0 (by assumption) | exact mem_setN1 (by assumption) (by assumption) | exact mem_setN (by assumption) (by assumption)) (by rfl) (by first | (refine ld_tab ?_ rfl; omega) | (refine ld_all ?_; (first | rfl | (simp only [tab_len]; done))) | (refine ld_part ?_; omega) | (refine ld_row ?_ ?_ rfl; omega; (intro q _; first | rfl | (split <;> rfl))) | (refine ld_cell ?_ ?_ ?_ rfl; omega; (intro q _; first | rfl | (split <;> rfl)); omega) | (refine ld_cell0 ?_ ?_ ?_ rfl; omega; (intro q _; first | rfl | (split <;> rfl)); omega) | (refine ld_row00 ?_ ?_ rfl; omega; (intro q _; first | rfl | (split <;> rfl))) | (refine ld_cell00 ?_ rfl; omega) | exact ld_tabL | exact ld_tabR | (refine ld_tabI ?_ rfl; omega) | (refine ld_rowL ?_ ?_ rfl; omega; (intro q _; first | rfl | (split <;> rfl))) | rfl)) (hm : s.m = M ++ T := by first | rfl | exact (List.append_nil _).symm) (h : .tuple #[v1, v2] = v0) : postA P fn (fun x M' => x = v0 ∧ ∃ T, M' = M ++ T) .ret s :=
  ⟨v0, by rw [← h]; exact resN (xs := [x1, x2]) (vs := [v1, v2]) hr rfl (by simp) (fun i x v hx hv => by
    match i, hx, hv with
    | 0, hx, hv => cases hx; cases hv; exact h1
    | 1, hx, hv => cases hx; cases hv; exact h2), rfl, T, hm⟩
end
theorem flat_nil : ∀ x ∈ ([] : List Value), Flat x := by simp
theorem flat_cons {x : Value} {xs : List Value} (h : Flat x) (hs : ∀ y ∈ xs, Flat y) : ∀ y ∈ x :: xs, Flat y := by
  intro y hy
  cases hy with
  | head => exact h
  | tail _ hy => exact hs y hy
theorem flat_append {xs ys : List Value} (h : ∀ y ∈ xs, Flat y) (hs : ∀ y ∈ ys, Flat y) : ∀ y ∈ xs ++ ys, Flat y := by
  intro y hy
  rcases List.mem_append.1 hy with hy | hy
  · exact h y hy
  · exact hs y hy
theorem flat_tabL {n : Nat} {f : Nat → Value} (h : ∀ i, Flat (f i)) : ∀ y ∈ tab n f, Flat y := by
  intro y hy
  obtain ⟨i, _, rfl⟩ := List.mem_map.1 hy
  exact h i
theorem flat_tuple {xs : List Value} (h : ∀ y ∈ xs, Flat y) : Flat (.tuple xs.toArray) := Flat.tuple xs h
theorem flat_agg {xs : List Value} (h : ∀ y ∈ xs, Flat y) : Flat (.agg xs.toArray) := Flat.agg xs h

/-- A whole variable written. -/
theorem st_all {cs xs : List Value} (h : xs.length = cs.length) : cs.take 0 ++ xs ++ cs.drop (0 + xs.length) = xs := by
  rw [List.take_zero, List.nil_append, List.drop_eq_nil_of_le (by omega), List.append_nil]
theorem st_tab1 {n o : Nat} {f : Nat → Value} {v : Value} (h : o < n) : (tab n f).take o ++ [v] ++ (tab n f).drop (o + ([v] : List Value).length) = tab n (fun i => if i = o then v else f i) := tab_put h
theorem st_tabk {n o k : Nat} {f g : Nat → Value} (h : o + k ≤ n) : (tab n f).take o ++ tab k g ++ (tab n f).drop (o + (tab k g).length) = tab n (fun i => if o ≤ i ∧ i < o + k then g (i - o) else f i) := by
  rw [tab_len]; exact tab_putk h

theorem pure_of {P : Program} {f : FuncId} {fn : Func} {c : Code} {args : List Value} {M : Mem} {v : Value} {k : Nat} (hf : P.funcs[f]? = some fn) (hk : fn.ntmps = k) (hb : fn.body = some c) (hn : Nat.ble args.length k = true) (hfl : Flat v)
    (h : AW P c (postA P fn fun x M' => x = v ∧ ∃ T, M' = M ++ T) ⟨k, envOf 0 args, M⟩) : Pure P f args M v := by
  subst hk
  exact ACalls.pure hfl (ACalls.enter hf hb (Nat.le_of_ble_eq_true hn) h)

/-- A number that its kind holds. -/
def Fits : IntKind → Int → Prop
  | .i8, a => -128 ≤ a ∧ a ≤ 127
  | .i16, a => -32768 ≤ a ∧ a ≤ 32767
  | .i32, a => -2147483648 ≤ a ∧ a ≤ 2147483647
  | .i64, a => -9223372036854775808 ≤ a ∧ a ≤ 9223372036854775807
  | .u8, a => 0 ≤ a ∧ a ≤ 255
  | .u16, a => 0 ≤ a ∧ a ≤ 65535
  | .u32, a => 0 ≤ a ∧ a ≤ 4294967295
  | .u64, a => 0 ≤ a ∧ a ≤ 18446744073709551615
theorem wrap_fits {k : IntKind} {a : Int} (h : Fits k a) : k.wrap a = a := by
  cases k <;> simp only [Fits] at h <;> simp only [IntKind.wrap, IntKind.bits, IntKind.signed] <;> simp <;> omega
theorem fit_i16 {a : Int} (h : -32768 ≤ a ∧ a ≤ 32767) : Fits .i16 a := h
theorem fit_i32 {a : Int} (h : -2147483648 ≤ a ∧ a ≤ 2147483647) : Fits .i32 a := h
theorem fit_i64 {a : Int} (h : -9223372036854775808 ≤ a ∧ a ≤ 9223372036854775807) : Fits .i64 a := h
theorem fit_u8 {a : Int} (h : 0 ≤ a ∧ a ≤ 255) : Fits .u8 a := h
theorem fit_u32 {a : Int} (h : 0 ≤ a ∧ a ≤ 4294967295) : Fits .u32 a := h
theorem fit_u64 {a : Int} (h : 0 ≤ a ∧ a ≤ 18446744073709551615) : Fits .u64 a := h
section
variable {P : Program} {ops l : List Oper} {K : St → Prop} {n : Nat} {t : Env} {m : Mem} {d ty : Nat} {pos : String} {af : Array Edge}
theorem o_convS {src dst : TypeId} {k k' : IntKind} [hd1 : TyI P src k'] [hd2 : TyI P dst k] {x : Operand} {q : IntKind} {a : Int} (hx : evalA t x = .int q a := by (conv => (lhs; whnf)); first | done | rfl) (hf : Fits k a := by first | (refine fit_i64 ?_; omega) | (refine fit_u64 ?_; omega) | (refine fit_i16 ?_; omega) | (refine fit_u8 ?_; omega) | (refine fit_u32 ?_; omega) | (refine fit_i32 ?_; omega)) (hd : Nat.blt d n = true := by rfl) (h : AOs P ops l K ⟨n, (d, .int k a) :: t, m⟩) :
    AOs P ops (⟨some d, .convert src dst x, ty, pos, af, none⟩ :: l) K ⟨n, t, m⟩ := o_conv hx hd (by rw [wrap_fits hf]; exact h)
theorem o_subS {xt yt : TypeId} {x y : Operand} {k : IntKind} {a b : Int} (hx : evalA t x = .int k a := by (conv => (lhs; whnf)); first | done | rfl) (hy : evalA t y = .int k b := by (conv => (lhs; whnf)); first | done | rfl) (hf : Fits k (a - b) := by first | (refine fit_i64 ?_; omega) | (refine fit_u64 ?_; omega) | (refine fit_i16 ?_; omega) | (refine fit_u8 ?_; omega) | (refine fit_u32 ?_; omega) | (refine fit_i32 ?_; omega)) (hd : Nat.blt d n = true := by rfl) (h : AOs P ops l K ⟨n, (d, .int k (a - b)) :: t, m⟩) :
    AOs P ops (⟨some d, .binOp .sub xt x y yt, ty, pos, af, none⟩ :: l) K ⟨n, t, m⟩ := o_sub hx hy hd (by rw [wrap_fits hf]; exact h)
theorem o_mulS {xt yt : TypeId} {x y : Operand} {k : IntKind} {a b : Int} (hx : evalA t x = .int k a := by (conv => (lhs; whnf)); first | done | rfl) (hy : evalA t y = .int k b := by (conv => (lhs; whnf)); first | done | rfl) (hf : Fits k (a * b) := by first | (refine fit_i64 ?_; omega) | (refine fit_u64 ?_; omega) | (refine fit_i16 ?_; omega) | (refine fit_u8 ?_; omega) | (refine fit_u32 ?_; omega) | (refine fit_i32 ?_; omega)) (hd : Nat.blt d n = true := by rfl) (h : AOs P ops l K ⟨n, (d, .int k (a * b)) :: t, m⟩) :
    AOs P ops (⟨some d, .binOp .mul xt x y yt, ty, pos, af, none⟩ :: l) K ⟨n, t, m⟩ := o_mul hx hy hd (by rw [wrap_fits hf]; exact h)
theorem o_remS {xt yt : TypeId} {x y : Operand} {k : IntKind} {a b : Int} (hx : evalA t x = .int k a := by (conv => (lhs; whnf)); first | done | rfl) (hy : evalA t y = .int k b := by (conv => (lhs; whnf)); first | done | rfl) (ha : 0 ≤ a := by omega) (hb : 0 < b := by omega) (hd : Nat.blt d n = true := by rfl) (h : AOs P ops l K ⟨n, (d, .int k (a % b)) :: t, m⟩) :
    AOs P ops (⟨some d, .binOp .rem xt x y yt, ty, pos, af, none⟩ :: l) K ⟨n, t, m⟩ := o_rem hx hy (by omega) hd (by rw [Int.tmod_eq_emod_of_nonneg ha]; exact h)
end

/-! ### Regions whose order is open -/
class MixT (P : Program) : Prop where
  out : P.follows .mixedOrders = true

section
variable {P : Program} {ops l : List Oper} {K : St → Prop} {n : Nat} {t : Env} {m : Mem} {d ty : Nat} {pos : String} {af : Array Edge} {op : Op}

theorem AW.open_ [hm : MixT P] {id : Nat} {Q : Exit → St → Prop} {s : St} (hd : drawOk l = true := by kernel_rfl) (h : AQ P l l (Q .normal) s) : AW P (.region id l.toArray true) Q s := AW.draw hm.out hd h
/-- From here on the order is told. -/
theorem q_switch {o : Oper} {s : St} (hq : seqOk ops (ops.length - (l.length + 1)) = true := by decide +kernel) (h2 : AOs P ops (o :: l) K s) : AQ P ops (o :: l) K s := .inl ⟨hq, h2⟩
theorem q_switchB {st len : Nat} {xs : Array (Nat × Operand)} {s : St} (hq : seqOk ops (ops.length - (l.length + 1)) = true := by decide +kernel) (h2 : AOs P ops (⟨some d, .buildSlice st len xs, ty, pos, af, none⟩ :: l) K s) :
    AQ P ops (⟨some d, .buildSlice st len xs, ty, pos, af, none⟩ :: l) K s := .inl ⟨hq, h2⟩
theorem q_nil {s : St} (h : K s) : AQ P ops [] K s := h
theorem q_step {v : Value} {ks : List Nat} (hk : looksO ops ⟨some d, op, ty, pos, af, none⟩ = ks := by rfl) (hd : Nat.blt d n = true := by rfl)
    (h1 : AOs P ops [⟨some d, op, ty, pos, af, none⟩] (fun s' => s' = ⟨n, (d, v) :: keepL ks t, m⟩) ⟨n, keepL ks t, m⟩ := by ((refine d_AOs (h := ?_) ; first | refine o_move (h := ?_) | refine o_assign (h := ?_) | refine AOs.nil (h := ?_) | (refine d_bin (h := ?_) ; first | refine o_eqNil (h := ?_) | refine o_addS (h := ?_) | refine o_add (h := ?_) | refine o_lss (h := ?_) | refine o_eqi (h := ?_) | refine o_eqB (h := ?_) | refine o_neB (h := ?_) | refine o_nei (h := ?_) | refine o_leq (h := ?_) | refine o_gtr (h := ?_) | refine o_geq (h := ?_) | refine o_subS (h := ?_) | refine o_sub (h := ?_) | refine o_mulS (h := ?_) | refine o_mul (h := ?_) | refine o_remS (h := ?_) | refine o_rem (h := ?_) | refine o_quo (h := ?_) | refine o_shl (h := ?_) | refine o_shr (h := ?_) | refine o_bits (h := ?_) | refine o_fisnan (h := ?_) | refine o_fne (h := ?_) | refine o_feq (h := ?_) | refine o_flt (h := ?_) | refine o_fle (h := ?_) | refine o_fgt (h := ?_) | refine o_fge (h := ?_) | refine o_fadd (h := ?_) | refine o_fsub (h := ?_) | refine o_fmul (h := ?_) | refine o_fdiv (h := ?_) ) | (refine d_grd (h := ?_) ; first | refine g_yes (h := ?_) | refine g_no (h := ?_) | refine g_undef (h := ?_) | (refine g_true (h1 := (fun hg => ?_)) (h0 := (fun hg => ?_)) <;> (try rw [hg]) <;> (try simp only [decide_eq_true_eq, decide_eq_false_iff_not, Int.ofNat_inj, Bool.not_eq_true', Bool.not_eq_false', Int.not_lt, Int.not_le] at hg) <;> (try (exfalso; omega)) <;> (try (exact absurd hg (by decide)))) | (refine g_false (h1 := (fun hg => ?_)) (h0 := (fun hg => ?_)) <;> (try rw [hg]) <;> (try simp only [decide_eq_true_eq, decide_eq_false_iff_not, Int.ofNat_inj, Bool.not_eq_true', Bool.not_eq_false', Int.not_lt, Int.not_le] at hg) <;> (try (exfalso; omega)) <;> (try (exact absurd hg (by decide))))) | refine o_load (h := ?_) | refine o_at (h := ?_) | refine o_field (h := ?_) | refine o_nil (h := ?_) | refine o_pick (h := ?_) | refine o_not (h := ?_) | refine o_len (h := ?_) | refine o_lenS (h := ?_) | refine o_ixS (h := ?_) | refine o_mkS1 (h := ?_) | refine o_mkS (h := ?_) | refine o_buildS0 (h := ?_) | refine o_buildS (h := ?_) | refine o_app (h := ?_) | refine o_appN (h := ?_) | refine o_app0 (h := ?_) | refine o_slHi (h := ?_) | refine o_slLo (h := ?_) | refine o_slLH (h := ?_) | refine o_mkF (h := ?_) | refine o_store (h := ?_) | refine o_box (h := ?_) | refine o_alloc (h := ?_) | refine o_ix (h := ?_) | refine o_convS (h := ?_) | refine o_conv (h := ?_) | refine o_fconv (h := ?_) | refine o_fofInt (h := ?_) | refine o_bits32 (h := ?_) | refine o_bits64 (h := ?_) | refine o_integral (h := ?_) | refine o_fneg (h := ?_) | refine o_extract (h := ?_) | refine o_build (h := ?_) ) <;> exact AOs.nil rfl)) (h2 : AQ P ops l K ⟨n, (d, v) :: t, m⟩) :
    AQ P ops (⟨some d, op, ty, pos, af, none⟩ :: l) K ⟨n, t, m⟩ := by
  subst hk
  have hw : wantA ops (⟨some d, op, ty, pos, af, none⟩ : Oper) t = some true := rfl
  unfold AQ
  refine .inr ?_
  simp only [hw]
  exact ⟨hd, v, h1, h2⟩
theorem q_yes {v : Value} {ks : List Nat} {j g : Nat} {b : Bool} (hj : (ops[j]?).bind (·.dst) = some g := by rfl) (hx : look t g = .bool b := by (conv => (lhs; whnf)); first | done | rfl) (hk : looksO ops ⟨some d, op, ty, pos, af, some (j, b)⟩ = ks := by rfl) (hd : Nat.blt d n = true := by rfl)
    (h1 : AOs P ops [⟨some d, op, ty, pos, af, none⟩] (fun s' => s' = ⟨n, (d, v) :: keepL ks t, m⟩) ⟨n, keepL ks t, m⟩ := by ((refine d_AOs (h := ?_) ; first | refine o_move (h := ?_) | refine o_assign (h := ?_) | refine AOs.nil (h := ?_) | (refine d_bin (h := ?_) ; first | refine o_eqNil (h := ?_) | refine o_addS (h := ?_) | refine o_add (h := ?_) | refine o_lss (h := ?_) | refine o_eqi (h := ?_) | refine o_eqB (h := ?_) | refine o_neB (h := ?_) | refine o_nei (h := ?_) | refine o_leq (h := ?_) | refine o_gtr (h := ?_) | refine o_geq (h := ?_) | refine o_subS (h := ?_) | refine o_sub (h := ?_) | refine o_mulS (h := ?_) | refine o_mul (h := ?_) | refine o_remS (h := ?_) | refine o_rem (h := ?_) | refine o_quo (h := ?_) | refine o_shl (h := ?_) | refine o_shr (h := ?_) | refine o_bits (h := ?_) | refine o_fisnan (h := ?_) | refine o_fne (h := ?_) | refine o_feq (h := ?_) | refine o_flt (h := ?_) | refine o_fle (h := ?_) | refine o_fgt (h := ?_) | refine o_fge (h := ?_) | refine o_fadd (h := ?_) | refine o_fsub (h := ?_) | refine o_fmul (h := ?_) | refine o_fdiv (h := ?_) ) | (refine d_grd (h := ?_) ; first | refine g_yes (h := ?_) | refine g_no (h := ?_) | refine g_undef (h := ?_) | (refine g_true (h1 := (fun hg => ?_)) (h0 := (fun hg => ?_)) <;> (try rw [hg]) <;> (try simp only [decide_eq_true_eq, decide_eq_false_iff_not, Int.ofNat_inj, Bool.not_eq_true', Bool.not_eq_false', Int.not_lt, Int.not_le] at hg) <;> (try (exfalso; omega)) <;> (try (exact absurd hg (by decide)))) | (refine g_false (h1 := (fun hg => ?_)) (h0 := (fun hg => ?_)) <;> (try rw [hg]) <;> (try simp only [decide_eq_true_eq, decide_eq_false_iff_not, Int.ofNat_inj, Bool.not_eq_true', Bool.not_eq_false', Int.not_lt, Int.not_le] at hg) <;> (try (exfalso; omega)) <;> (try (exact absurd hg (by decide))))) | refine o_load (h := ?_) | refine o_at (h := ?_) | refine o_field (h := ?_) | refine o_nil (h := ?_) | refine o_pick (h := ?_) | refine o_not (h := ?_) | refine o_len (h := ?_) | refine o_lenS (h := ?_) | refine o_ixS (h := ?_) | refine o_mkS1 (h := ?_) | refine o_mkS (h := ?_) | refine o_buildS0 (h := ?_) | refine o_buildS (h := ?_) | refine o_app (h := ?_) | refine o_appN (h := ?_) | refine o_app0 (h := ?_) | refine o_slHi (h := ?_) | refine o_slLo (h := ?_) | refine o_slLH (h := ?_) | refine o_mkF (h := ?_) | refine o_store (h := ?_) | refine o_box (h := ?_) | refine o_alloc (h := ?_) | refine o_ix (h := ?_) | refine o_convS (h := ?_) | refine o_conv (h := ?_) | refine o_fconv (h := ?_) | refine o_fofInt (h := ?_) | refine o_bits32 (h := ?_) | refine o_bits64 (h := ?_) | refine o_integral (h := ?_) | refine o_fneg (h := ?_) | refine o_extract (h := ?_) | refine o_build (h := ?_) ) <;> exact AOs.nil rfl)) (h2 : AQ P ops l K ⟨n, (d, v) :: t, m⟩) :
    AQ P ops (⟨some d, op, ty, pos, af, some (j, b)⟩ :: l) K ⟨n, t, m⟩ := by
  subst hk
  have hw : wantA ops (⟨some d, op, ty, pos, af, some (j, b)⟩ : Oper) t = some true := by
    unfold wantA; simp [hj, hx]
  unfold AQ
  refine .inr ?_
  simp only [hw]
  exact ⟨hd, v, h1, h2⟩
theorem q_no {j g : Nat} {b x : Bool} (hj : (ops[j]?).bind (·.dst) = some g := by rfl) (hx : look t g = .bool x := by (conv => (lhs; whnf)); first | done | rfl) (hb : x = (!b) := by rfl) (hd : Nat.blt d n = true := by rfl) (h2 : AQ P ops l K ⟨n, (d, undef) :: t, m⟩) :
    AQ P ops (⟨some d, op, ty, pos, af, some (j, b)⟩ :: l) K ⟨n, t, m⟩ := by
  have hw : wantA ops (⟨some d, op, ty, pos, af, some (j, b)⟩ : Oper) t = some false := by
    unfold wantA; subst hb; cases b <;> simp [hj, hx]
  unfold AQ
  refine .inr ?_
  simp only [hw]
  exact ⟨hd, h2⟩
theorem q_undef {j g : Nat} {b : Bool} {xs : Array Value} (hj : (ops[j]?).bind (·.dst) = some g := by rfl) (hx : look t g = .tuple xs := by (conv => (lhs; whnf)); first | done | rfl) (hd : Nat.blt d n = true := by rfl) (h2 : AQ P ops l K ⟨n, (d, undef) :: t, m⟩) :
    AQ P ops (⟨some d, op, ty, pos, af, some (j, b)⟩ :: l) K ⟨n, t, m⟩ := by
  have hw : wantA ops (⟨some d, op, ty, pos, af, some (j, b)⟩ : Oper) t = some false := by
    unfold wantA; simp [hj, hx]
  unfold AQ
  refine .inr ?_
  simp only [hw]
  exact ⟨hd, h2⟩
theorem q_true {v : Value} {ks : List Nat} {j g : Nat} {x : Bool} (hj : (ops[j]?).bind (·.dst) = some g := by rfl) (hx : look t g = .bool x := by (conv => (lhs; whnf)); first | done | rfl) (hk : looksO ops ⟨some d, op, ty, pos, af, some (j, true)⟩ = ks := by rfl) (hd : Nat.blt d n = true := by rfl)
    (h1 : x = true → AOs P ops [⟨some d, op, ty, pos, af, none⟩] (fun s' => s' = ⟨n, (d, v) :: keepL ks t, m⟩) ⟨n, keepL ks t, m⟩ := by (intro hg; ((refine d_AOs (h := ?_) ; first | refine o_move (h := ?_) | refine o_assign (h := ?_) | refine AOs.nil (h := ?_) | (refine d_bin (h := ?_) ; first | refine o_eqNil (h := ?_) | refine o_addS (h := ?_) | refine o_add (h := ?_) | refine o_lss (h := ?_) | refine o_eqi (h := ?_) | refine o_eqB (h := ?_) | refine o_neB (h := ?_) | refine o_nei (h := ?_) | refine o_leq (h := ?_) | refine o_gtr (h := ?_) | refine o_geq (h := ?_) | refine o_subS (h := ?_) | refine o_sub (h := ?_) | refine o_mulS (h := ?_) | refine o_mul (h := ?_) | refine o_remS (h := ?_) | refine o_rem (h := ?_) | refine o_quo (h := ?_) | refine o_shl (h := ?_) | refine o_shr (h := ?_) | refine o_bits (h := ?_) | refine o_fisnan (h := ?_) | refine o_fne (h := ?_) | refine o_feq (h := ?_) | refine o_flt (h := ?_) | refine o_fle (h := ?_) | refine o_fgt (h := ?_) | refine o_fge (h := ?_) | refine o_fadd (h := ?_) | refine o_fsub (h := ?_) | refine o_fmul (h := ?_) | refine o_fdiv (h := ?_) ) | (refine d_grd (h := ?_) ; first | refine g_yes (h := ?_) | refine g_no (h := ?_) | refine g_undef (h := ?_) | (refine g_true (h1 := (fun hg => ?_)) (h0 := (fun hg => ?_)) <;> (try rw [hg]) <;> (try simp only [decide_eq_true_eq, decide_eq_false_iff_not, Int.ofNat_inj, Bool.not_eq_true', Bool.not_eq_false', Int.not_lt, Int.not_le] at hg) <;> (try (exfalso; omega)) <;> (try (exact absurd hg (by decide)))) | (refine g_false (h1 := (fun hg => ?_)) (h0 := (fun hg => ?_)) <;> (try rw [hg]) <;> (try simp only [decide_eq_true_eq, decide_eq_false_iff_not, Int.ofNat_inj, Bool.not_eq_true', Bool.not_eq_false', Int.not_lt, Int.not_le] at hg) <;> (try (exfalso; omega)) <;> (try (exact absurd hg (by decide))))) | refine o_load (h := ?_) | refine o_at (h := ?_) | refine o_field (h := ?_) | refine o_nil (h := ?_) | refine o_pick (h := ?_) | refine o_not (h := ?_) | refine o_len (h := ?_) | refine o_lenS (h := ?_) | refine o_ixS (h := ?_) | refine o_mkS1 (h := ?_) | refine o_mkS (h := ?_) | refine o_buildS0 (h := ?_) | refine o_buildS (h := ?_) | refine o_app (h := ?_) | refine o_appN (h := ?_) | refine o_app0 (h := ?_) | refine o_slHi (h := ?_) | refine o_slLo (h := ?_) | refine o_slLH (h := ?_) | refine o_mkF (h := ?_) | refine o_store (h := ?_) | refine o_box (h := ?_) | refine o_alloc (h := ?_) | refine o_ix (h := ?_) | refine o_convS (h := ?_) | refine o_conv (h := ?_) | refine o_fconv (h := ?_) | refine o_fofInt (h := ?_) | refine o_bits32 (h := ?_) | refine o_bits64 (h := ?_) | refine o_integral (h := ?_) | refine o_fneg (h := ?_) | refine o_extract (h := ?_) | refine o_build (h := ?_) ) <;> exact AOs.nil rfl))) (h2 : x = true → AQ P ops l K ⟨n, (d, v) :: t, m⟩)
    (h0 : x = false → AQ P ops l K ⟨n, (d, undef) :: t, m⟩) : AQ P ops (⟨some d, op, ty, pos, af, some (j, true)⟩ :: l) K ⟨n, t, m⟩ := by
  cases x with
  | true => exact q_yes hj hx hk hd (h1 rfl) (h2 rfl)
  | false => exact q_no hj hx rfl hd (h0 rfl)
theorem q_false {v : Value} {ks : List Nat} {j g : Nat} {x : Bool} (hj : (ops[j]?).bind (·.dst) = some g := by rfl) (hx : look t g = .bool x := by (conv => (lhs; whnf)); first | done | rfl) (hk : looksO ops ⟨some d, op, ty, pos, af, some (j, false)⟩ = ks := by rfl) (hd : Nat.blt d n = true := by rfl)
    (h1 : x = false → AOs P ops [⟨some d, op, ty, pos, af, none⟩] (fun s' => s' = ⟨n, (d, v) :: keepL ks t, m⟩) ⟨n, keepL ks t, m⟩ := by (intro hg; ((refine d_AOs (h := ?_) ; first | refine o_move (h := ?_) | refine o_assign (h := ?_) | refine AOs.nil (h := ?_) | (refine d_bin (h := ?_) ; first | refine o_eqNil (h := ?_) | refine o_addS (h := ?_) | refine o_add (h := ?_) | refine o_lss (h := ?_) | refine o_eqi (h := ?_) | refine o_eqB (h := ?_) | refine o_neB (h := ?_) | refine o_nei (h := ?_) | refine o_leq (h := ?_) | refine o_gtr (h := ?_) | refine o_geq (h := ?_) | refine o_subS (h := ?_) | refine o_sub (h := ?_) | refine o_mulS (h := ?_) | refine o_mul (h := ?_) | refine o_remS (h := ?_) | refine o_rem (h := ?_) | refine o_quo (h := ?_) | refine o_shl (h := ?_) | refine o_shr (h := ?_) | refine o_bits (h := ?_) | refine o_fisnan (h := ?_) | refine o_fne (h := ?_) | refine o_feq (h := ?_) | refine o_flt (h := ?_) | refine o_fle (h := ?_) | refine o_fgt (h := ?_) | refine o_fge (h := ?_) | refine o_fadd (h := ?_) | refine o_fsub (h := ?_) | refine o_fmul (h := ?_) | refine o_fdiv (h := ?_) ) | (refine d_grd (h := ?_) ; first | refine g_yes (h := ?_) | refine g_no (h := ?_) | refine g_undef (h := ?_) | (refine g_true (h1 := (fun hg => ?_)) (h0 := (fun hg => ?_)) <;> (try rw [hg]) <;> (try simp only [decide_eq_true_eq, decide_eq_false_iff_not, Int.ofNat_inj, Bool.not_eq_true', Bool.not_eq_false', Int.not_lt, Int.not_le] at hg) <;> (try (exfalso; omega)) <;> (try (exact absurd hg (by decide)))) | (refine g_false (h1 := (fun hg => ?_)) (h0 := (fun hg => ?_)) <;> (try rw [hg]) <;> (try simp only [decide_eq_true_eq, decide_eq_false_iff_not, Int.ofNat_inj, Bool.not_eq_true', Bool.not_eq_false', Int.not_lt, Int.not_le] at hg) <;> (try (exfalso; omega)) <;> (try (exact absurd hg (by decide))))) | refine o_load (h := ?_) | refine o_at (h := ?_) | refine o_field (h := ?_) | refine o_nil (h := ?_) | refine o_pick (h := ?_) | refine o_not (h := ?_) | refine o_len (h := ?_) | refine o_lenS (h := ?_) | refine o_ixS (h := ?_) | refine o_mkS1 (h := ?_) | refine o_mkS (h := ?_) | refine o_buildS0 (h := ?_) | refine o_buildS (h := ?_) | refine o_app (h := ?_) | refine o_appN (h := ?_) | refine o_app0 (h := ?_) | refine o_slHi (h := ?_) | refine o_slLo (h := ?_) | refine o_slLH (h := ?_) | refine o_mkF (h := ?_) | refine o_store (h := ?_) | refine o_box (h := ?_) | refine o_alloc (h := ?_) | refine o_ix (h := ?_) | refine o_convS (h := ?_) | refine o_conv (h := ?_) | refine o_fconv (h := ?_) | refine o_fofInt (h := ?_) | refine o_bits32 (h := ?_) | refine o_bits64 (h := ?_) | refine o_integral (h := ?_) | refine o_fneg (h := ?_) | refine o_extract (h := ?_) | refine o_build (h := ?_) ) <;> exact AOs.nil rfl))) (h2 : x = false → AQ P ops l K ⟨n, (d, v) :: t, m⟩)
    (h0 : x = true → AQ P ops l K ⟨n, (d, undef) :: t, m⟩) : AQ P ops (⟨some d, op, ty, pos, af, some (j, false)⟩ :: l) K ⟨n, t, m⟩ := by
  cases x with
  | true => exact q_no hj hx rfl hd (h0 rfl)
  | false => exact q_yes hj hx hk hd (h1 rfl) (h2 rfl)
end

/-! ### Where a walk stands -/
section
variable {P : Program} {ops l : List Oper} {K : St → Prop} {Q : Exit → St → Prop} {s : St} {c : Code} {dst : Option Nat} {ty : Nat} {pos : String} {af : Array Edge} {op : Op} {e : Exit} {id : Nat} {fn : Func} {R : Value → Mem → Prop}
theorem d_AW (h : AW P c Q s) : AW P c Q s := h
theorem d_AOs (h : AOs P ops l K s) : AOs P ops l K s := h
theorem d_AQ (h : AQ P ops l K s) : AQ P ops l K s := h
theorem d_post (h : postA P fn R e s) : postA P fn R e s := h
theorem d_grd {g : Nat × Bool} (h : AOs P ops (⟨dst, op, ty, pos, af, some g⟩ :: l) K s) : AOs P ops (⟨dst, op, ty, pos, af, some g⟩ :: l) K s := h
theorem d_bin {bop : BinOp} {xt yt : TypeId} {x y : Operand} (h : AOs P ops (⟨dst, .binOp bop xt x y yt, ty, pos, af, none⟩ :: l) K s) : AOs P ops (⟨dst, .binOp bop xt x y yt, ty, pos, af, none⟩ :: l) K s := h
end
end Go.Proofs.Ytjghdagcmombnaa
