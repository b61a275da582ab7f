/- Merging and splitting: plain facts. -/
import Derived.Test.YtpffdjleonkdoaaMv
import Derived.Test.YtpffdjleonkdoaaMd
import Derived.Test.YtpffdjleonkdoaaRq
namespace Go.Proofs.Ytpffdjleonkdoaa
open Go.RowKit
attribute [local irreducible] AW AOs AO AQ AQW thenA inBlockA postA ACalls Pure
set_option linter.unusedSimpArgs false
set_option linter.unusedVariables false
set_option linter.unusedSectionVars false

def cdJ (i : Int) (cd : Nat → Int) (q : Nat) : Int := if q = 0 then i else cd (q - 1)
theorem cdJ_bd {i : Int} {cd : Nat → Int} (hi : 0 ≤ i ∧ i ≤ 255) (hcd : ∀ q, 0 ≤ cd q ∧ cd q ≤ 255) : ∀ q, 0 ≤ cdJ i cd q ∧ cdJ i cd q ≤ 255 := fun q => by
  unfold cdJ; split
  · exact hi
  · exact hcd _
theorem cdJ_cells {i : Int} {cd : Nat → Int} (n : Nat) : tab (1 + n) (fun q => Value.int .u8 (cdJ i cd q)) = [.int .u8 i] ++ tab n fun q => .int .u8 (cd q) := by
  apply List.ext_getElem?
  intro x
  by_cases hx : x < 1 + n
  · rw [tab_get hx]
    cases x with
    | zero => rfl
    | succ x =>
      rw [List.singleton_append, List.getElem?_cons_succ, tab_get (by omega)]
      simp [cdJ]
  · rw [List.getElem?_eq_none (by rw [tab_len]; omega), List.getElem?_eq_none (by simp [tab_len]; omega)]
theorem SlAt.lead {M : Mem} {b n : Nat} {tg : Option Nat} {rw' : Bool} {i : Int} {cd : Nat → Int} (h : M[b]? = some ⟨[.int .u8 i] ++ tab n fun q => .int .u8 (cd q), tg, rw'⟩) : SlAt M (some ⟨b, 0, tg⟩) (1 + n) (tab (1 + n) fun q => .int .u8 (cdJ i cd q)) :=
  fun _ => ⟨b, tg, rw', rfl, by rw [cdJ_cells]; exact h⟩
theorem SlAt.lead0 {M : Mem} {b : Nat} {tg : Option Nat} {rw' : Bool} {i : Int} {cd : Nat → Int} (h : M[b]? = some ⟨[.int .u8 i], tg, rw'⟩) : SlAt M (some ⟨b, 0, tg⟩) 1 (tab 1 fun q => .int .u8 (cdJ i cd q)) :=
  fun _ => ⟨b, tg, rw', rfl, h⟩
theorem pk_lead {n : Nat} {i m : Int} {cd : Nat → Int} (h : 0 ≤ i ∧ i < m) (hm : 1 < m) : pkV (1 + n) (cdJ i cd) (0, 0) m = i := by
  unfold pkV nxV byteAt
  rw [if_neg (by omega), if_pos (by show 0 + 1 ≤ 1 + n; omega), if_pos (by show 0 < 1 + n; omega)]
  show (if 0 = 0 then i else _) % m = i
  rw [if_pos rfl]
  exact Int.emod_eq_of_lt h.1 h.2
def farF (d : Nat) : Nat := if flt .f32 d 0 = true then fneg .f32 d else d
theorem sFarOf (d : Nat) (hd : fnan .f32 d = false) (M : Mem) : Pure Try.prog 96 [.float .f32 d] M (.float .f32 (farF d)) := by
  refine pure_of Try.func96 Try.ntmps96 rfl rfl (by repeat' (first | exact Flat.bool _ | exact Flat.int _ _ | exact Flat.float _ _ | exact Flat.string _ | exact flat_nil | exact flat_tabL (fun _ => Flat.bool _) | exact flat_tabL (fun _ => Flat.int _ _) | exact flat_tabL (fun _ => Flat.float _ _) | refine flat_tuple ?_ | refine flat_agg ?_ | refine flat_cons ?_ ?_ | refine flat_append ?_ ?_)) ?_
  obtain ⟨r, hr⟩ : ∃ r, r = farF d := ⟨_, rfl⟩
  unfold farF at hr
  have e : farF d = r := by rw [hr]; rfl
  rw [e]
  cases h : flt .f32 d 0
  all_goals rw [h] at hr
  all_goals simp only [if_true, if_false, Bool.false_eq_true] at hr
  all_goals subst hr
  all_goals clear e
  all_goals simp only [envOf, Nat.zero_add, Nat.reduceAdd]
  all_goals repeat' (first | (refine d_AOs (h := ?_) ; first | refine o_move (h := ?_) | refine o_assign (h := ?_) | refine AOs.nil (h := ?_) | (refine d_bin (h := ?_) ; first | refine o_fneS (h := ?_) | refine o_fneC (h := ?_) | refine o_feqC (h := ?_) | refine o_fltC (h := ?_) | refine o_fgtC (h := ?_) | refine o_fleC (h := ?_) | refine o_fgeC (h := ?_) | refine o_lss (h := ?_) | refine o_flt (h := ?_) )  | refine o_at (h := ?_) | refine o_fneg (h := ?_) ) | (refine d_AW (h := ?_) ; first | refine AW.seq (h := ?_) | refine AW.region (h := ?_) | (refine AW.cond (ht := (fun hc => ?_)) (hf := (fun hc => ?_)) <;> (try (with_reducible first | exact absurd hc Bool.false_ne_true | exact absurd hc.symm Bool.false_ne_true)) <;> (try simp only [decide_eq_true_eq, decide_eq_false_iff_not, Int.ofNat_inj, Bool.not_eq_true', Bool.not_eq_false', Int.not_lt, Int.not_le] at hc) <;> (try (exfalso; omega)) <;> (try (exact absurd hc (by decide)))) | refine AW.block (h := ?_) | refine AW.ret (h := ?_) | refine AW.skip (h := ?_) | refine AW.exit (h := ?_) ) | (first | refine t_normal ?_ | refine t_ret ?_ | refine t_exit ?_ | refine b_normal ?_ | refine b_exit ?_ | refine b_exit' (by decide) ?_ | refine b_ret ?_) | (refine d_post (h := ?_) ; first | refine p_ret1 rfl (h := ?_) | refine p_end1 rfl (h := ?_) | refine p_cell1 rfl (h := ?_) ))
  all_goals first | rfl | (exfalso; simp at hc; done)
def nearB (x y : Nat) : Bool := fle .f32 (farF (fsub .f32 x y)) 981668463
theorem lf6near {x y d r : Nat} {e : Bool} (hd : SubT .f32 x y d) (hn : fnan .f32 d = false) (hr : farF d = r) (he : fle .f32 r 981668463 = e) (M : Mem) : Pure Try.prog 38 [.float .f32 x, .float .f32 y, .float .f32 981668463] M (.bool e) := by
  refine pure_of Try.func38 Try.ntmps38 rfl rfl (by repeat' (first | exact Flat.bool _ | exact Flat.int _ _ | exact Flat.float _ _ | exact Flat.string _ | exact flat_nil | exact flat_tabL (fun _ => Flat.bool _) | exact flat_tabL (fun _ => Flat.int _ _) | exact flat_tabL (fun _ => Flat.float _ _) | refine flat_tuple ?_ | refine flat_agg ?_ | refine flat_cons ?_ ?_ | refine flat_append ?_ ?_)) ?_
  have hF := fun M' => sFarOf d hn M'
  rw [hr] at hF
  clear hr
  simp only [envOf, Nat.zero_add, Nat.reduceAdd]
  repeat' (first | (refine d_AOs (h := ?_) ; first | refine o_move (h := ?_) | refine o_assign (h := ?_) | refine AOs.nil (h := ?_) | (refine d_bin (h := ?_) ; first | refine o_fneS (h := ?_) | refine o_fneC (h := ?_) | refine o_feqC (h := ?_) | refine o_fltC (h := ?_) | refine o_fgtC (h := ?_) | refine o_fleC (h := ?_) | refine o_fgeC (h := ?_) | refine o_fsubE (h := ?_) | refine o_leq (h := ?_) | refine o_subS (h := ?_) | refine o_sub (h := ?_) | refine o_fle (h := ?_) | refine o_fsub (h := ?_) )  | refine o_call (hc := (hF _)) (h := ?_) | refine o_at (h := ?_) ) | (refine d_AW (h := ?_) ; first | refine AW.seq (h := ?_) | refine AW.region (h := ?_) | (refine AW.cond (ht := (fun hc => ?_)) (hf := (fun hc => ?_)) <;> (try (with_reducible first | exact absurd hc Bool.false_ne_true | exact absurd hc.symm Bool.false_ne_true)) <;> (try simp only [decide_eq_true_eq, decide_eq_false_iff_not, Int.ofNat_inj, Bool.not_eq_true', Bool.not_eq_false', Int.not_lt, Int.not_le] at hc) <;> (try (exfalso; omega)) <;> (try (exact absurd hc (by decide)))) | refine AW.block (h := ?_) | refine AW.ret (h := ?_) | refine AW.skip (h := ?_) | refine AW.exit (h := ?_) ) | (first | refine t_normal ?_ | refine t_ret ?_ | refine t_exit ?_ | refine b_normal ?_ | refine b_exit ?_ | refine b_exit' (by decide) ?_ | refine b_ret ?_) | (refine d_post (h := ?_) ; first | refine p_ret1 rfl (h := ?_) | refine p_end1 rfl (h := ?_) | refine p_cell1 rfl (h := ?_) ))
  all_goals rfl
theorem lnear {x y : Nat} {e : Bool} (hn : fnan .f32 (fsub .f32 x y) = false) (he : nearB x y = e) (M : Mem) : Pure Try.prog 38 [.float .f32 x, .float .f32 y, .float .f32 981668463] M (.bool e) := lf6near ⟨rfl⟩ hn rfl he M
/-! ### Merging -/
theorem shw_33 : ∀ x : Fin 33, fin32 (shw x.val) = true ∧ shw x.val < 2147483648 ∧ fv (shw x.val) = (x.val : Int) * 2 ^ 145 := by decide +kernel
theorem shw_fv {x : Int} (h : 0 ≤ x ∧ x ≤ 32) : nn (shw x) ∧ fv (shw x) = x * 2 ^ 145 := by
  obtain ⟨h1, h2, h3⟩ := shw_33 ⟨x.toNat, by omega⟩
  have e : ((x.toNat : Nat) : Int) = x := Int.toNat_of_nonneg h.1
  simp only [e] at h1 h2 h3
  exact ⟨⟨h1, h2⟩, h3⟩
def mgC (a b s tk due rest : Nat) : Bool := fin32 due && fin32 rest && !(fgt .f32 due (fadd .f32 a 981668463)) && !(fgt .f32 rest (fadd .f32 b 981668463)) && !(flt .f32 due 3129152111) && !(flt .f32 rest 3129152111) && nearB (fadd .f32 due rest) (fminF .f32 s tk) && !(fnan .f32 (fsub .f32 (fadd .f32 due rest) (fminF .f32 s tk))) && !(fnan .f32 s)
def mgD (a b s tk y1 : Nat) : Bool := fin32 (fsub .f32 tk y1) && mgC a b s tk y1 (fsub .f32 tk y1)
def mgE (a b s tk x1 x2 : Nat) : Bool := !(fnan .f32 x1) && !(fnan .f32 x2) && flt .f32 x1 a && (if flt .f32 x2 a = true then (if flt .f32 x2 x1 = true then mgD a b s tk x1 else mgD a b s tk x2) else !(flt .f32 x2 x1) && mgD a b s tk a)
def mgB (a b s tk sh : Nat) : Bool := if fle .f32 s tk = true then mgC a b s tk a b else mgE a b s tk (fsub .f32 tk b) (fmul .f32 sh tk)
theorem mg_all : ((List.range 33).all fun x => (List.range 33).all fun y => mgB (shw x) (shw y) (fadd .f32 (shw x) (shw y)) (shw 1) (shw 2)) = true := by decide +kernel
theorem mg_dr {x y : Int} (hx : 0 ≤ x ∧ x ≤ 32) (hy : 0 ≤ y ∧ y ≤ 32) : mgB (shw x) (shw y) (fadd .f32 (shw x) (shw y)) (shw 1) (shw 2) = true := by
  have h := mg_all
  rw [List.all_eq_true] at h
  have h2 := h x.toNat (List.mem_range.2 (by omega))
  rw [List.all_eq_true] at h2
  have h3 := h2 y.toNat (List.mem_range.2 (by omega))
  rw [Int.toNat_of_nonneg hx.1, Int.toNat_of_nonneg hy.1] at h3
  exact h3
theorem mg_two {a b tk sh : Nat} (ha : isAm a = true) (hb : isAm b = true) (ht : isAm tk = true) (hs : isSh sh = true) (na : fnan .f32 a = false) (h : mgB a b (fadd .f32 a b) tk sh = true) :
    ∃ due rest, (∀ M, Pure Try.prog 36 [.float .f32 a, .float .f32 b, .float .f32 tk, .float .f32 sh] M (.tuple [.float .f32 due, .float .f32 rest, .int .i64 0].toArray)) ∧
      (∀ M, Pure Try.prog 37 [.float .f32 a, .float .f32 b, .float .f32 tk, .float .f32 sh] M (.tuple [.float .f32 due, .float .f32 rest, .int .i64 0].toArray)) ∧ mgC a b (fadd .f32 a b) tk due rest = true := by
  unfold mgB at h
  cases hle : fle .f32 (fadd .f32 a b) tk
  · rw [hle, if_neg (by decide)] at h
    unfold mgE at h
    simp only [Bool.and_eq_true, Bool.not_eq_true'] at h
    obtain ⟨⟨⟨n1, n2⟩, h1⟩, h⟩ := h
    cases h2 : flt .f32 (fmul .f32 sh tk) a
    · rw [h2, if_neg (by decide), Bool.and_eq_true, Bool.not_eq_true'] at h
      obtain ⟨h3, h⟩ := h
      unfold mgD at h
      rw [Bool.and_eq_true] at h
      refine ⟨a, fsub .f32 tk a, fun M => ?_, fun M => ?_, h.2⟩
      · exact iMergeB ha hb ht hs ⟨rfl⟩ hle ⟨rfl⟩ ⟨rfl⟩ ⟨rfl⟩ (isAm_iff.1 ha).1 h.1 (fun M => iInsert2 _ _ _ M na n1 n2 h1 h2) M
      · exact sMergeB ha hb ht hs ⟨rfl⟩ hle ⟨rfl⟩ ⟨rfl⟩ ⟨rfl⟩ (isAm_iff.1 ha).1 (fun M => sMid2 h1 h3 h2 M) M
    · rw [h2, if_pos rfl] at h
      cases h3 : flt .f32 (fmul .f32 sh tk) (fsub .f32 tk b)
      · rw [h3, if_neg (by decide)] at h
        unfold mgD at h
        rw [Bool.and_eq_true] at h
        have hf : fin32 (fmul .f32 sh tk) = true := by
          have := h.2; unfold mgC at this; simp only [Bool.and_eq_true] at this; exact this.1.1.1.1.1.1.1.1
        refine ⟨fmul .f32 sh tk, fsub .f32 tk (fmul .f32 sh tk), fun M => ?_, fun M => ?_, h.2⟩
        · exact iMergeB ha hb ht hs ⟨rfl⟩ hle ⟨rfl⟩ ⟨rfl⟩ ⟨rfl⟩ hf h.1 (fun M => iInsert1 _ _ _ M na n1 n2 h1 h2 h3) M
        · exact sMergeB ha hb ht hs ⟨rfl⟩ hle ⟨rfl⟩ ⟨rfl⟩ ⟨rfl⟩ hf (fun M => sMid1 h1 h3 h2 M) M
      · rw [h3, if_pos rfl] at h
        unfold mgD at h
        rw [Bool.and_eq_true] at h
        have hf : fin32 (fsub .f32 tk b) = true := by
          have := h.2; unfold mgC at this; simp only [Bool.and_eq_true] at this; exact this.1.1.1.1.1.1.1.1
        refine ⟨fsub .f32 tk b, fsub .f32 tk (fsub .f32 tk b), fun M => ?_, fun M => ?_, h.2⟩
        · exact iMergeB ha hb ht hs ⟨rfl⟩ hle ⟨rfl⟩ ⟨rfl⟩ ⟨rfl⟩ hf h.1 (fun M => iInsert0 _ _ _ M na n1 n2 h1 h2 h3) M
        · exact sMergeB ha hb ht hs ⟨rfl⟩ hle ⟨rfl⟩ ⟨rfl⟩ ⟨rfl⟩ hf (fun M => sMid0 h1 h3 M) M
  · rw [hle, if_pos rfl] at h
    exact ⟨a, b, fun M => iMergeA ha hb ht hs ⟨rfl⟩ hle M, fun M => sMergeA ha hb ht hs ⟨rfl⟩ hle M, h⟩
/-! ### Splitting -/
def spB (tq tn : Nat) : Bool := !(fgt .f32 tn 0) || (fin32 (fdiv .f32 tq tn) && Nat.blt (fdiv .f32 tq tn) 2147483648 && decide (fv (fdiv .f32 tq tn) ≤ 2 ^ 155) && decide (fv (fmul .f32 (fdiv .f32 tq tn) tn) ≤ fv tq + 2 ^ 130) && nearB (fmul .f32 (fdiv .f32 tq tn) tn) tq)
theorem sp_all : ((List.range 33).all fun z => (List.range 17).all fun w => spB (shw z) (shw w)) = true := by decide +kernel
theorem sp_dr {z w : Int} (hz : 0 ≤ z ∧ z ≤ 32) (hw : 0 ≤ w ∧ w ≤ 16) : spB (shw z) (shw w) = true := by
  have h := sp_all
  rw [List.all_eq_true] at h
  have h2 := h z.toNat (List.mem_range.2 (by omega))
  rw [List.all_eq_true] at h2
  have h3 := h2 w.toNat (List.mem_range.2 (by omega))
  rw [Int.toNat_of_nonneg hz.1, Int.toNat_of_nonneg hw.1] at h3
  exact h3
theorem sp_facts {tq tn : Nat} (h : spB tq tn = true) (hg : fgt .f32 tn 0 = true) : nn (fdiv .f32 tq tn) ∧ fv (fdiv .f32 tq tn) ≤ 2 ^ 155 ∧ fv (fmul .f32 (fdiv .f32 tq tn) tn) ≤ fv tq + 2 ^ 130 ∧ nearB (fmul .f32 (fdiv .f32 tq tn) tn) tq = true := by
  unfold spB at h
  rw [hg] at h
  simp only [Bool.not_true, Bool.false_or, Bool.and_eq_true, decide_eq_true_eq, Nat.blt_eq] at h
  obtain ⟨⟨⟨⟨h1, h2⟩, h3⟩, h4⟩, h5⟩ := h
  exact ⟨⟨h1, h2⟩, h3, h4, h5⟩
theorem spK_ok {a : Nat} {tk tn : Nat → Nat} (ha : nn a) (hd : ∀ q, q < 4 → fgt .f32 (tn q) 0 = true → nn (fdiv .f32 (tk q) (tn q))) : ∀ k, k ≤ 4 → nn (spK a tk tn k) ∧ fv (spK a tk tn k) ≤ fv a ∧
    (∀ q, q < k → fgt .f32 (tn q) 0 = true → fv (spK a tk tn k) ≤ fv (fdiv .f32 (tk q) (tn q))) ∧ (spK a tk tn k = a ∨ ∃ q, q < k ∧ fgt .f32 (tn q) 0 = true ∧ spK a tk tn k = fdiv .f32 (tk q) (tn q))
  | 0, _ => ⟨ha, Int.le_refl _, fun q h => absurd h (Nat.not_lt_zero q), .inl rfl⟩
  | k + 1, hk => by
    obtain ⟨h1, h2, h3, h4⟩ := spK_ok ha hd k (by omega)
    unfold spK
    cases e : fgt .f32 (tn k) 0
    · rw [if_neg (by decide)]
      refine ⟨h1, h2, fun q hq hg => ?_, ?_⟩
      · by_cases ek : q = k
        · subst ek; rw [e] at hg; cases hg
        · exact h3 q (by omega) hg
      · rcases h4 with h4 | ⟨q, q1, q2, q3⟩
        · exact .inl h4
        · exact .inr ⟨q, by omega, q2, q3⟩
    · rw [if_pos rfl]
      obtain ⟨l1, l2, l3⟩ := less_le h1 (hd k (by omega) e)
      refine ⟨l1, by omega, fun q hq hg => ?_, ?_⟩
      · by_cases ek : q = k
        · subst ek; exact l3
        · have := h3 q (by omega) hg; omega
      · rcases less_cases (spK a tk tn k) (fdiv .f32 (tk k) (tn k)) with h5 | h5
        · rw [h5]
          rcases h4 with h4 | ⟨q, q1, q2, q3⟩
          · exact .inl h4
          · exact .inr ⟨q, by omega, q2, q3⟩
        · exact .inr ⟨k, by omega, e, h5⟩
theorem mul_up {m d tn : Nat} (hm : nn m) (hd : nn d) (ht : nn tn) (ht1 : fv tn ≤ U) (hmd : fv m ≤ fv d) (hb : fv d ≤ 2 ^ 155) : nn (fmul .f32 m tn) ∧ fv (fmul .f32 m tn) ≤ fv (fmul .f32 d tn) + 2 ^ 133 ∧ fv (fmul .f32 m tn) ≤ 2 ^ 156 := by
  have m0 := nn_bd hm
  have d0 := nn_bd hd
  have t0 := nn_bd ht
  have hU := U_val
  have eU : ((2 ^ 149 : Nat) : Int) = U := rfl
  have e1 : fv d * fv tn ≤ 2 ^ 155 * U := Int.mul_le_mul hb ht1 t0 (by decide)
  have e2 : fv m * fv tn ≤ fv d * fv tn := Int.mul_le_mul_of_nonneg_right hmd t0
  have e3 : 0 ≤ fv m * fv tn := Int.mul_nonneg m0 t0
  have e4 : 0 ≤ fv d * fv tn := Int.mul_nonneg d0 t0
  have e5 : (2 : Int) ^ 155 * U ≤ 2 ^ 170 * U := by decide
  have e6 : (2 : Int) ^ 155 * U ≤ 16777216 * 2 ^ 132 * ((2 ^ 149 : Nat) : Int) := by decide
  have e7 : -(16777216 * 2 ^ 132 * ((2 ^ 149 : Nat) : Int)) ≤ 0 := by decide
  obtain ⟨g1, g2⟩ := nn_mul hm ht (by omega)
  obtain ⟨k1, k2⟩ := nn_mul hd ht (by omega)
  have r1 := (g2.near (e := 132) (by decide) (by decide) (by omega) (by omega)).1
  have r2 := (k2.near (e := 132) (by decide) (by decide) (by omega) (by omega)).2
  have r3 := g2.le (z := 1) (e := 156) (by decide) (by decide) (by
    refine Int.le_trans e2 (Int.le_trans e1 ?_)
    decide)
  refine ⟨g1, ?_, by omega⟩
  refine Int.le_of_mul_le_mul_right (a := U) ?_ (by decide)
  rw [eU] at r1 r2
  rw [Int.add_mul]
  have e8 : (2 : Int) ^ 133 * U = 2 ^ 132 * U + 2 ^ 132 * U := by decide
  omega
def acK (e0 : Bool) (g nr : Nat → Bool) : Nat → Bool
  | 0 => e0
  | k + 1 => acK e0 g nr k || (g k && nr k)
theorem acK_at {e0 : Bool} {g nr : Nat → Bool} : ∀ k, (e0 = true ∨ ∃ q, q < k ∧ g q = true ∧ nr q = true) → acK e0 g nr k = true
  | 0, h => by
    rcases h with h | ⟨q, h, _⟩
    · exact h
    · exact absurd h (Nat.not_lt_zero q)
  | k + 1, h => by
    unfold acK
    rw [Bool.or_eq_true]
    rcases h with h | ⟨q, h1, h2, h3⟩
    · exact .inl (acK_at k (.inl h))
    · by_cases e : q = k
      · subst e; right; rw [h2, h3]; rfl
      · exact .inl (acK_at k (.inr ⟨q, by omega, h2, h3⟩))
end Go.Proofs.Ytpffdjleonkdoaa
