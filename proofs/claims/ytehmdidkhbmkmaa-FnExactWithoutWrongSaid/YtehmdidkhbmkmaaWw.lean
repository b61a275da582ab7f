/- Tallies without the wrong ones. -/
import Derived.Test.YtehmdidkhbmkmaaTm2
import Derived.Test.YtehmdidkhbmkmaaCd
namespace Go.Proofs.Ytehmdidkhbmkmaa
open Go.RowKit
attribute [local irreducible] AW AOs AO AQ AQW thenA inBlockA postA ACalls Pure
set_option linter.unusedSimpArgs false

theorem Mut.ofB {P : Program} {f : FuncId} {args : List Value} {M M1 : Mem} {v : Value} (hl : M.length ≤ M1.length) (hb : Bel M1.length v) (hc : Closed M.length M → Closed M1.length M1) (h : ACalls P f args M fun x M' => x = v ∧ ∃ T, M' = M1 ++ T) : Mut P f args M v M1 := by
  unfold Mut
  unfold ACalls at h ⊢
  intro B0 w0 r w cargs hs hv
  refine (h B0 w0 r w cargs hs hv).mono fun e w' ⟨d, x, M', r', h1, ⟨hx, T, hM⟩, he, hs', hd⟩ => ?_
  subst hx; subst hM
  refine ⟨d, x, M1, cutR M1.length r', h1, ⟨rfl, rfl⟩, fun j t c hr => ?_, hs'.cutTo (hc hs.closed), hb.cut hd⟩
  unfold cutR
  rw [if_pos (Nat.lt_of_lt_of_le (hs.dom_lt j t c hr) hl)]
  exact he j t c hr
theorem mut_ofB {P : Program} {f : FuncId} {fn : Func} {c : Code} {args : List Value} {M M1 : Mem} {v : Value} {k : Nat} (hf : P.funcs[f]? = some fn) (hk : fn.ntmps = k) (hb : fn.body = some c) (hn : Nat.ble args.length k = true) (hl : M.length ≤ M1.length) (hfl : Bel M1.length v) (hc : Closed M.length M → Closed M1.length M1)
    (h : AW P c (postA P fn fun x M' => x = v ∧ ∃ T, M' = M1 ++ T) ⟨k, envOf 0 args, M⟩) : Mut P f args M v M1 := by
  subst hk
  exact Mut.ofB hl hfl hc (ACalls.enter hf hb (Nat.le_of_ble_eq_true hn) h)
theorem Mut.closed {P : Program} {f : FuncId} {args : List Value} {M M1 : Mem} {v : Value} (h : Closed M.length M → Mut P f args M v M1) : Mut P f args M v M1 := by
  unfold Mut at h ⊢
  unfold ACalls at h ⊢
  intro B0 w0 r w cargs hs hv
  exact h hs.closed B0 w0 r w cargs hs hv
theorem Bel.func {L : Nat} {fn : Fn} {j o : Nat} {tg : Option Nat} (h : j < L) : Bel L (.func fn #[] #[.pointer (some ⟨j, o, tg⟩)]) := fun r y hv => by
  have hv' : VR r (.func fn ([] : List Value).toArray ([.pointer (some ⟨j, o, tg⟩)] : List Value).toArray) y := hv
  obtain ⟨us, vs, rfl, hu, hw⟩ := hv'.func_inv
  have hw' : VRs r [.pointer (some ⟨j, o, tg⟩)] vs := by simpa using hw
  have hu' : VRs r [] us := by simpa using hu
  have h2 : VR (cutR L r) (.func fn ([] : List Value).toArray ([.pointer (some ⟨j, o, tg⟩)] : List Value).toArray) (.func fn us.toArray vs.toArray) :=
    VR.func fn _ _ _ _ hu'.1 (fun i x y hx _ => by simp at hx) hw'.1 fun i x y hx hy => (by
      have hi : i = 0 := by
        have := (List.getElem?_eq_some_iff.1 hx).1
        simpa using this
      subst hi
      have hxx : x = .pointer (some ⟨j, o, tg⟩) := by simpa using hx.symm
      subst hxx
      exact Bel.ptr h r y (hw'.2 0 _ y rfl hy))
  exact h2

section
variable (A B C : Nat → Int) (most : Int)
abbrev zeroT : List Value := [.int .i64 0, .int .i16 0, .int .i16 0]
/-- What lies in the list when j tallies are looked at. -/
def wcont (j q : Nat) : List Value := if q < (kpL B C most j).length then talR A B C ((kpL B C most j).getD q 0) else talR A B C q
def wfin (n q : Nat) : List Value := if q < (kpL B C most n).length then talR A B C ((kpL B C most n).getD q 0) else zeroT
theorem wcont_len (j : Nat) : ∀ q, (wcont A B C most j q).length = 3 := fun q => by unfold wcont; split <;> rfl
theorem wfin_len (n : Nat) : ∀ q, (wfin A B C most n q).length = 3 := fun q => by unfold wfin; split <;> rfl
theorem flat_talR (q : Nat) : ∀ c ∈ talR A B C q, Flat c := (by repeat' (first | exact Flat.bool _ | exact Flat.int _ _ | exact Flat.float _ _ | exact Flat.string _ | exact flat_nil | exact flat_tabL (fun _ => Flat.bool _) | exact flat_tabL (fun _ => Flat.int _ _) | exact flat_tabL (fun _ => Flat.float _ _) | refine flat_tuple ?_ | refine flat_agg ?_ | refine flat_cons ?_ ?_ | refine flat_append ?_ ?_))
theorem flat_wcont (n j : Nat) : ∀ c ∈ rows n (wcont A B C most j), Flat c := flat_rows fun i => by unfold wcont; split <;> exact (by repeat' (first | exact Flat.bool _ | exact Flat.int _ _ | exact Flat.float _ _ | exact Flat.string _ | exact flat_nil | exact flat_tabL (fun _ => Flat.bool _) | exact flat_tabL (fun _ => Flat.int _ _) | exact flat_tabL (fun _ => Flat.float _ _) | refine flat_tuple ?_ | refine flat_agg ?_ | refine flat_cons ?_ ?_ | refine flat_append ?_ ?_))
theorem flat_wfin (n j : Nat) : ∀ c ∈ rows n (wfin A B C most j), Flat c := flat_rows fun i => by unfold wfin; split <;> exact (by repeat' (first | exact Flat.bool _ | exact Flat.int _ _ | exact Flat.float _ _ | exact Flat.string _ | exact flat_nil | exact flat_tabL (fun _ => Flat.bool _) | exact flat_tabL (fun _ => Flat.int _ _) | exact flat_tabL (fun _ => Flat.float _ _) | refine flat_tuple ?_ | refine flat_agg ?_ | refine flat_cons ?_ ?_ | refine flat_append ?_ ?_))

set_option maxHeartbeats 1000000 in
theorem iCloneT (b n cp : Nat) (tg : Option Nat) (rw' : Bool) (M : Mem) (hn : n ≤ 1048576) (hb : M[b]? = some ⟨rows n (talR A B C), tg, rw'⟩) : Alloc Try.prog 80 [.slice (some ⟨b, 0, tg⟩) n cp] M (.slice (some ⟨M.length, 0, some n⟩) n n) [(⟨rows n (talR A B C), some n, true⟩ : Blk)] := by
  have hl : (rows n (talR A B C)).length = n * 3 := rows_len fun _ _ => rfl
  have ho : (rows n (talR A B C)).all one = true := rows_one fun _ => rfl
  have hw : ((rows n (talR A B C)).drop 0).take (n * 3) = rows n (talR A B C) := by rw [List.drop_zero, List.take_of_length_le (by rw [hl]; exact Nat.le_refl _)]
  have h0 : ([] : List Value).length = 0 * 3 := rfl
  have key : Alloc Try.prog 80 [.slice (some ⟨b, 0, tg⟩) n cp] M (.slice (some ⟨M.length, 0, some (0 + n)⟩) (0 + n) (0 + n)) [(⟨rows n (talR A B C), some (0 + n), true⟩ : Blk)] := by
    refine alloc_of [0] Try.func80 Try.ntmps80 rfl rfl rfl (by decide) ?_
    simp only [envOf, Nat.zero_add, Nat.reduceAdd]
    repeat' (first | (refine d_AOs (h := ?_) ; first | refine o_move (h := ?_) | refine o_assign (h := ?_) | refine AOs.nil (h := ?_) | (refine d_bin (h := ?_) ; first | refine o_eqNil (h := ?_) | refine o_eqi (h := ?_) | refine o_eqB (h := ?_) )  | refine o_app (hys := by exact hw) (hlc := by exact h0) (hly := by exact hl) (hone := by exact ho) (h := ?_) | refine o_at (h := ?_) | refine o_buildS0 (h := ?_) | refine o_buildS (h := ?_) | refine o_app (h := ?_) | refine o_appN (h := ?_) | refine o_app0 (h := ?_) ) | (refine d_AW (h := ?_) ; first | refine AW.seq (h := ?_) | refine AW.region (h := ?_) | (refine AW.cond (ht := (fun hc => ?_)) (hf := (fun hc => ?_)) <;> (try (with_reducible first | exact absurd hc Bool.false_ne_true | exact absurd hc.symm Bool.false_ne_true)) <;> (try simp only [decide_eq_true_eq, decide_eq_false_iff_not, Int.ofNat_inj, Bool.not_eq_true', Bool.not_eq_false', Int.not_lt, Int.not_le] at hc) <;> (try (exfalso; omega)) <;> (try (exact absurd hc (by decide)))) | refine AW.block (h := ?_) | refine AW.ret (h := ?_) | refine AW.skip (h := ?_) | refine AW.exit (h := ?_) ) | (first | refine t_normal ?_ | refine t_ret ?_ | refine t_exit ?_ | refine b_normal ?_ | refine b_exit ?_ | refine b_exit' (by decide) ?_ | refine b_ret ?_) | (refine d_post (h := ?_) ; first | refine p_ret1 rfl (h := ?_) | refine p_end1 rfl (h := ?_) | refine p_cell1 rfl (h := ?_) ))
    all_goals first | (exfalso; simp at hc; done) | (simp only [Nat.zero_add]; exact p_allocS rfl (by rfl) (by rfl) rfl rfl (flat_rows fun i => (by repeat' (first | exact Flat.bool _ | exact Flat.int _ _ | exact Flat.float _ _ | exact Flat.string _ | exact flat_nil | exact flat_tabL (fun _ => Flat.bool _) | exact flat_tabL (fun _ => Flat.int _ _) | exact flat_tabL (fun _ => Flat.float _ _) | refine flat_tuple ?_ | refine flat_agg ?_ | refine flat_cons ?_ ?_ | refine flat_append ?_ ?_))))
  rwa [Nat.zero_add] at key

theorem clearR (n c : Nat) (F : Nat → List Value) (hc : c ≤ n) (hF : ∀ q, (F q).length = 3) : (rows n F).take (c * 3) ++ (rows (n - c) fun _ => zeroT) ++ (rows n F).drop (c * 3 + (n - c) * 3) = rows n fun q => if q < c then F q else zeroT := by
  have h1 : (rows n F).length = n * 3 := rows_len fun q _ => hF q
  have h2 : (rows c F).length = c * 3 := rows_len fun q _ => hF q
  have e1 : (rows n F).take (c * 3) = rows c F := by
    obtain ⟨d, rfl⟩ : ∃ d, n = c + d := ⟨n - c, by omega⟩
    rw [rows_add, List.take_append_of_le_length (by omega), List.take_of_length_le (by omega)]
  have e2 : (rows n F).drop (c * 3 + (n - c) * 3) = [] := List.drop_eq_nil_of_le (by omega)
  rw [e1, e2, List.append_nil]
  obtain ⟨d, rfl⟩ : ∃ d, n = c + d := ⟨n - c, by omega⟩
  rw [rows_add, show c + d - c = d by omega]
  congr 1
  · exact rows_congr fun q hq => by rw [if_pos hq]
  · exact rows_congr fun q hq => by rw [if_neg (by omega)]

set_option maxHeartbeats 4000000 in
theorem iDeleteT (b n jm : Nat) (tg : Option Nat) (rm : Bool) (M : Mem) (hn : n ≤ 1048576) (hne : b ≠ jm) (hjm : M[jm]? = some ⟨[.int .i16 most], none, rm⟩) (hb : M[b]? = some ⟨rows n (talR A B C), tg, true⟩) :
    Mut Try.prog 79 [.slice (some ⟨b, 0, tg⟩) n n, wfun jm] M (.slice (some ⟨b, 0, tg⟩) (kpL B C most n).length n) (M.set b ⟨rows n (wfin A B C most n), tg, true⟩) := by
  have hbl := (List.getElem?_eq_some_iff.1 hb).1
  have hjl := (List.getElem?_eq_some_iff.1 hjm).1
  refine Mut.closed fun hM => ?_
  refine mut_ofB Try.func79 Try.ntmps79 rfl rfl (by rw [List.length_set]; exact Nat.le_refl _) (Bel.sl (by rw [List.length_set]; exact hbl)) (fun h => h.set (flat_wfin A B C most n n)) ?_
  have hsame : ∀ F : Nat → List Value, (∀ q, q < n → F q = talR A B C q) → M.set b ⟨rows n F, tg, true⟩ = M := fun F hF => by
    rw [rows_congr hF]
    apply List.ext_getElem?
    intro x
    rw [List.getElem?_set]
    split
    · rename_i e; subst e; first | exact hb.symm | (rw [if_pos hbl]; exact hb.symm)
    · rfl
  have hI := iIndexT (some ⟨b, 0, tg⟩) n n A B C most jm rm M hn hjm (SlAt.of hb)
  rcases idxT_cases (f := wrongT B C most) (k := n) (i := 0) with ⟨h1, h2⟩ | ⟨f0, h1, _, h3, h4, h5⟩
  · have hall : kpL B C most n = List.range n := kpL_all fun q hq => h2 q (by omega) (by omega)
    rw [h1] at hI
    rw [hsame _ fun q hq => by unfold wfin; rw [hall, List.length_range, if_pos hq, range_getD hq], hall, List.length_range]
    simp only [envOf, Nat.zero_add, Nat.reduceAdd]
    repeat' (first | (refine d_AOs (h := ?_) ; first | refine o_move (h := ?_) | refine o_assign (h := ?_) | refine AOs.nil (h := ?_) | (refine d_bin (h := ?_) ; first | refine o_eqNil (h := ?_) | refine o_addS (h := ?_) | refine o_add (h := ?_) | refine o_lss (h := ?_) | refine o_eqi (h := ?_) | refine o_eqB (h := ?_) )  | refine o_call (hc := hI) (h := ?_) | refine o_load (h := ?_) | refine o_at (h := ?_) | refine o_not (h := ?_) | refine o_len (h := ?_) | refine o_lenS (h := ?_) | refine o_ixS (h := ?_) | refine o_slHi (h := ?_) | refine o_slLo (h := ?_) | refine o_slLH (h := ?_) | refine o_store (h := ?_) | refine o_alloc (h := ?_) | refine o_ix (h := ?_) ) | (refine d_AW (h := ?_) ; first | refine AW.seq (h := ?_) | refine AW.region (h := ?_) | (refine AW.cond (ht := (fun hc => ?_)) (hf := (fun hc => ?_)) <;> (try (with_reducible first | exact absurd hc Bool.false_ne_true | exact absurd hc.symm Bool.false_ne_true)) <;> (try simp only [decide_eq_true_eq, decide_eq_false_iff_not, Int.ofNat_inj, Bool.not_eq_true', Bool.not_eq_false', Int.not_lt, Int.not_le] at hc) <;> (try (exfalso; omega)) <;> (try (exact absurd hc (by decide)))) | refine AW.block (h := ?_) | refine AW.ret (h := ?_) | refine AW.skip (h := ?_) | refine AW.exit (h := ?_) ) | (first | refine t_normal ?_ | refine t_ret ?_ | refine t_exit ?_ | refine b_normal ?_ | refine b_exit ?_ | refine b_exit' (by decide) ?_ | refine b_ret ?_) | (refine d_post (h := ?_) ; first | refine p_ret1 rfl (h := ?_) | refine p_end1 rfl (h := ?_) | refine p_cell1 rfl (h := ?_) ))
    all_goals rfl
  · rw [h1] at hI
    have hpre : kpL B C most (f0 + 1) = List.range f0 := by rw [kpL_no h4]; exact kpL_all fun q hq => h5 q (by omega) hq
    have hM0 : M = M.set b ⟨rows n (wcont A B C most (f0 + 1)), tg, true⟩ := (hsame _ fun q hq => by
      unfold wcont; rw [hpre, List.length_range]
      by_cases hq2 : q < f0
      · rw [if_pos hq2, range_getD hq2]
      · rw [if_neg hq2]).symm
    simp only [envOf, Nat.zero_add, Nat.reduceAdd]
    repeat' (first | (refine d_AOs (h := ?_) ; first | refine o_move (h := ?_) | refine o_assign (h := ?_) | refine AOs.nil (h := ?_) | (refine d_bin (h := ?_) ; first | refine o_eqNil (h := ?_) | refine o_addS (h := ?_) | refine o_add (h := ?_) | refine o_lss (h := ?_) | refine o_eqi (h := ?_) | refine o_eqB (h := ?_) )  | refine o_call (hc := hI) (h := ?_) | refine o_load (h := ?_) | refine o_at (h := ?_) | refine o_not (h := ?_) | refine o_len (h := ?_) | refine o_lenS (h := ?_) | refine o_ixS (h := ?_) | refine o_slHi (h := ?_) | refine o_slLo (h := ?_) | refine o_slLH (h := ?_) | refine o_store (h := ?_) | refine o_alloc (h := ?_) | refine o_ix (h := ?_) ) | (refine d_AW (h := ?_) ; first | refine AW.seq (h := ?_) | refine AW.region (h := ?_) | (refine AW.cond (ht := (fun hc => ?_)) (hf := (fun hc => ?_)) <;> (try (with_reducible first | exact absurd hc Bool.false_ne_true | exact absurd hc.symm Bool.false_ne_true)) <;> (try simp only [decide_eq_true_eq, decide_eq_false_iff_not, Int.ofNat_inj, Bool.not_eq_true', Bool.not_eq_false', Int.not_lt, Int.not_le] at hc) <;> (try (exfalso; omega)) <;> (try (exact absurd hc (by decide)))) | refine AW.block (h := ?_) | refine AW.ret (h := ?_) | refine AW.skip (h := ?_) | refine AW.exit (h := ?_) ) | (first | refine t_normal ?_ | refine t_ret ?_ | refine t_exit ?_ | refine b_normal ?_ | refine b_exit ?_ | refine b_exit' (by decide) ?_ | refine b_ret ?_) | (refine d_post (h := ?_) ; first | refine p_ret1 rfl (h := ?_) | refine p_end1 rfl (h := ?_) | refine p_cell1 rfl (h := ?_) ))
    refine AW.loopG [0, 1, 5, 6] (fun k s => ∃ (j : Nat), j + k = n ∧ (kpL B C most j).length < j ∧ s = ⟨42, [(0, .slice (some ⟨b, 0, tg⟩) n n), (1, wfun jm), (5, .int .i64 ((kpL B C most j).length : Int)), (6, .int .i64 (j : Int))], M.set b ⟨rows n (wcont A B C most j), tg, true⟩⟩) (n - (f0 + 1)) ⟨f0 + 1, by omega, by rw [hpre, List.length_range]; omega, by rw [← hM0, hpre, List.length_range]; rfl⟩ ?_
    rintro k s ⟨j, hj, hcj, rfl⟩
    have hcl := hM.set (flat_wcont A B C most n j) (b := b) (B := ⟨rows n (wcont A B C most j), tg, true⟩)
    have hset1 : ∀ B', (M.set b ⟨rows n (wcont A B C most j), tg, true⟩).set b B' = M.set b B' := fun B' => List.set_set ..
    have hlen : (M.set b ⟨rows n (wcont A B C most j), tg, true⟩).length = M.length := List.length_set
    have hbb : (M.set b ⟨rows n (wcont A B C most j), tg, true⟩)[b]? = some ⟨rows n (wcont A B C most j), tg, true⟩ := by
      rw [List.getElem?_set, if_pos rfl, if_pos hbl]
    have hjj : (M.set b ⟨rows n (wcont A B C most j), tg, true⟩)[jm]? = some ⟨[.int .i16 most], none, rm⟩ := by
      rw [List.getElem?_set, if_neg hne]; exact hjm
    generalize hM' : M.set b ⟨rows n (wcont A B C most j), tg, true⟩ = M' at *
    have hbl' : b < M'.length := by rw [hlen]; exact hbl
    have hjl' : jm < M'.length := by rw [hlen]; exact hjl
    have hset2 : ∀ B' T, (M' ++ T).set b B' = M.set b B' ++ T := fun B' T => by rw [List.set_append_left _ _ hbl', hset1]
    have hll := wcont_len A B C most j
    by_cases hin : j < n
    · have hrow : wcont A B C most j j = talR A B C j := by unfold wcont; rw [if_neg (by omega)]
      have hW := fun M' h => iWrong A B C most j jm rm M' h
      have hcn : (kpL B C most j).length < n := by omega
      cases hw : wrongT B C most j
      · rw [hw] at hW
        have hk1 := kpL_yes (most := most) hw
        repeat' (first | (refine d_AOs (h := ?_) ; first | refine o_move (h := ?_) | refine o_assign (h := ?_) | refine AOs.nil (h := ?_) | (refine d_bin (h := ?_) ; first | refine o_eqNil (h := ?_) | refine o_addS (h := ?_) | refine o_add (h := ?_) | refine o_lss (h := ?_) | refine o_eqi (h := ?_) | refine o_eqB (h := ?_) )  | refine o_load (hb := hbb) (hv := by exact ld_row hin (fun q _ => hll q) hrow) (h := ?_) | refine o_store (hb := by exact mem_head hbb) (hcs := by exact st_row hcn (fun q _ => hll q) rfl) (ho := by exact rows_le0 (q := 3) hcn (fun q _ => hll q) (by omega)) (hm := hset2 _ _) (h := ?_) | refine o_callVP (hc := (hW _ (by first | exact hjj | exact mem_head hjj))) (h := ?_) | refine o_load (h := ?_) | refine o_at (h := ?_) | refine o_not (h := ?_) | refine o_len (h := ?_) | refine o_lenS (h := ?_) | refine o_ixS (h := ?_) | refine o_slHi (h := ?_) | refine o_slLo (h := ?_) | refine o_slLH (h := ?_) | refine o_store (h := ?_) | refine o_alloc (h := ?_) | refine o_ix (h := ?_) ) | (refine d_AW (h := ?_) ; first | refine AW.seq (h := ?_) | refine AW.region (h := ?_) | (refine AW.cond (ht := (fun hc => ?_)) (hf := (fun hc => ?_)) <;> (try (with_reducible first | exact absurd hc Bool.false_ne_true | exact absurd hc.symm Bool.false_ne_true)) <;> (try simp only [decide_eq_true_eq, decide_eq_false_iff_not, Int.ofNat_inj, Bool.not_eq_true', Bool.not_eq_false', Int.not_lt, Int.not_le] at hc) <;> (try (exfalso; omega)) <;> (try (exact absurd hc (by decide)))) | refine AW.block (h := ?_) | refine AW.ret (h := ?_) | refine AW.skip (h := ?_) | refine AW.exit (h := ?_) ) | (first | refine t_normal ?_ | refine t_ret ?_ | refine t_exit ?_ | refine b_normal ?_ | refine b_exit ?_ | refine b_exit' (by decide) ?_ | refine b_ret ?_) | (refine d_post (h := ?_) ; first | refine p_ret1 rfl (h := ?_) | refine p_end1 rfl (h := ?_) | refine p_cell1 rfl (h := ?_) ))
        have e : (rows n fun q => if q = (kpL B C most j).length then cellsA (.agg (talR A B C j).toArray) else wcont A B C most j q) = rows n (wcont A B C most (j + 1)) := rows_congr fun q _ => by
          show (if q = (kpL B C most j).length then talR A B C j else wcont A B C most j q) = _
          unfold wcont
          rw [hk1, List.length_append, List.length_singleton]
          by_cases e : q = (kpL B C most j).length
          · subst e
            rw [if_pos rfl, if_pos (by omega), List.getD_eq_getElem?_getD, List.getElem?_append_right (Nat.le_refl _), Nat.sub_self]; rfl
          · rw [if_neg e]
            by_cases h2 : q < (kpL B C most j).length
            · rw [if_pos h2, if_pos (by omega), List.getD_eq_getElem?_getD, List.getD_eq_getElem?_getD, List.getElem?_append_left h2]
            · rw [if_neg h2, if_neg (by omega)]
        refine ⟨k - 1, _, _, by omega, rfl, ?_, ?_, ⟨Bel.sl ?_, Bel.func ?_, Bel.flat (Flat.int _ _), Bel.flat (Flat.int _ _), trivial⟩, j + 1, by omega, ?_, ?_⟩
        · rw [List.length_set]; exact Nat.le_refl _
        · rw [e]; exact hM.set (flat_wcont A B C most n (j + 1))
        · rw [List.length_set]; exact hbl
        · rw [List.length_set]; exact hjl
        · rw [hk1, List.length_append, List.length_singleton]; omega
        · rw [e, hk1, List.length_append, List.length_singleton]; rfl
      · rw [hw] at hW
        have hk1 := kpL_no (most := most) hw
        have hm2 : M.set b ⟨rows n (wcont A B C most (j + 1)), tg, true⟩ = M' := by rw [← hM']; unfold wcont; rw [hk1]
        repeat' (first | (refine d_AOs (h := ?_) ; first | refine o_move (h := ?_) | refine o_assign (h := ?_) | refine AOs.nil (h := ?_) | (refine d_bin (h := ?_) ; first | refine o_eqNil (h := ?_) | refine o_addS (h := ?_) | refine o_add (h := ?_) | refine o_lss (h := ?_) | refine o_eqi (h := ?_) | refine o_eqB (h := ?_) )  | refine o_load (hb := hbb) (hv := by exact ld_row hin (fun q _ => hll q) hrow) (h := ?_) | refine o_callVP (hc := (hW _ (by first | exact hjj | exact mem_head hjj))) (h := ?_) | refine o_load (h := ?_) | refine o_at (h := ?_) | refine o_not (h := ?_) | refine o_len (h := ?_) | refine o_lenS (h := ?_) | refine o_ixS (h := ?_) | refine o_slHi (h := ?_) | refine o_slLo (h := ?_) | refine o_slLH (h := ?_) | refine o_store (h := ?_) | refine o_alloc (h := ?_) | refine o_ix (h := ?_) ) | (refine d_AW (h := ?_) ; first | refine AW.seq (h := ?_) | refine AW.region (h := ?_) | (refine AW.cond (ht := (fun hc => ?_)) (hf := (fun hc => ?_)) <;> (try (with_reducible first | exact absurd hc Bool.false_ne_true | exact absurd hc.symm Bool.false_ne_true)) <;> (try simp only [decide_eq_true_eq, decide_eq_false_iff_not, Int.ofNat_inj, Bool.not_eq_true', Bool.not_eq_false', Int.not_lt, Int.not_le] at hc) <;> (try (exfalso; omega)) <;> (try (exact absurd hc (by decide)))) | refine AW.block (h := ?_) | refine AW.ret (h := ?_) | refine AW.skip (h := ?_) | refine AW.exit (h := ?_) ) | (first | refine t_normal ?_ | refine t_ret ?_ | refine t_exit ?_ | refine b_normal ?_ | refine b_exit ?_ | refine b_exit' (by decide) ?_ | refine b_ret ?_) | (refine d_post (h := ?_) ; first | refine p_ret1 rfl (h := ?_) | refine p_end1 rfl (h := ?_) | refine p_cell1 rfl (h := ?_) ))
        refine ⟨k - 1, _, _, by omega, rfl, ?_, hcl, ⟨Bel.sl hbl', Bel.func hjl', Bel.flat (Flat.int _ _), Bel.flat (Flat.int _ _), trivial⟩, j + 1, by omega, ?_, ?_⟩
        · rw [hlen]; exact Nat.le_refl _
        · rw [hk1]; omega
        · rw [hm2, hk1]; rfl
    · obtain rfl : j = n := by omega
      have hho : (kpL B C most j).length * 3 + (j - (kpL B C most j).length) * 3 ≤ (rows j (wcont A B C most j)).length := by
        rw [rows_len fun q _ => hll q]; omega
      have hfin : (rows j fun q => if q < (kpL B C most j).length then wcont A B C most j q else zeroT) = rows j (wfin A B C most j) := rows_congr fun q _ => by
        unfold wcont wfin
        by_cases h : q < (kpL B C most j).length
        · rw [if_pos h, if_pos h, if_pos h]
        · rw [if_neg h, if_neg h]
      have hcr := clearR j (kpL B C most j).length (wcont A B C most j) (by omega) hll
      rw [hfin] at hcr
      repeat' (first | (refine d_AOs (h := ?_) ; first | refine o_move (h := ?_) | refine o_assign (h := ?_) | refine AOs.nil (h := ?_) | (refine d_bin (h := ?_) ; first | refine o_eqNil (h := ?_) | refine o_addS (h := ?_) | refine o_add (h := ?_) | refine o_lss (h := ?_) | refine o_eqi (h := ?_) | refine o_eqB (h := ?_) )  | refine o_slLo (q := (kpL B C most j).length) (h := ?_) | refine o_slHi (h' := (kpL B C most j).length) (h := ?_) | refine o_clear (hb := hbb) (ho := hho) (hcs := by exact hcr) (hm := hset1 _) (h := ?_) | refine o_load (h := ?_) | refine o_at (h := ?_) | refine o_not (h := ?_) | refine o_len (h := ?_) | refine o_lenS (h := ?_) | refine o_ixS (h := ?_) | refine o_slHi (h := ?_) | refine o_slLo (h := ?_) | refine o_slLH (h := ?_) | refine o_store (h := ?_) | refine o_alloc (h := ?_) | refine o_ix (h := ?_) ) | (refine d_AW (h := ?_) ; first | refine AW.seq (h := ?_) | refine AW.region (h := ?_) | (refine AW.cond (ht := (fun hc => ?_)) (hf := (fun hc => ?_)) <;> (try (with_reducible first | exact absurd hc Bool.false_ne_true | exact absurd hc.symm Bool.false_ne_true)) <;> (try simp only [decide_eq_true_eq, decide_eq_false_iff_not, Int.ofNat_inj, Bool.not_eq_true', Bool.not_eq_false', Int.not_lt, Int.not_le] at hc) <;> (try (exfalso; omega)) <;> (try (exact absurd hc (by decide)))) | refine AW.block (h := ?_) | refine AW.ret (h := ?_) | refine AW.skip (h := ?_) | refine AW.exit (h := ?_) ) | (first | refine t_normal ?_ | refine t_ret ?_ | refine t_exit ?_ | refine b_normal ?_ | refine b_exit ?_ | refine b_exit' (by decide) ?_ | refine b_ret ?_) | (refine d_post (h := ?_) ; first | refine p_ret1 rfl (h := ?_) | refine p_end1 rfl (h := ?_) | refine p_cell1 rfl (h := ?_) ))
      all_goals rfl
end
end Go.Proofs.Ytehmdidkhbmkmaa
