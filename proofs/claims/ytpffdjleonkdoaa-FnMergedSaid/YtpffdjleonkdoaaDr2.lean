/- What is drawn: movements, a phase, a number. -/
import Derived.Test.YtpffdjleonkdoaaDr
namespace Go.Proofs.Ytpffdjleonkdoaa
open Go.RowKit
attribute [local irreducible] AW AOs AO AQ AQW thenA inBlockA postA ACalls Pure
set_option linter.unusedSimpArgs false
set_option linter.unusedVariables false
set_option linter.unusedSectionVars false

theorem ACalls.belC {P : Program} {f : FuncId} {args : List Value} {M : Mem} {R : Value → Mem → Prop} (h : Closed M.length M → (∀ x ∈ args, ∀ c ∈ cellsA x, Bel M.length c) → ACalls P f args M R) : ACalls P f args M R := by
  unfold ACalls at h ⊢
  intro B0 w0 r w cargs hs hv
  refine h hs.closed (fun x hx c hc => ?_) B0 w0 r w cargs hs hv
  obtain ⟨i, hi⟩ := List.getElem?_of_mem hx
  have hil : i < cargs.length := by rw [← hv.1]; exact (List.getElem?_eq_some_iff.1 hi).1
  have hxy := hv.2 i x cargs[i] hi (by simp)
  by_cases ha : ∃ cs, x = .agg cs
  · obtain ⟨cs, rfl⟩ := ha
    obtain ⟨ys, _, hy⟩ := hxy.agg_inv
    obtain ⟨q, hq⟩ := List.getElem?_of_mem (show c ∈ cs.toList from hc)
    have hql : q < ys.length := by rw [← hy.1]; exact (List.getElem?_eq_some_iff.1 hq).1
    exact Bel.of_VR hs.dom_lt (hy.2 q c ys[q] hq (by simp))
  · have e : cellsA x = [x] := by cases x <;> first | rfl | (exact (ha ⟨_, rfl⟩).elim)
    rw [e] at hc
    obtain rfl := List.mem_singleton.1 hc
    exact Bel.of_VR hs.dom_lt hxy
/-- One new block, and the pointer to it. -/
theorem p_allocP {P : Program} {fn : Func} {n : Nat} {t : Env} {m M G : Mem} {k j q o : Nat} {tg : Option Nat} {b : Blk} (hr : fn.results = #[.tmp k]) (hv : look t k = .pointer (some ⟨j, o, tg⟩)) (hj : j = M.length + q) (hm : m = M ++ G) (hq : G[q]? = some b) (hfl : ∀ c ∈ b.cells, Bel M.length c) :
    postA P fn (RelA M [q] (.pointer (some ⟨M.length, o, tg⟩)) [b]) .ret ⟨n, t, m⟩ := by
  subst hm hj
  have e : placeOf M.length [q] M.length = M.length + q := by unfold placeOf; simp
  unfold postA
  refine ⟨.pointer (some ⟨M.length + q, o, tg⟩), res1 hr hv, G, rfl, ?_, fun i b' hb => ?_⟩
  · have := RenV.ptr (L := M.length + 1) (j := M.length) (o := o) (tg := tg) (s := placeOf M.length [q]) (by omega)
    rw [e] at this
    exact this
  · cases i with
    | zero =>
      simp at hb; subst hb
      refine ⟨b, by simpa using hq, rfl, rfl, rfl, fun i x y hx hy => ?_⟩
      rw [hx] at hy; cases hy
      exact RenV.bel (L0 := M.length) (fun j hj => by unfold placeOf; rw [if_pos hj]) (by simp) (hfl x (List.mem_of_getElem? hx))
    | succ i => simp at hb
section
variable (a : Option Addr) (n cp : Nat) (cd : Nat → Int)
theorem sfrom (M : Mem) : Alloc Try.prog 44 [.slice a n cp] M (.pointer (some ⟨M.length, 0, none⟩)) [srcB a n cp (0, 0)] := by
  refine ACalls.belC fun hM hA => ?_
  have hA0 := hA (.slice a n cp) (by simp) (.slice a n cp) (by simp [cellsA])
  refine alloc_of [0] Try.func44 Try.ntmps44 rfl rfl rfl (by decide) ?_
  simp only [envOf, Nat.zero_add, Nat.reduceAdd]
  repeat' (first | (refine d_AOs (h := ?_) ; first | refine o_move (h := ?_) | refine o_assign (h := ?_) | refine AOs.nil (h := ?_)  | refine o_at (h := ?_) | refine o_box (h := ?_) | refine o_build (h := ?_) ) | (refine d_AW (h := ?_) ; first | refine AW.seq (h := ?_) | refine AW.region (h := ?_) | (refine AW.cond (ht := (fun hc => ?_)) (hf := (fun hc => ?_)) <;> (try (with_reducible first | exact absurd hc Bool.false_ne_true | exact absurd hc.symm Bool.false_ne_true)) <;> (try simp only [decide_eq_true_eq, decide_eq_false_iff_not, Int.ofNat_inj, Bool.not_eq_true', Bool.not_eq_false', Int.not_lt, Int.not_le] at hc) <;> (try (exfalso; omega)) <;> (try (exact absurd hc (by decide)))) | refine AW.block (h := ?_) | refine AW.ret (h := ?_) | refine AW.skip (h := ?_) | refine AW.exit (h := ?_) ) | (first | refine t_normal ?_ | refine t_ret ?_ | refine t_exit ?_ | refine b_normal ?_ | refine b_exit ?_ | refine b_exit' (by decide) ?_ | refine b_ret ?_) | (refine d_post (h := ?_) ; first | refine p_ret1 rfl (h := ?_) | refine p_end1 rfl (h := ?_) | refine p_cell1 rfl (h := ?_) ))
  refine p_allocP rfl (by rfl) (by rfl) rfl rfl fun c hc => ?_
  simp only [List.mem_cons, List.not_mem_nil, or_false] at hc
  rcases hc with rfl | rfl | rfl
  · exact hA0
  · exact Bel.flat (Flat.int _ _)
  · exact Bel.flat (Flat.int _ _)
theorem sP6Pick (hcd : ∀ q, 0 ≤ cd q ∧ cd q ≤ 255) (hn : n ≤ 1048576) (m : Int) (hm : m ≤ 200) (M : Mem) (hS : SlAt M a n (tab n fun q => .int .u8 (cd q))) :
    Pure Try.prog 35 [.slice a n cp, .int .i64 m] M (.int .i64 (pkV n cd (0, 0) m)) := by
  refine pure_of Try.func35 Try.ntmps35 rfl rfl (by repeat' (first | exact Flat.bool _ | exact Flat.int _ _ | exact Flat.float _ _ | exact Flat.string _ | exact flat_nil | exact flat_tabL (fun _ => Flat.bool _) | exact flat_tabL (fun _ => Flat.int _ _) | exact flat_tabL (fun _ => Flat.float _ _) | refine flat_tuple ?_ | refine flat_agg ?_ | refine flat_cons ?_ ?_ | refine flat_append ?_ ?_)) ?_
  have hp := fun j M' h1 h2 => spick a n cp cd hcd hn (0, 0) m hm j M' (by simp) h1 h2
  simp only [envOf, Nat.zero_add, Nat.reduceAdd]
  repeat' (first | (refine d_AOs (h := ?_) ; first | refine o_move (h := ?_) | refine o_assign (h := ?_) | refine AOs.nil (h := ?_)  | refine o_callA (hc := (sfrom a n cp _)) (h := ?_) | refine o_callM (hc := (hp _ _ (by first | (simp only [mem_tail, mem_tail0, List.getElem?_cons_zero, List.getElem?_cons_succ]; first | done | rfl) | exact mem_head (by assumption) | assumption | (simp only [mem_tailS, mem_tailS0, List.getElem?_cons_zero, List.getElem?_cons_succ]; first | done | rfl) | exact mem_set1 (by assumption) | exact mem_set0 (by assumption) | exact mem_setN1 (by assumption) (by assumption) | exact mem_setN (by assumption) (by assumption)) (by first | exact hS | exact hS.append))) (h := ?_) | refine o_at (h := ?_) ) | (refine d_AW (h := ?_) ; first | refine AW.seq (h := ?_) | refine AW.region (h := ?_) | (refine AW.cond (ht := (fun hc => ?_)) (hf := (fun hc => ?_)) <;> (try (with_reducible first | exact absurd hc Bool.false_ne_true | exact absurd hc.symm Bool.false_ne_true)) <;> (try simp only [decide_eq_true_eq, decide_eq_false_iff_not, Int.ofNat_inj, Bool.not_eq_true', Bool.not_eq_false', Int.not_lt, Int.not_le] at hc) <;> (try (exfalso; omega)) <;> (try (exact absurd hc (by decide)))) | refine AW.block (h := ?_) | refine AW.ret (h := ?_) | refine AW.skip (h := ?_) | refine AW.exit (h := ?_) ) | (first | refine t_normal ?_ | refine t_ret ?_ | refine t_exit ?_ | refine b_normal ?_ | refine b_exit ?_ | refine b_exit' (by decide) ?_ | refine b_ret ?_) | (refine d_post (h := ?_) ; first | refine p_ret1 rfl (h := ?_) | refine p_end1 rfl (h := ?_) | refine p_cell1 rfl (h := ?_) ))
  all_goals rfl
theorem lf6big (M : Mem) (hn : n ≤ 9223372036854775807) : Pure Try.prog 34 [.slice a n cp] M (.bool (decide ((4096 : Int) < n))) := by
  refine pure_of Try.func34 Try.ntmps34 rfl rfl (by repeat' (first | exact Flat.bool _ | exact Flat.int _ _ | exact Flat.float _ _ | exact Flat.string _ | exact flat_nil | exact flat_tabL (fun _ => Flat.bool _) | exact flat_tabL (fun _ => Flat.int _ _) | exact flat_tabL (fun _ => Flat.float _ _) | refine flat_tuple ?_ | refine flat_agg ?_ | refine flat_cons ?_ ?_ | refine flat_append ?_ ?_)) ?_
  simp only [envOf, Nat.zero_add, Nat.reduceAdd]
  repeat' (first | (refine d_AOs (h := ?_) ; first | refine o_move (h := ?_) | refine o_assign (h := ?_) | refine AOs.nil (h := ?_) | (refine d_bin (h := ?_) ; first | refine o_gtr (h := ?_) )  | refine o_at (h := ?_) | refine o_len (h := ?_) | refine o_lenS (h := ?_) ) | (refine d_AW (h := ?_) ; first | refine AW.seq (h := ?_) | refine AW.region (h := ?_) | (refine AW.cond (ht := (fun hc => ?_)) (hf := (fun hc => ?_)) <;> (try (with_reducible first | exact absurd hc Bool.false_ne_true | exact absurd hc.symm Bool.false_ne_true)) <;> (try simp only [decide_eq_true_eq, decide_eq_false_iff_not, Int.ofNat_inj, Bool.not_eq_true', Bool.not_eq_false', Int.not_lt, Int.not_le] at hc) <;> (try (exfalso; omega)) <;> (try (exact absurd hc (by decide)))) | refine AW.block (h := ?_) | refine AW.ret (h := ?_) | refine AW.skip (h := ?_) | refine AW.exit (h := ?_) ) | (first | refine t_normal ?_ | refine t_ret ?_ | refine t_exit ?_ | refine b_normal ?_ | refine b_exit ?_ | refine b_exit' (by decide) ?_ | refine b_ret ?_) | (refine d_post (h := ?_) ; first | refine p_ret1 rfl (h := ?_) | refine p_end1 rfl (h := ?_) | refine p_cell1 rfl (h := ?_) ))
  all_goals rfl

/-! ### Movements -/
def mvS (s : DS) : Nat → DS
  | 0 => s
  | i + 1 => pkS n cd (pkS n cd (mvS s i) 4) 3
theorem mvS_at (s : DS) : ∀ i, (mvS n cd s i).1 ≤ s.1 + 2 * i
  | 0 => Nat.le_refl _
  | i + 1 => by
    have h1 := mvS_at s i
    have h2 := pkS_at n cd (mvS n cd s i) 4
    have h3 := pkS_at n cd (pkS n cd (mvS n cd s i) 4) 3
    show (pkS n cd (pkS n cd (mvS n cd s i) 4) 3).1 ≤ _
    omega
def mvF (s : DS) (i : Nat) : Int := pkV n cd (mvS n cd s i) 4
def mvG (s : DS) (i : Nat) : Int := (pkV n cd (mvS n cd s i) 4 + 1 + pkV n cd (pkS n cd (mvS n cd s i) 4) 3) % 4
theorem mv_bd (s : DS) (i : Nat) : (0 ≤ mvF n cd s i ∧ mvF n cd s i ≤ 3) ∧ (0 ≤ mvG n cd s i ∧ mvG n cd s i ≤ 3) ∧ mvF n cd s i ≠ mvG n cd s i := by
  have h1 := pkV_bd (n := n) (cd := cd) (mvS n cd s i) (m := 4) (by omega)
  have h2 := pkV_bd (n := n) (cd := cd) (pkS n cd (mvS n cd s i) 4) (m := 3) (by omega)
  unfold mvF mvG
  omega
/-- How many, and where they go; nothing beyond. -/
def mvC (s : DS) : Int := pkV n cd s 9
def mvA (z : Nat → Int) (c : Int) (i : Nat) : Int := if (i : Int) < c then z i else 0
theorem mvA_upd {z : Nat → Int} {i m : Nat} : tab m (fun j => if j = i then .int .i64 (z i) else (fun j => .int .i64 (mvA z i j)) j) = tab m (fun j => .int .i64 (mvA z ((i : Int) + 1) j)) :=
  tab_congr fun j _ => by
    unfold mvA
    by_cases h : j = i
    · subst h; rw [if_pos rfl, if_pos (by omega)]
    · rw [if_neg h]
      by_cases h2 : j < i
      · show Value.int .i64 (if (j : Int) < i then z j else 0) = _
        rw [if_pos (by omega), if_pos (by omega)]
      · show Value.int .i64 (if (j : Int) < i then z j else 0) = _
        rw [if_neg (by omega), if_neg (by omega)]
end
end Go.Proofs.Ytpffdjleonkdoaa
