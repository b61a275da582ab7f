/- Lists of tallies: marks, and lists that lie at the head of their block. -/
import Derived.Test.YtehmdidkhbmkmaaB4
import Derived.Test.YtehmdidkhbmkmaaCp
namespace Go.Proofs.Ytehmdidkhbmkmaa
open Go.RowKit
attribute [local irreducible] AW AOs AO AQ AQW thenA inBlockA postA ACalls Pure
set_option linter.unusedSimpArgs false

/-- The slice leads to the rows f, and perhaps more behind them. -/
def SlP (M : Mem) (a : Option Addr) (n k : Nat) (f : Nat → List Value) : Prop := 0 < n → ∃ b tg rw' N F, a = some ⟨b, 0, tg⟩ ∧ n ≤ N ∧ M[b]? = some ⟨rows N F, tg, rw'⟩ ∧ (∀ q, q < n → F q = f q) ∧ ∀ q, q < N → (F q).length = k
theorem SlP.of {M : Mem} {b n N k : Nat} {tg : Option Nat} {rw' : Bool} {F f : Nat → List Value} (hb : M[b]? = some ⟨rows N F, tg, rw'⟩) (hn : n ≤ N) (hf : ∀ q, q < n → F q = f q) (hk : ∀ q, q < N → (F q).length = k) : SlP M (some ⟨b, 0, tg⟩) n k f :=
  fun _ => ⟨b, tg, rw', N, F, rfl, hn, hb, hf, hk⟩
theorem SlP.nil {M : Mem} {a : Option Addr} {k : Nat} {f : Nat → List Value} : SlP M a 0 k f := fun h => absurd h (Nat.lt_irrefl 0)

abbrev talR (A B C : Nat → Int) (q : Nat) : List Value := [.int .i64 (A q), .int .i16 (B q), .int .i16 (C q)]
/-- The mark of a row. -/
abbrev mkT (k : Int) (q : Nat) : List Value := [.int .i64 (k + (q * 3 : Nat)), .int .i16 (IntKind.i16.wrap (k + (q * 3 : Nat) + 1)), .int .i16 (IntKind.i16.wrap (k + (q * 3 : Nat) + 1 + 1))]
def mixT (k : Int) (F : Nat → List Value) (i q : Nat) : List Value := if q < i then mkT k q else F q
theorem mixT_len {k : Int} {F : Nat → List Value} {N : Nat} (hF : ∀ q, q < N → (F q).length = 3) (i : Nat) : ∀ q, q < N → (mixT k F i q).length = 3 := fun q hq => by
  unfold mixT
  split
  · rfl
  · exact hF q hq
theorem set_len {F : Nat → List Value} {N i o : Nat} {v : Value} {G : List Value} (hF : ∀ q, q < N → (F q).length = 3) (hG : G.length = 3) : ∀ q, q < N → ((fun q => if q = i then G.set o v else F q) q).length = 3 := fun q hq => by
  show (if q = i then G.set o v else F q).length = 3
  split
  · rw [List.length_set]; exact hG
  · exact hF q hq
set_option maxHeartbeats 4000000 in
theorem lmarkTallyS (n N cp b : Nat) (tg : Option Nat) (F : Nat → List Value) (k : Int) (hk : 0 ≤ k ∧ k ≤ 1000000) (hn : n ≤ 1048576) (hnN : n ≤ N) (hF : ∀ q, q < N → (F q).length = 3) (M : Mem) (hfl : ∀ c ∈ rows N F, Flat c) (hb : M[b]? = some ⟨rows N F, tg, true⟩) :
    Mut Try.prog 19 [.slice (some ⟨b, 0, tg⟩) n cp, .int .i64 k] M (.int .i64 (k + (n * 3 : Nat))) (M.set b ⟨rows N (mixT k F n), tg, true⟩) := by
  have hfm : ∀ i, i ≤ N → ∀ c ∈ rows N (mixT k F i), Flat c := fun i _ c hc => by
    unfold rows at hc
    obtain ⟨q, hq, hc⟩ := List.mem_flatMap.1 hc
    unfold mixT at hc
    split at hc
    · simp only [List.mem_cons, List.not_mem_nil, or_false] at hc
      rcases hc with rfl | rfl | rfl <;> exact Flat.int _ _
    · exact hfl c (by unfold rows; exact List.mem_flatMap.2 ⟨q, hq, hc⟩)
  refine mut_of Try.func19 Try.ntmps19 rfl rfl (by rw [List.length_set]; exact Nat.le_refl _) (by repeat' (first | exact Flat.bool _ | exact Flat.int _ _ | exact Flat.float _ _ | exact Flat.string _ | exact flat_nil | exact flat_tabL (fun _ => Flat.bool _) | exact flat_tabL (fun _ => Flat.int _ _) | exact flat_tabL (fun _ => Flat.float _ _) | refine flat_tuple ?_ | refine flat_agg ?_ | refine flat_cons ?_ ?_ | refine flat_append ?_ ?_)) (fun h => h.set (hfm n hnN)) ?_
  have hbl := (List.getElem?_eq_some_iff.1 hb).1
  have hM0 : M = M.set b ⟨rows N (mixT k F 0), tg, true⟩ := by
    have e : rows N (mixT k F 0) = rows N F := rows_congr fun q _ => by unfold mixT; rw [if_neg (by omega)]
    rw [e]
    apply List.ext_getElem?
    intro x
    rw [List.getElem?_set]
    split
    · rename_i e; subst e; first | exact hb | (rw [if_pos hbl]; exact hb)
    · rfl
  simp only [envOf, Nat.zero_add, Nat.reduceAdd]
  repeat' (first | (refine d_AOs (h := ?_) ; first | refine o_move (h := ?_) | refine o_assign (h := ?_) | refine AOs.nil (h := ?_) | (refine d_bin (h := ?_) ; first | refine o_addS (h := ?_) | refine o_add (h := ?_) | refine o_lss (h := ?_) )  | refine o_at (h := ?_) | refine o_field (h := ?_) | refine o_len (h := ?_) | refine o_lenS (h := ?_) | refine o_ixS (h := ?_) | refine o_store (h := ?_) | refine o_ix (h := ?_) | refine o_convS (h := ?_) | refine o_conv (h := ?_) | refine o_fconv (h := ?_) | refine o_fofInt (h := ?_) ) | (refine d_AW (h := ?_) ; first | refine AW.seq (h := ?_) | refine AW.region (h := ?_) | (refine AW.cond (ht := (fun hc => ?_)) (hf := (fun hc => ?_)) <;> (try (with_reducible first | exact absurd hc Bool.false_ne_true | exact absurd hc.symm Bool.false_ne_true)) <;> (try simp only [decide_eq_true_eq, decide_eq_false_iff_not, Int.ofNat_inj, Bool.not_eq_true', Bool.not_eq_false', Int.not_lt, Int.not_le] at hc) <;> (try (exfalso; omega)) <;> (try (exact absurd hc (by decide)))) | refine AW.block (h := ?_) | refine AW.ret (h := ?_) | refine AW.skip (h := ?_) | refine AW.exit (h := ?_) ) | (first | refine t_normal ?_ | refine t_ret ?_ | refine t_exit ?_ | refine b_normal ?_ | refine b_exit ?_ | refine b_exit' (by decide) ?_ | refine b_ret ?_) | (refine d_post (h := ?_) ; first | refine p_ret1 rfl (h := ?_) | refine p_end1 rfl (h := ?_) | refine p_cell1 rfl (h := ?_) ))
  refine AW.loopN [0, 1, 5] (fun kk s => ∃ (i : Nat), i + kk = n ∧ s = ⟨36, [(0, .slice (some ⟨b, 0, tg⟩) n cp), (1, .int .i64 (k + (i * 3 : Nat))), (5, .int .i64 i)], M.set b ⟨rows N (mixT k F i), tg, true⟩⟩) n ⟨0, by omega, by rw [Nat.zero_mul, ← hM0]; simp; rfl⟩ ?_
  rintro kk s ⟨i, hi, rfl⟩
  by_cases hin : i < n
  · have hiN : i < N := by omega
    have h0 := mixT_len (k := k) hF i
    have hbb : ∀ B : Blk, (M.set b B)[b]? = some B := fun B => by
      rw [List.getElem?_set, if_pos rfl, if_pos hbl]
    have hset : ∀ B B' : Blk, (M.set b B).set b B' = M.set b B' := fun B B' => List.set_set ..
    have h1 := fun v : Value => set_len (i := i) (o := 0) (v := v) h0 (h0 i hiN)
    have h2 := fun v w : Value => set_len (i := i) (o := 1) (v := w) (h1 v) (h1 v i hiN)
    repeat' (first | (refine d_AOs (h := ?_) ; first | refine o_move (h := ?_) | refine o_assign (h := ?_) | refine AOs.nil (h := ?_) | (refine d_bin (h := ?_) ; first | refine o_addS (h := ?_) | refine o_add (h := ?_) | refine o_lss (h := ?_) )  | refine o_store (hb := hbb _) (hcs := by exact st_cell0 hiN h0 (by omega)) (ho := by exact rows_le0 (q := 1) hiN h0 (by omega)) (hm := hset _ _) (h := ?_) | refine o_store (hb := hbb _) (hcs := by exact st_cell (o := 1) hiN (h1 _) (by omega)) (ho := by exact rows_le (o := 1) (q := 1) hiN (h1 _) (by omega)) (hm := hset _ _) (h := ?_) | refine o_store (hb := hbb _) (hcs := by exact st_cell (o := 2) hiN (h2 _ _) (by omega)) (ho := by exact rows_le (o := 2) (q := 1) hiN (h2 _ _) (by omega)) (hm := hset _ _) (h := ?_) | refine o_at (h := ?_) | refine o_field (h := ?_) | refine o_len (h := ?_) | refine o_lenS (h := ?_) | refine o_ixS (h := ?_) | refine o_store (h := ?_) | refine o_ix (h := ?_) | refine o_convS (h := ?_) | refine o_conv (h := ?_) | refine o_fconv (h := ?_) | refine o_fofInt (h := ?_) ) | (refine d_AW (h := ?_) ; first | refine AW.seq (h := ?_) | refine AW.region (h := ?_) | (refine AW.cond (ht := (fun hc => ?_)) (hf := (fun hc => ?_)) <;> (try (with_reducible first | exact absurd hc Bool.false_ne_true | exact absurd hc.symm Bool.false_ne_true)) <;> (try simp only [decide_eq_true_eq, decide_eq_false_iff_not, Int.ofNat_inj, Bool.not_eq_true', Bool.not_eq_false', Int.not_lt, Int.not_le] at hc) <;> (try (exfalso; omega)) <;> (try (exact absurd hc (by decide)))) | refine AW.block (h := ?_) | refine AW.ret (h := ?_) | refine AW.skip (h := ?_) | refine AW.exit (h := ?_) ) | (first | refine t_normal ?_ | refine t_ret ?_ | refine t_exit ?_ | refine b_normal ?_ | refine b_exit ?_ | refine b_exit' (by decide) ?_ | refine b_ret ?_) | (refine d_post (h := ?_) ; first | refine p_ret1 rfl (h := ?_) | refine p_end1 rfl (h := ?_) | refine p_cell1 rfl (h := ?_) ))
    refine ⟨kk - 1, by omega, i + 1, by omega, ?_⟩
    have hlen := h0 i hiN
    obtain ⟨x, y, z, hxyz⟩ : ∃ x y z, mixT k F i i = [x, y, z] := by
      match hq : mixT k F i i, hlen with
      | [x, y, z], _ => exact ⟨x, y, z, rfl⟩
    have e : rows N (mixT k F (i + 1)) = rows N fun q => if q = i then mkT k i else mixT k F i q := rows_congr fun q _ => by
      unfold mixT
      by_cases e : q = i
      · subst e; rw [if_pos (by omega), if_pos rfl]
      · rw [if_neg e]
        by_cases h : q < i
        · rw [if_pos (by omega), if_pos h]
        · rw [if_neg (by omega), if_neg h]
    have e3 : k + (((i + 1) * 3 : Nat) : Int) = k + ((i * 3 : Nat) : Int) + 1 + 1 + 1 := by omega
    rw [e, e3]
    simp only [if_true, hxyz, List.set_cons_zero, List.set_cons_succ]
    have e2 : ∀ w : List Value, (rows N fun q => if q = i then w else if q = i then [.int .i64 (k + (i * 3 : Nat)), .int .i16 (IntKind.i16.wrap (k + (i * 3 : Nat) + 1)), z] else if q = i then [.int .i64 (k + (i * 3 : Nat)), y, z] else mixT k F i q) = rows N fun q => if q = i then w else mixT k F i q := fun w => rows_congr fun q _ => by
      by_cases h : q = i
      · rw [if_pos h, if_pos h]
      · simp only [if_neg h]
    first | rfl | (rw [e2]; rfl)
  · obtain rfl : i = n := by omega
    repeat' (first | (refine d_AOs (h := ?_) ; first | refine o_move (h := ?_) | refine o_assign (h := ?_) | refine AOs.nil (h := ?_) | (refine d_bin (h := ?_) ; first | refine o_addS (h := ?_) | refine o_add (h := ?_) | refine o_lss (h := ?_) )  | refine o_at (h := ?_) | refine o_field (h := ?_) | refine o_len (h := ?_) | refine o_lenS (h := ?_) | refine o_ixS (h := ?_) | refine o_store (h := ?_) | refine o_ix (h := ?_) | refine o_convS (h := ?_) | refine o_conv (h := ?_) | refine o_fconv (h := ?_) | refine o_fofInt (h := ?_) ) | (refine d_AW (h := ?_) ; first | refine AW.seq (h := ?_) | refine AW.region (h := ?_) | (refine AW.cond (ht := (fun hc => ?_)) (hf := (fun hc => ?_)) <;> (try (with_reducible first | exact absurd hc Bool.false_ne_true | exact absurd hc.symm Bool.false_ne_true)) <;> (try simp only [decide_eq_true_eq, decide_eq_false_iff_not, Int.ofNat_inj, Bool.not_eq_true', Bool.not_eq_false', Int.not_lt, Int.not_le] at hc) <;> (try (exfalso; omega)) <;> (try (exact absurd hc (by decide)))) | refine AW.block (h := ?_) | refine AW.ret (h := ?_) | refine AW.skip (h := ?_) | refine AW.exit (h := ?_) ) | (first | refine t_normal ?_ | refine t_ret ?_ | refine t_exit ?_ | refine b_normal ?_ | refine b_exit ?_ | refine b_exit' (by decide) ?_ | refine b_ret ?_) | (refine d_post (h := ?_) ; first | refine p_ret1 rfl (h := ?_) | refine p_end1 rfl (h := ?_) | refine p_cell1 rfl (h := ?_) ))
    all_goals rfl
end Go.Proofs.Ytehmdidkhbmkmaa
