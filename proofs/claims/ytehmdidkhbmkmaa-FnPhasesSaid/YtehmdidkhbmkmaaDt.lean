/- Tables that are drawn. -/
import Derived.Test.YtehmdidkhbmkmaaCf
namespace Go.Proofs.Ytehmdidkhbmkmaa
open Go.RowKit
attribute [local irreducible] AW AOs AO AQ AQW thenA inBlockA postA ACalls Pure
set_option linter.unusedSimpArgs false

section
variable (a : Option Addr) (n cp : Nat) (cd : Nat → Int)
abbrev TS := (Nat → Bool) × DS
def tbStep (i : Nat) (x : TS) (k : Nat) : TS := (fun q => if decide (pkV n cd x.2 3 = 0) = true then (if q = k * 8 + i then true else if q = i * 8 + k then true else x.1 q) else x.1 q, pkS n cd x.2 3)
def tbIn (i : Nat) (x : TS) : Nat → TS
  | 0 => x
  | k + 1 => tbStep n cd i (tbIn i x k) k
def tbOut (s : DS) : Nat → TS
  | 0 => (fun _ => false, s)
  | i + 1 => tbIn n cd i (tbOut s i) i
/-- A table that is as its mirror, and false on the ridge. -/
def symT (T : Nat → Bool) : Prop := ∀ x y, x < 8 → y < 8 → T (x * 8 + y) = T (y * 8 + x) ∧ (x = y → T (x * 8 + y) = false)
theorem tbStep_sym {i : Nat} {x : TS} {k : Nat} (hk : k < i) (hi : i < 8) (h : symT x.1) : symT (tbStep n cd i x k).1 := by
  intro a b ha hb
  obtain ⟨h1, h2⟩ := h a b ha hb
  unfold tbStep
  by_cases hd : decide (pkV n cd x.2 3 = 0) = true
  · simp only [if_pos hd]
    by_cases e1 : a = k ∧ b = i
    · obtain ⟨rfl, rfl⟩ := e1
      rw [if_pos rfl, if_neg (by omega), if_pos rfl]
      exact ⟨rfl, fun e => by omega⟩
    · by_cases e2 : a = i ∧ b = k
      · obtain ⟨rfl, rfl⟩ := e2
        rw [if_neg (by omega), if_pos rfl, if_pos rfl]
        exact ⟨rfl, fun e => by omega⟩
      · rw [if_neg (by omega), if_neg (by omega), if_neg (by omega), if_neg (by omega)]
        exact ⟨h1, h2⟩
  · simp only [if_neg hd]
    exact ⟨h1, h2⟩
theorem tbIn_sym {i : Nat} {x : TS} (hi : i < 8) (h : symT x.1) : ∀ k, k ≤ i → symT (tbIn n cd i x k).1
  | 0, _ => h
  | k + 1, hk => tbStep_sym n cd (by omega) hi (tbIn_sym hi h k (by omega))
theorem tbOut_sym (s : DS) : ∀ i, i ≤ 8 → symT (tbOut n cd s i).1
  | 0, _ => fun x y _ _ => ⟨rfl, fun _ => rfl⟩
  | i + 1, hi => tbIn_sym n cd (by omega) (tbOut_sym s i (by omega)) i (by omega)
theorem tbIn_at {i : Nat} {x : TS} : ∀ k, (tbIn n cd i x k).2.1 ≤ x.2.1 + k
  | 0 => Nat.le_refl _
  | k + 1 => by
    have h1 := tbIn_at (i := i) (x := x) k
    have h2 := pkS_at n cd (tbIn n cd i x k).2 3
    show (pkS n cd (tbIn n cd i x k).2 3).1 ≤ _
    omega
theorem tbOut_at (s : DS) : ∀ i, i ≤ 8 → (tbOut n cd s i).2.1 ≤ s.1 + 8 * i
  | 0, _ => Nat.le_refl _
  | i + 1, hi => by
    have h1 := tbOut_at s i (by omega)
    have h2 := tbIn_at n cd (i := i) (x := tbOut n cd s i) i
    show (tbIn n cd i (tbOut n cd s i) i).2.1 ≤ _
    omega
theorem symT_ok {T : Nat → Bool} (h : symT T) : tabOk T = true := by
  unfold tabOk
  rw [okK_all]
  intro i _ hi
  rw [okK_all]
  intro k _ hk
  obtain ⟨h1, h2⟩ := h i k (by omega) (by omega)
  unfold tOk
  rw [← h1]
  by_cases e : i = k
  · rw [h2 e]; simp
  · simp [e]
/-- The table that is drawn, and the source behind it. -/
def tbV (s : DS) : Nat → Bool := if pkV n cd s 2 = 0 then mvT (mvA (mvF n cd (pkS n cd (pkS n cd s 2) 9)) (mvC n cd (pkS n cd s 2))) (mvA (mvG n cd (pkS n cd (pkS n cd s 2) 9)) (mvC n cd (pkS n cd s 2))) (mvC n cd (pkS n cd s 2)).toNat else (tbOut n cd (pkS n cd s 2) 8).1
def tbE (s : DS) : DS := if pkV n cd s 2 = 0 then mvS n cd (pkS n cd (pkS n cd s 2) 9) (mvC n cd (pkS n cd s 2)).toNat else (tbOut n cd (pkS n cd s 2) 8).2
theorem mv_okT (s : DS) : okK (movB (mvA (mvF n cd (pkS n cd s 9)) (mvC n cd s)) (mvA (mvG n cd (pkS n cd s 9)) (mvC n cd s)) (mvC n cd s)) 8 0 = true := by
  rw [okK_all]
  intro i _ hi
  unfold movB
  by_cases h : (i : Int) < mvC n cd s
  · rw [if_pos h]
    unfold mvA
    rw [if_pos h, if_pos h]
    exact decide_eq_true (mv_bd n cd _ i)
  · rw [if_neg h]
    unfold mvA
    rw [if_neg h, if_neg h]
    exact decide_eq_true ⟨rfl, rfl⟩
theorem mv_cross (s : DS) : crossV (mvA (mvF n cd (pkS n cd s 9)) (mvC n cd s)) (mvA (mvG n cd (pkS n cd s 9)) (mvC n cd s)) (mvC n cd s) = .tuple [.agg (tab 64 fun q => .bool (mvT (mvA (mvF n cd (pkS n cd s 9)) (mvC n cd s)) (mvA (mvG n cd (pkS n cd s 9)) (mvC n cd s)) (mvC n cd s).toNat q)).toArray, .int .i64 0].toArray := by
  have h9 := pkV_bd (n := n) (cd := cd) s (m := 9) (by omega)
  unfold crossV
  rw [if_pos ⟨by unfold mvC; omega, mv_okT n cd s⟩]
theorem tbV_ok (s : DS) : tabOk (tbV n cd s) = true := by
  unfold tbV
  split
  · refine mvT_ok fun i hi => ?_
    have h9 := pkV_bd (n := n) (cd := cd) (pkS n cd s 2) (m := 9) (by omega)
    have hi' : (i : Int) < mvC n cd (pkS n cd s 2) := by unfold mvC at hi ⊢; omega
    unfold mvA
    rw [if_pos hi', if_pos hi']
    exact mv_bd n cd _ i
  · exact symT_ok (tbOut_sym n cd _ 8 (Nat.le_refl 8))
set_option maxHeartbeats 4000000 in
theorem stable (hcd : ∀ q, 0 ≤ cd q ∧ cd q ≤ 255) (hn : n ≤ 1048576) (s : DS) (j : Nat) (M : Mem) (hat : s.1 ≤ 800000) (hb : M[j]? = some (srcB a n cp s)) (hS : SlAt M a n (tab n fun q => .int .u8 (cd q))) :
    Mut Try.prog 134 [.pointer (some ⟨j, 0, none⟩)] M (.agg (tab 64 fun q => .bool (tbV n cd s q)).toArray) (M.set j (srcB a n cp (tbE n cd s))) := by
  refine mut_of Try.func134 Try.ntmps134 rfl rfl (by rw [List.length_set]; exact Nat.le_refl _) (by repeat' (first | exact Flat.bool _ | exact Flat.int _ _ | exact Flat.float _ _ | exact Flat.string _ | exact flat_nil | exact flat_tabL (fun _ => Flat.bool _) | exact flat_tabL (fun _ => Flat.int _ _) | exact flat_tabL (fun _ => Flat.float _ _) | refine flat_tuple ?_ | refine flat_agg ?_ | refine flat_cons ?_ ?_ | refine flat_append ?_ ?_)) (src_closed hb) ?_
  have hjl := (List.getElem?_eq_some_iff.1 hb).1
  have h1 := fun M' ha hb => sone a n cp cd hcd hn s 2 (by omega) j M' (by omega) ha hb
  have hat1 := pkS_at n cd s 2
  have hM1 : ∀ T, SlAt (M.set j (srcB a n cp (pkS n cd s 2)) ++ T) a n (tab n fun q => .int .u8 (cd q)) := fun T => (src_same hb hS).append
  unfold tbV tbE
  by_cases h0 : pkV n cd s 2 = 0
  · rw [if_pos h0, if_pos h0]
    rw [decide_eq_true h0] at h1
    have hmv := fun M' ha hb => smoving a n cp cd hcd hn (pkS n cd s 2) j M' (by omega) ha hb
    have hcr := fun M' => sCrossTable (mvA (mvF n cd (pkS n cd (pkS n cd s 2) 9)) (mvC n cd (pkS n cd s 2))) (mvA (mvG n cd (pkS n cd (pkS n cd s 2) 9)) (mvC n cd (pkS n cd s 2))) (mvC n cd (pkS n cd s 2)) M'
    rw [mv_cross] at hcr
    generalize mvT (mvA (mvF n cd (pkS n cd (pkS n cd s 2) 9)) (mvC n cd (pkS n cd s 2))) (mvA (mvG n cd (pkS n cd (pkS n cd s 2) 9)) (mvC n cd (pkS n cd s 2))) (mvC n cd (pkS n cd s 2)).toNat = T at *
    simp only [envOf, Nat.zero_add, Nat.reduceAdd]
    repeat' (first | (refine d_AOs (h := ?_) ; first | refine o_move (h := ?_) | refine o_assign (h := ?_) | refine AOs.nil (h := ?_) | (refine d_bin (h := ?_) ; first | refine o_addS (h := ?_) | refine o_add (h := ?_) | refine o_lss (h := ?_) )  | refine o_callM (hc := (h1 _ (mem_head hb) hS.append)) (h := ?_) | refine o_callM (hc := (hmv _ (mem_set1 hjl) (hM1 _))) (h := ?_) | refine o_call (hc := (hcr _)) (h := ?_) | refine o_load (h := ?_) | refine o_at (h := ?_) | refine o_ixS (h := ?_) | refine o_store (h := ?_) | refine o_alloc (h := ?_) | refine o_ix (h := ?_) | refine o_extract (h := ?_) | refine o_build (h := ?_) ) | (refine d_AW (h := ?_) ; first | refine AW.seq (h := ?_) | refine AW.region (h := ?_) | (refine AW.cond (ht := (fun hc => ?_)) (hf := (fun hc => ?_)) <;> (try (with_reducible first | exact absurd hc Bool.false_ne_true | exact absurd hc.symm Bool.false_ne_true)) <;> (try simp only [decide_eq_true_eq, decide_eq_false_iff_not, Int.ofNat_inj, Bool.not_eq_true', Bool.not_eq_false', Int.not_lt, Int.not_le] at hc) <;> (try (exfalso; omega)) <;> (try (exact absurd hc (by decide)))) | refine AW.block (h := ?_) | refine AW.ret (h := ?_) | refine AW.skip (h := ?_) | refine AW.exit (h := ?_) ) | (first | refine t_normal ?_ | refine t_ret ?_ | refine t_exit ?_ | refine b_normal ?_ | refine b_exit ?_ | refine b_exit' (by decide) ?_ | refine b_ret ?_) | (refine d_post (h := ?_) ; first | refine p_ret1 rfl (h := ?_) | refine p_end1 rfl (h := ?_) | refine p_cell1 rfl (h := ?_) ))
    all_goals first | rfl | (simp at hc; done)
  · rw [if_neg h0, if_neg h0]
    rw [decide_eq_false h0] at h1
    generalize hs1 : pkS n cd s 2 = s1 at *
    have hone := fun s M' (hs : s.1 ≤ 1000000) ha hb => sone a n cp cd hcd hn s 3 (by omega) j M' hs ha hb
    have hSi : ∀ s T, SlAt (M.set j (srcB a n cp s) ++ T) a n (tab n fun q => .int .u8 (cd q)) := fun s T => (src_same hb hS).append
    simp only [envOf, Nat.zero_add, Nat.reduceAdd]
    repeat' (first | (refine d_AOs (h := ?_) ; first | refine o_move (h := ?_) | refine o_assign (h := ?_) | refine AOs.nil (h := ?_) | (refine d_bin (h := ?_) ; first | refine o_addS (h := ?_) | refine o_add (h := ?_) | refine o_lss (h := ?_) )  | refine o_callM (hc := (h1 _ (mem_head hb) hS.append)) (h := ?_) | refine o_load (h := ?_) | refine o_at (h := ?_) | refine o_ixS (h := ?_) | refine o_store (h := ?_) | refine o_alloc (h := ?_) | refine o_ix (h := ?_) | refine o_extract (h := ?_) | refine o_build (h := ?_) ) | (refine d_AW (h := ?_) ; first | refine AW.seq (h := ?_) | refine AW.region (h := ?_) | (refine AW.cond (ht := (fun hc => ?_)) (hf := (fun hc => ?_)) <;> (try (with_reducible first | exact absurd hc Bool.false_ne_true | exact absurd hc.symm Bool.false_ne_true)) <;> (try simp only [decide_eq_true_eq, decide_eq_false_iff_not, Int.ofNat_inj, Bool.not_eq_true', Bool.not_eq_false', Int.not_lt, Int.not_le] at hc) <;> (try (exfalso; omega)) <;> (try (exact absurd hc (by decide)))) | refine AW.block (h := ?_) | refine AW.ret (h := ?_) | refine AW.skip (h := ?_) | refine AW.exit (h := ?_) ) | (first | refine t_normal ?_ | refine t_ret ?_ | refine t_exit ?_ | refine b_normal ?_ | refine b_exit ?_ | refine b_exit' (by decide) ?_ | refine b_ret ?_) | (refine d_post (h := ?_) ; first | refine p_ret1 rfl (h := ?_) | refine p_end1 rfl (h := ?_) | refine p_cell1 rfl (h := ?_) ))
    all_goals try (exfalso; simp at hc; done)
    refine AW.loopN [0, 2, 8, 9] (fun k st => ∃ (i : Nat), i + k = 8 ∧ st = ⟨48, [(0, .pointer (some ⟨j, 0, none⟩)), (2, .pointer (some ⟨M.length, 0, none⟩)), (8, .pointer (some ⟨M.length + 1, 0, none⟩)), (9, .int .i64 (i : Int))], M.set j (srcB a n cp (tbOut n cd s1 i).2) ++ [⟨tab 64 fun _ => .bool false, none, true⟩, ⟨tab 64 fun q => .bool ((tbOut n cd s1 i).1 q), none, true⟩]⟩) 8 ⟨0, rfl, rfl⟩ ?_
    rintro k st ⟨i, hi, rfl⟩
    have hat2 := tbOut_at n cd s1 i (by omega)
    by_cases hin : i < 8
    · generalize hx : tbOut n cd s1 i = x at *
      repeat' (first | (refine d_AOs (h := ?_) ; first | refine o_move (h := ?_) | refine o_assign (h := ?_) | refine AOs.nil (h := ?_) | (refine d_bin (h := ?_) ; first | refine o_addS (h := ?_) | refine o_add (h := ?_) | refine o_lss (h := ?_) )  | refine o_load (h := ?_) | refine o_at (h := ?_) | refine o_ixS (h := ?_) | refine o_store (h := ?_) | refine o_alloc (h := ?_) | refine o_ix (h := ?_) | refine o_extract (h := ?_) | refine o_build (h := ?_) ) | (refine d_AW (h := ?_) ; first | refine AW.seq (h := ?_) | refine AW.region (h := ?_) | (refine AW.cond (ht := (fun hc => ?_)) (hf := (fun hc => ?_)) <;> (try (with_reducible first | exact absurd hc Bool.false_ne_true | exact absurd hc.symm Bool.false_ne_true)) <;> (try simp only [decide_eq_true_eq, decide_eq_false_iff_not, Int.ofNat_inj, Bool.not_eq_true', Bool.not_eq_false', Int.not_lt, Int.not_le] at hc) <;> (try (exfalso; omega)) <;> (try (exact absurd hc (by decide)))) | refine AW.block (h := ?_) | refine AW.ret (h := ?_) | refine AW.skip (h := ?_) | refine AW.exit (h := ?_) ) | (first | refine t_normal ?_ | refine t_ret ?_ | refine t_exit ?_ | refine b_normal ?_ | refine b_exit ?_ | refine b_exit' (by decide) ?_ | refine b_ret ?_) | (refine d_post (h := ?_) ; first | refine p_ret1 rfl (h := ?_) | refine p_end1 rfl (h := ?_) | refine p_cell1 rfl (h := ?_) ))
      refine AW.loopN [0, 2, 8, 9, 10] (fun k2 st => ∃ (q : Nat), q + k2 = i ∧ st = ⟨48, [(0, .pointer (some ⟨j, 0, none⟩)), (2, .pointer (some ⟨M.length, 0, none⟩)), (8, .pointer (some ⟨M.length + 1, 0, none⟩)), (9, .int .i64 (i : Int)), (10, .int .i64 (q : Int))], M.set j (srcB a n cp (tbIn n cd i x q).2) ++ [⟨tab 64 fun _ => .bool false, none, true⟩, ⟨tab 64 fun z => .bool ((tbIn n cd i x q).1 z), none, true⟩]⟩) i ⟨0, by omega, rfl⟩ ?_
      rintro k2 st ⟨q, hq, rfl⟩
      have hat3 := tbIn_at n cd (i := i) (x := x) q
      by_cases hqi : q < i
      · have h2 := fun M' ha hb => hone (tbIn n cd i x q).2 M' (by omega) ha hb
        by_cases hd : pkV n cd (tbIn n cd i x q).2 3 = 0
        · rw [decide_eq_true hd] at h2
          have e1 : tbIn n cd i x (q + 1) = (fun z => if z = q * 8 + i then true else if z = i * 8 + q then true else (tbIn n cd i x q).1 z, pkS n cd (tbIn n cd i x q).2 3) := by
            show tbStep n cd i (tbIn n cd i x q) q = _
            unfold tbStep
            simp only [decide_eq_true hd, if_true]
          repeat' (first | (refine d_AOs (h := ?_) ; first | refine o_move (h := ?_) | refine o_assign (h := ?_) | refine AOs.nil (h := ?_) | (refine d_bin (h := ?_) ; first | refine o_addS (h := ?_) | refine o_add (h := ?_) | refine o_lss (h := ?_) )  | refine o_callM (hc := (h2 _ (mem_set1 hjl) (hSi _ _))) (h := ?_) | refine o_load (h := ?_) | refine o_at (h := ?_) | refine o_ixS (h := ?_) | refine o_store (h := ?_) | refine o_alloc (h := ?_) | refine o_ix (h := ?_) | refine o_extract (h := ?_) | refine o_build (h := ?_) ) | (refine d_AW (h := ?_) ; first | refine AW.seq (h := ?_) | refine AW.region (h := ?_) | (refine AW.cond (ht := (fun hc => ?_)) (hf := (fun hc => ?_)) <;> (try (with_reducible first | exact absurd hc Bool.false_ne_true | exact absurd hc.symm Bool.false_ne_true)) <;> (try simp only [decide_eq_true_eq, decide_eq_false_iff_not, Int.ofNat_inj, Bool.not_eq_true', Bool.not_eq_false', Int.not_lt, Int.not_le] at hc) <;> (try (exfalso; omega)) <;> (try (exact absurd hc (by decide)))) | refine AW.block (h := ?_) | refine AW.ret (h := ?_) | refine AW.skip (h := ?_) | refine AW.exit (h := ?_) ) | (first | refine t_normal ?_ | refine t_ret ?_ | refine t_exit ?_ | refine b_normal ?_ | refine b_exit ?_ | refine b_exit' (by decide) ?_ | refine b_ret ?_) | (refine d_post (h := ?_) ; first | refine p_ret1 rfl (h := ?_) | refine p_end1 rfl (h := ?_) | refine p_cell1 rfl (h := ?_) ))
          all_goals first
            | (exfalso; simp at hc; done)
            | (refine ⟨k2 - 1, by omega, q + 1, by omega, ?_⟩
               rw [e1]
               have e2 : (tab 64 fun z => Value.bool (if z = q * 8 + i then true else if z = i * 8 + q then true else (tbIn n cd i x q).1 z)) = tab 64 fun z => if z = q * 8 + i then Value.bool true else (fun z => if z = i * 8 + q then Value.bool true else (fun z => Value.bool ((tbIn n cd i x q).1 z)) z) z := tab_congr fun z _ => by
                 by_cases h1 : z = q * 8 + i
                 · simp [h1]
                 · by_cases h2 : z = i * 8 + q
                   · simp [h2]
                   · simp [h1, h2]
               simp only
               rw [e2]; rfl)
        · rw [decide_eq_false hd] at h2
          have e1 : tbIn n cd i x (q + 1) = ((tbIn n cd i x q).1, pkS n cd (tbIn n cd i x q).2 3) := by
            show tbStep n cd i (tbIn n cd i x q) q = _
            unfold tbStep
            simp only [decide_eq_false hd, Bool.false_eq_true, if_false]
          repeat' (first | (refine d_AOs (h := ?_) ; first | refine o_move (h := ?_) | refine o_assign (h := ?_) | refine AOs.nil (h := ?_) | (refine d_bin (h := ?_) ; first | refine o_addS (h := ?_) | refine o_add (h := ?_) | refine o_lss (h := ?_) )  | refine o_callM (hc := (h2 _ (mem_set1 hjl) (hSi _ _))) (h := ?_) | refine o_load (h := ?_) | refine o_at (h := ?_) | refine o_ixS (h := ?_) | refine o_store (h := ?_) | refine o_alloc (h := ?_) | refine o_ix (h := ?_) | refine o_extract (h := ?_) | refine o_build (h := ?_) ) | (refine d_AW (h := ?_) ; first | refine AW.seq (h := ?_) | refine AW.region (h := ?_) | (refine AW.cond (ht := (fun hc => ?_)) (hf := (fun hc => ?_)) <;> (try (with_reducible first | exact absurd hc Bool.false_ne_true | exact absurd hc.symm Bool.false_ne_true)) <;> (try simp only [decide_eq_true_eq, decide_eq_false_iff_not, Int.ofNat_inj, Bool.not_eq_true', Bool.not_eq_false', Int.not_lt, Int.not_le] at hc) <;> (try (exfalso; omega)) <;> (try (exact absurd hc (by decide)))) | refine AW.block (h := ?_) | refine AW.ret (h := ?_) | refine AW.skip (h := ?_) | refine AW.exit (h := ?_) ) | (first | refine t_normal ?_ | refine t_ret ?_ | refine t_exit ?_ | refine b_normal ?_ | refine b_exit ?_ | refine b_exit' (by decide) ?_ | refine b_ret ?_) | (refine d_post (h := ?_) ; first | refine p_ret1 rfl (h := ?_) | refine p_end1 rfl (h := ?_) | refine p_cell1 rfl (h := ?_) ))
          all_goals first
            | (exfalso; simp at hc; done)
            | (refine ⟨k2 - 1, by omega, q + 1, by omega, ?_⟩
               rw [e1]; rfl)
      · obtain rfl : q = i := by omega
        have e1 : tbOut n cd s1 (q + 1) = tbIn n cd q x q := by rw [← hx]; rfl
        repeat' (first | (refine d_AOs (h := ?_) ; first | refine o_move (h := ?_) | refine o_assign (h := ?_) | refine AOs.nil (h := ?_) | (refine d_bin (h := ?_) ; first | refine o_addS (h := ?_) | refine o_add (h := ?_) | refine o_lss (h := ?_) )  | refine o_load (h := ?_) | refine o_at (h := ?_) | refine o_ixS (h := ?_) | refine o_store (h := ?_) | refine o_alloc (h := ?_) | refine o_ix (h := ?_) | refine o_extract (h := ?_) | refine o_build (h := ?_) ) | (refine d_AW (h := ?_) ; first | refine AW.seq (h := ?_) | refine AW.region (h := ?_) | (refine AW.cond (ht := (fun hc => ?_)) (hf := (fun hc => ?_)) <;> (try (with_reducible first | exact absurd hc Bool.false_ne_true | exact absurd hc.symm Bool.false_ne_true)) <;> (try simp only [decide_eq_true_eq, decide_eq_false_iff_not, Int.ofNat_inj, Bool.not_eq_true', Bool.not_eq_false', Int.not_lt, Int.not_le] at hc) <;> (try (exfalso; omega)) <;> (try (exact absurd hc (by decide)))) | refine AW.block (h := ?_) | refine AW.ret (h := ?_) | refine AW.skip (h := ?_) | refine AW.exit (h := ?_) ) | (first | refine t_normal ?_ | refine t_ret ?_ | refine t_exit ?_ | refine b_normal ?_ | refine b_exit ?_ | refine b_exit' (by decide) ?_ | refine b_ret ?_) | (refine d_post (h := ?_) ; first | refine p_ret1 rfl (h := ?_) | refine p_end1 rfl (h := ?_) | refine p_cell1 rfl (h := ?_) ))
        refine ⟨k - 1, by omega, q + 1, by omega, ?_⟩
        rw [e1]; rfl
    · obtain rfl : i = 8 := by omega
      repeat' (first | (refine d_AOs (h := ?_) ; first | refine o_move (h := ?_) | refine o_assign (h := ?_) | refine AOs.nil (h := ?_) | (refine d_bin (h := ?_) ; first | refine o_addS (h := ?_) | refine o_add (h := ?_) | refine o_lss (h := ?_) )  | refine o_load (h := ?_) | refine o_at (h := ?_) | refine o_ixS (h := ?_) | refine o_store (h := ?_) | refine o_alloc (h := ?_) | refine o_ix (h := ?_) | refine o_extract (h := ?_) | refine o_build (h := ?_) ) | (refine d_AW (h := ?_) ; first | refine AW.seq (h := ?_) | refine AW.region (h := ?_) | (refine AW.cond (ht := (fun hc => ?_)) (hf := (fun hc => ?_)) <;> (try (with_reducible first | exact absurd hc Bool.false_ne_true | exact absurd hc.symm Bool.false_ne_true)) <;> (try simp only [decide_eq_true_eq, decide_eq_false_iff_not, Int.ofNat_inj, Bool.not_eq_true', Bool.not_eq_false', Int.not_lt, Int.not_le] at hc) <;> (try (exfalso; omega)) <;> (try (exact absurd hc (by decide)))) | refine AW.block (h := ?_) | refine AW.ret (h := ?_) | refine AW.skip (h := ?_) | refine AW.exit (h := ?_) ) | (first | refine t_normal ?_ | refine t_ret ?_ | refine t_exit ?_ | refine b_normal ?_ | refine b_exit ?_ | refine b_exit' (by decide) ?_ | refine b_ret ?_) | (refine d_post (h := ?_) ; first | refine p_ret1 rfl (h := ?_) | refine p_end1 rfl (h := ?_) | refine p_cell1 rfl (h := ?_) ))
      all_goals rfl
theorem sP6Table (hcd : ∀ q, 0 ≤ cd q ∧ cd q ≤ 255) (hn : n ≤ 1048576) (M : Mem) (hS : SlAt M a n (tab n fun q => .int .u8 (cd q))) :
    Pure Try.prog 68 [.slice a n cp] M (.agg (tab 64 fun i => .bool (tbV n cd (0, 0) i)).toArray) := by
  refine pure_of Try.func68 Try.ntmps68 rfl rfl (by repeat' (first | exact Flat.bool _ | exact Flat.int _ _ | exact Flat.float _ _ | exact Flat.string _ | exact flat_nil | exact flat_tabL (fun _ => Flat.bool _) | exact flat_tabL (fun _ => Flat.int _ _) | exact flat_tabL (fun _ => Flat.float _ _) | refine flat_tuple ?_ | refine flat_agg ?_ | refine flat_cons ?_ ?_ | refine flat_append ?_ ?_)) ?_
  have hp := fun j M' h1 h2 => stable a n cp cd hcd hn (0, 0) j M' (by simp) h1 h2
  simp only [envOf, Nat.zero_add, Nat.reduceAdd]
  repeat' (first | (refine d_AOs (h := ?_) ; first | refine o_move (h := ?_) | refine o_assign (h := ?_) | refine AOs.nil (h := ?_)  | refine o_callA (hc := (sfrom a n cp _)) (h := ?_) | refine o_callM (hc := (hp _ _ (by first | (simp only [mem_tail, mem_tail0, List.getElem?_cons_zero, List.getElem?_cons_succ]; first | done | rfl) | exact mem_head (by assumption) | assumption | (simp only [mem_tailS, mem_tailS0, List.getElem?_cons_zero, List.getElem?_cons_succ]; first | done | rfl) | exact mem_set1 (by assumption) | exact mem_set0 (by assumption) | exact mem_setN1 (by assumption) (by assumption) | exact mem_setN (by assumption) (by assumption)) (by first | exact hS | exact hS.append))) (h := ?_) | refine o_at (h := ?_) | refine o_store (h := ?_) | refine o_alloc (h := ?_) ) | (refine d_AW (h := ?_) ; first | refine AW.seq (h := ?_) | refine AW.region (h := ?_) | (refine AW.cond (ht := (fun hc => ?_)) (hf := (fun hc => ?_)) <;> (try (with_reducible first | exact absurd hc Bool.false_ne_true | exact absurd hc.symm Bool.false_ne_true)) <;> (try simp only [decide_eq_true_eq, decide_eq_false_iff_not, Int.ofNat_inj, Bool.not_eq_true', Bool.not_eq_false', Int.not_lt, Int.not_le] at hc) <;> (try (exfalso; omega)) <;> (try (exact absurd hc (by decide)))) | refine AW.block (h := ?_) | refine AW.ret (h := ?_) | refine AW.skip (h := ?_) | refine AW.exit (h := ?_) ) | (first | refine t_normal ?_ | refine t_ret ?_ | refine t_exit ?_ | refine b_normal ?_ | refine b_exit ?_ | refine b_exit' (by decide) ?_ | refine b_ret ?_) | (refine d_post (h := ?_) ; first | refine p_ret1 rfl (h := ?_) | refine p_end1 rfl (h := ?_) | refine p_cell1 rfl (h := ?_) ))
  all_goals rfl
end
end Go.Proofs.Ytehmdidkhbmkmaa
