/- A filling: rates, the program's. -/
import Derived.Test.YtjghdagcmombnaaHd
import Derived.Test.YtjghdagcmombnaaJn

namespace Go.Proofs.Ytjghdagcmombnaa
open Go.RowKit
attribute [local irreducible] AW AOs AO AQ AQW thenA inBlockA postA ACalls Pure
set_option linter.unusedSimpArgs false
set_option linter.unusedVariables false
set_option linter.unusedSectionVars false

theorem closedL {M : Mem} (hM : Closed M.length M) {bs : List Blk} (hb : ∀ b ∈ bs, ∀ x ∈ b.cells, Flat x) : Closed (M ++ bs).length (M ++ bs) :=
  Closed.append (hM.mono (by simp)) fun x hx y hy => Bel.flat (hb x hx y hy)
section
variable {P : Program} {ops l : List Oper} {K : St → Prop} {n : Nat} {t : Env} {m : Mem} {d ty : Nat} {pos : String} {af : Array Edge}
/-- x[len:] of a marked slice: empty. -/
theorem o_slEnd3 {st k b e : Nat} [ha : SlT P st k b e] {x lo : Operand} {j o ln cp : Nat} {tg : Option Nat} {ik : IntKind} {q : Nat} (hx : evalA t x = .slice (some ⟨j, o, tg⟩) ln cp := by (conv => (lhs; whnf)); first | done | rfl) (hh : evalA t lo = .int ik (q : Int) := by (conv => (lhs; whnf)); first | done | rfl)
    (hq : q = ln := by omega) (hcp : ln ≤ cp := by omega) (hd : Nat.blt d n = true := by rfl)
    (h1 : AOs P ops l K ⟨n, (d, .slice none 0 2) :: t, m⟩) : AOs P ops (⟨some d, .slice st x (some lo) none none, ty, pos, af, none⟩ :: l) K ⟨n, t, m⟩ := by
  subst hq
  exact AOs.val (v := .slice none 0 2) rfl hd (fun B0 w0 r a w hs => by
    have hx1 := hs.eval x
    have hh1 := hs.eval lo
    rw [hx] at hx1
    rw [hh] at hh1
    obtain ⟨c, z, m', he, hr, hc⟩ := hx1.slice_inv
    have hh2 := hh1.int_inv
    obtain ⟨hu, inf, hinf, hsz, _⟩ := sl_facts (P := P) (st := st)
    have hm' : cp ≤ m' := by rcases hc with ⟨_, h⟩ | ⟨_, h, _⟩ <;> omega
    by_cases hmq : m' = q
    · refine ⟨.slice (some ⟨c, zo tg z + o, none⟩) 0 0, ?_, .base ⟨rfl, .inr (.inr ⟨rfl, _, _, rfl⟩)⟩⟩
      subst hmq
      simp [execOp, he, hh2, Instr.sliceAt, Instr.slice, Instr.sliceBounds, Instr.sliceBound, asIntOf, run_underlying hu, sizeOf, typeInfo, hinf, hsz]
    · refine ⟨.slice (some ⟨c, zo tg z + (o + q * k), none⟩) 0 (m' - q), ?_, .base ⟨rfl, .inr (.inr ⟨rfl, _, _, rfl⟩)⟩⟩
      have h3 : zo tg z + (o + q * k) = zo tg z + o + q * k := by omega
      have h2 : m' ≠ q := hmq
      simp [execOp, he, hh2, Instr.sliceAt, Instr.slice, Instr.sliceBounds, Instr.sliceBound, asIntOf, run_underlying hu, h2, sizeOf, typeInfo, hinf, hsz, addr_add, h3]) h1
end
theorem isumOfH (g : Nat → Nat) (m : Nat) (hm : 1 ≤ m ∧ m ≤ 4) (j : Nat) (M : Mem) (hb : M[j]? = some ⟨tab m fun q => .float .f32 (g q), some m, true⟩) : Pure Try.prog 27 [.slice (some ⟨j, 0, some m⟩) m m] M (.float .f32 (jSum g (m - 1))) := by
  refine pure_of Try.func27 Try.ntmps27 rfl rfl (by repeat' (first | exact Flat.float _ _ | fail)) ?_
  have hld0 : ldA .one 0 (tab m fun q => Value.float .f32 (g q)) = some (.float .f32 (g 0)) := ld_tab (by omega) rfl
  by_cases h1 : m = 1
  · subst h1
    simp only [envOf, Nat.zero_add, Nat.reduceAdd]
    repeat' (first | (refine d_AOs (h := ?_) ; first | refine o_move (h := ?_) | refine o_assign (h := ?_) | refine AOs.nil (h := ?_) | refine o_slEnd3 (q := 1) (h1 := ?_) | refine o_load (hv := hld0) (h := ?_) | refine o_len (h := ?_) | refine o_ixS (h := ?_)) | (refine d_AW (h := ?_) ; first | refine AW.seq (h := ?_) | refine AW.region (h := ?_) | refine AW.block (h := ?_)) | (first | refine t_normal ?_) | fail)
    refine AW.loopN [3, 11, 12] (fun k s => s = ⟨21, [(3, .float .f32 (g 0)), (11, .int .i64 0), (12, .int .i64 0)], M⟩) 0 (by rfl) ?_
    rintro k s rfl
    repeat' (first | (refine d_AOs (h := ?_) ; first | refine o_move (h := ?_) | refine o_assign (h := ?_) | refine AOs.nil (h := ?_) | (refine d_bin (h := ?_) ; first | refine o_lss (h := ?_))) | (refine d_AW (h := ?_) ; first | refine AW.seq (h := ?_) | refine AW.region (h := ?_) | (refine AW.cond (ht := (fun hc => ?_)) (hf := (fun hc => ?_)) <;> (try (with_reducible first | exact absurd hc Bool.false_ne_true | exact absurd hc.symm Bool.false_ne_true)) <;> (try simp only [decide_eq_true_eq, decide_eq_false_iff_not, Int.ofNat_inj, Bool.not_eq_true', Bool.not_eq_false', Int.not_lt, Int.not_le] at hc) <;> (try (exfalso; omega)) <;> (try (exact absurd hc (by decide)))) | refine AW.ret (h := ?_) | refine AW.exit (h := ?_)) | (first | refine t_normal ?_ | refine t_exit ?_ | refine b_exit ?_) | (refine d_post (h := ?_) ; first | refine p_ret1 rfl (h := ?_)) | fail)
    all_goals first | rfl | (exfalso; omega)
  · simp only [envOf, Nat.zero_add, Nat.reduceAdd]
    repeat' (first | (refine d_AOs (h := ?_) ; first | refine o_move (h := ?_) | refine o_assign (h := ?_) | refine AOs.nil (h := ?_) | refine o_slLo (q := 1) (ln' := m - 1) (cp' := m - 1) (hln := by omega) (hcp' := by omega) (h := ?_) | refine o_load (hv := hld0) (h := ?_) | refine o_len (h := ?_) | refine o_ixS (h := ?_)) | (refine d_AW (h := ?_) ; first | refine AW.seq (h := ?_) | refine AW.region (h := ?_) | refine AW.block (h := ?_)) | (first | refine t_normal ?_) | fail)
    refine AW.loopN [3, 10, 11, 12] (fun k s => ∃ (i : Nat), i + k = m - 1 ∧ s = ⟨21, [(3, .float .f32 (jSum g i)), (10, .slice (some ⟨j, 1, some m⟩) (m - 1) (m - 1)), (11, .int .i64 ((m - 1 : Nat) : Int)), (12, .int .i64 (i : Int))], M⟩) (m - 1) ⟨0, by omega, rfl⟩ ?_
    rintro k s ⟨i, hi, rfl⟩
    by_cases hin : i < m - 1
    · have e : fadd .f32 (jSum g i) (g (1 + i)) = jSum g (i + 1) := by rw [Nat.add_comm 1 i]; rfl
      have hld : ldA .one (1 + i) (tab m fun q => Value.float .f32 (g q)) = some (.float .f32 (g (1 + i))) := ld_tab (by omega) rfl
      repeat' (first | (refine d_AOs (h := ?_) ; first | refine o_move (h := ?_) | refine o_assign (h := ?_) | refine AOs.nil (h := ?_) | (refine d_bin (h := ?_) ; first | refine o_addS (h := ?_) | refine o_lss (h := ?_) | refine o_fadd (h := ?_)) | refine o_load (hv := hld) (h := ?_) | refine o_ixS (h := ?_)) | (refine d_AW (h := ?_) ; first | refine AW.seq (h := ?_) | refine AW.region (h := ?_) | (refine AW.cond (ht := (fun hc => ?_)) (hf := (fun hc => ?_)) <;> (try (with_reducible first | exact absurd hc Bool.false_ne_true | exact absurd hc.symm Bool.false_ne_true)) <;> (try simp only [decide_eq_true_eq, decide_eq_false_iff_not, Int.ofNat_inj, Bool.not_eq_true', Bool.not_eq_false', Int.not_lt, Int.not_le] at hc) <;> (try (exfalso; omega)) <;> (try (exact absurd hc (by decide)))) | refine AW.block (h := ?_) | refine AW.skip (h := ?_)) | (first | refine t_normal ?_ | refine b_normal ?_) | fail)
      all_goals first | exact ⟨k - 1, by omega, i + 1, by omega, by rw [← e]; rfl⟩ | (exfalso; omega)
    · obtain rfl : i = m - 1 := by omega
      repeat' (first | (refine d_AOs (h := ?_) ; first | refine o_move (h := ?_) | refine o_assign (h := ?_) | refine AOs.nil (h := ?_) | (refine d_bin (h := ?_) ; first | refine o_lss (h := ?_))) | (refine d_AW (h := ?_) ; first | refine AW.seq (h := ?_) | refine AW.region (h := ?_) | (refine AW.cond (ht := (fun hc => ?_)) (hf := (fun hc => ?_)) <;> (try (with_reducible first | exact absurd hc Bool.false_ne_true | exact absurd hc.symm Bool.false_ne_true)) <;> (try simp only [decide_eq_true_eq, decide_eq_false_iff_not, Int.ofNat_inj, Bool.not_eq_true', Bool.not_eq_false', Int.not_lt, Int.not_le] at hc) <;> (try (exfalso; omega)) <;> (try (exact absurd hc (by decide)))) | refine AW.ret (h := ?_) | refine AW.exit (h := ?_)) | (first | refine t_normal ?_ | refine t_exit ?_ | refine b_exit ?_) | (refine d_post (h := ?_) ; first | refine p_ret1 rfl (h := ?_)) | fail)
      all_goals first | rfl | (exfalso; omega)
section
variable (n o : Int) (h s t : Nat → Nat)
/-- What the ways that go bring to an out, one by one. -/
def rlL (S : FSt) (k : Nat) : Nat → List Nat
  | 0 => []
  | i + 1 => if S.g i then rlL S k i ++ [fmul .f32 (h (18 + i)) (jA h i k)] else rlL S k i
def rtI (S : FSt) (k : Nat) : Nat := jSum (fun q => (rlL h S k 4).getD q 0) ((rlL h S k 4).length - 1)
abbrev rlB (l : List Nat) : Blk := ⟨tab l.length fun q => .float .f32 (l.getD q 0), some l.length, true⟩
theorem rlL_len {S : FSt} {k : Nat} : ∀ i, (rlL h S k i).length ≤ i
  | 0 => Nat.le_refl _
  | i + 1 => by
    have := rlL_len (S := S) (k := k) i
    show (if _ then _ else _ : List Nat).length ≤ _
    split
    · rw [List.length_append]; exact Nat.add_le_add this (Nat.le_refl _)
    · omega
theorem rlL_pos {S : FSt} {k i : Nat} (hg : S.g i = true) : ∀ m, i < m → 1 ≤ (rlL h S k m).length
  | 0, hm => by omega
  | m + 1, hm => by
    show 1 ≤ (if _ then _ else _ : List Nat).length
    split
    · rw [List.length_append]; simp
    · rename_i hn
      by_cases e : i = m
      · subst e; exact absurd hg hn
      · exact rlL_pos hg m (by omega)
theorem rlB_flat {l : List Nat} : ∀ x ∈ (rlB l).cells, Flat x := fun x hx => by
  obtain ⟨q, _, rfl⟩ := List.mem_map.1 hx
  exact Flat.float _ _
theorem tabF_flat {N : Nat} {f : Nat → Nat} : ∀ x ∈ tab N (fun q => Value.float .f32 (f q)), Flat x := fun x hx => by
  obtain ⟨q, _, rfl⟩ := List.mem_map.1 hx
  exact Flat.float _ _
set_option maxHeartbeats 16000000 in
theorem irates (S : FSt) (hg : ∃ i, i < 4 ∧ S.g i = true) (j : Nat) (M : Mem) (hb : M[j]? = some (fiB n o h s t S)) :
    Pure Try.prog 61 [.pointer (some ⟨j, 0, none⟩)] M (foV (rtI h S)) := by
  refine Pure.closed fun hM => ?_
  refine pure_of Try.func61 Try.ntmps61 rfl rfl (by repeat' (first | exact flat_tabL (fun _ => Flat.float _ _) | refine flat_agg ?_ | fail)) ?_
  have hjl := (List.getElem?_eq_some_iff.1 hb).1
  obtain ⟨J, hJ⟩ : ∃ J, J = tab 46 (fiV n o h s t S) := ⟨_, rfl⟩
  have hb : M[j]? = some ⟨J, none, true⟩ := by rw [hJ]; exact hb
  have lG : ldA (.agg 4) 38 J = some (.agg (tab 4 fun q => .bool (S.g q)).toArray) := by rw [hJ]; exact fld_G rfl
  have lA : ∀ i k, i < 4 → k < 4 → ldA .one (2 + i * 4 + k) J = some (.float .f32 (jA h i k)) := fun i k hi hk => by rw [hJ]; exact fi_jA hi hk
  have lP : ∀ i, i < 4 → ldA .one (18 + i) J = some (.float .f32 (h (18 + i))) := fun i hi => by rw [hJ]; exact fi_pr hi
  have z0 : (tab 4 fun q => Value.float .f32 (if q < 0 then rtI h S q else 0)) = tab 4 fun _ => .float .f32 0 := tab_congr fun q _ => by rw [if_neg (by omega)]
  clear hJ
  simp only [envOf, Nat.zero_add, Nat.reduceAdd]
  repeat' (first | (refine d_AOs (h := ?_) ; first | refine o_move (h := ?_) | refine AOs.nil (h := ?_) | refine o_build (cs := tab 4 fun _ => .float .f32 0) (hf := by rfl) (h := ?_) | refine o_store (h := ?_) | refine o_alloc (h := ?_)) | (refine d_AW (h := ?_) ; first | refine AW.seq (h := ?_) | refine AW.region (h := ?_) | refine AW.block (h := ?_)) | (first | refine t_normal ?_) | fail)
  refine AW.loopG [0, 2, 3, 9] (fun kk st => ∃ k : Nat, k + kk = 4 ∧ st = ⟨49, [(0, .pointer (some ⟨j, 0, none⟩)), (2, .pointer (some ⟨M.length, 0, none⟩)), (3, .pointer (some ⟨M.length + 1, 0, none⟩)), (9, .int .i64 (k : Int))], M ++ [⟨tab 4 fun _ => .float .f32 0, none, true⟩, ⟨tab 4 fun q => .float .f32 (if q < k then rtI h S q else 0), none, true⟩]⟩) 4 ⟨0, by omega, by rw [z0]; rfl⟩ ?_
  clear z0
  rintro kk st ⟨k, hk, rfl⟩
  by_cases hk4 : k < 4
  · repeat' (first | (refine d_AOs (h := ?_) ; first | refine o_move (h := ?_) | refine o_assign (h := ?_) | refine AOs.nil (h := ?_) | (refine d_bin (h := ?_) ; first | refine o_lss (h := ?_)) | refine o_load (hv := lG) (h := ?_) | refine o_field (h := ?_) | refine o_nil (h := ?_) | refine o_buildS0 (h := ?_)) | (refine d_AW (h := ?_) ; first | refine AW.seq (h := ?_) | refine AW.region (h := ?_) | (refine AW.cond (ht := (fun hc => ?_)) (hf := (fun hc => ?_)) <;> (try (with_reducible first | exact absurd hc Bool.false_ne_true | exact absurd hc.symm Bool.false_ne_true)) <;> (try simp only [decide_eq_true_eq, decide_eq_false_iff_not, Int.ofNat_inj, Bool.not_eq_true', Bool.not_eq_false', Int.not_lt, Int.not_le] at hc) <;> (try (exfalso; omega)) <;> (try (exact absurd hc (by decide)))) | refine AW.block (h := ?_) | refine AW.skip (h := ?_)) | (first | refine t_normal ?_) | fail)
    refine AW.loopG [0, 2, 3, 4, 5, 9, 16, 17] (fun k2 st => ∃ i : Nat, i + k2 = 4 ∧ st = ⟨49, [(0, .pointer (some ⟨j, 0, none⟩)), (2, .pointer (some ⟨M.length, 0, none⟩)), (3, .pointer (some ⟨M.length + 1, 0, none⟩)), (4, .int .i64 (k : Int)), (5, .slice (some ⟨M.length + 2, 0, some (rlL h S k i).length⟩) (rlL h S k i).length (rlL h S k i).length), (9, .int .i64 (k : Int)), (16, .agg (tab 4 fun q => .bool (S.g q)).toArray), (17, .int .i64 (i : Int))], M ++ [⟨tab 4 fun _ => .float .f32 0, none, true⟩, ⟨tab 4 fun q => .float .f32 (if q < k then rtI h S q else 0), none, true⟩, rlB (rlL h S k i)]⟩) 4 ⟨0, by omega, rfl⟩ ?_
    rintro k2 st ⟨i, hi, rfl⟩
    by_cases hi4 : i < 4
    · have hlA := lA i k hi4 hk4
      have hlP := lP i hi4
      have hll := rlL_len h (S := S) (k := k) i
      cases hC : S.g i
      · have e1 : rlL h S k (i + 1) = rlL h S k i := by show (if _ then _ else _) = _; rw [hC]; rfl
        repeat' (first | (refine d_AOs (h := ?_) ; first | refine o_move (h := ?_) | refine o_assign (h := ?_) | refine AOs.nil (h := ?_) | (refine d_bin (h := ?_) ; first | refine o_addS (h := ?_) | refine o_lss (h := ?_)) | refine o_ix (h := ?_)) | (refine d_AW (h := ?_) ; first | refine AW.seq (h := ?_) | refine AW.region (h := ?_) | refine AW.open_ (h := ?_) | (refine AW.cond (ht := (fun hc => ?_)) (hf := (fun hc => ?_)) <;> (try (with_reducible first | exact absurd hc Bool.false_ne_true | exact absurd hc.symm Bool.false_ne_true)) <;> (try simp only [decide_eq_true_eq, decide_eq_false_iff_not, Int.ofNat_inj, Bool.not_eq_true', Bool.not_eq_false', Int.not_lt, Int.not_le] at hc) <;> (try (exfalso; omega)) <;> (try (exact absurd hc (by decide)))) | refine AW.block (h := ?_) | refine AW.skip (h := ?_)) | (first | refine t_normal ?_ | refine b_normal ?_) | (refine d_AQ (h := ?_) ; first | refine q_step (h2 := ?_)) | fail)
        all_goals first | exact ⟨k2 - 1, M ++ [⟨tab 4 fun _ => .float .f32 0, none, true⟩, ⟨tab 4 fun q => .float .f32 (if q < k then rtI h S q else 0), none, true⟩, rlB (rlL h S k i)], [], by omega, (List.append_nil _).symm, by simp, closedL hM (by intro b hb2; simp only [List.mem_cons, List.not_mem_nil, or_false] at hb2; rcases hb2 with rfl | rfl | rfl <;> first | exact tabF_flat | exact rlB_flat), ⟨Bel.ptr (by simp; omega), Bel.ptr (by simp), Bel.ptr (by simp), Bel.flat (Flat.int _ _), Bel.sl (by simp), Bel.flat (Flat.int _ _), Bel.flat (by repeat' (first | exact flat_tabL (fun _ => Flat.bool _) | refine flat_agg ?_ | fail)), Bel.flat (Flat.int _ _), trivial⟩, i + 1, by omega, by rw [e1]; rfl⟩ | (exfalso; simp_all; done) | (exfalso; omega)
      · have e1 : rlL h S k (i + 1) = rlL h S k i ++ [fmul .f32 (h (18 + i)) (jA h i k)] := by show (if _ then _ else _) = _; rw [hC]; rfl
        have hsn := tabL_snoc (fun x => Value.float .f32 x) 0 (rlL h S k i) (fmul .f32 (h (18 + i)) (jA h i k))
        rw [← e1] at hsn
        have hln : (rlL h S k (i + 1)).length = (rlL h S k i).length + 1 := by rw [e1]; simp
        rw [hln] at hsn
        have e2 : rlB (rlL h S k (i + 1)) = ⟨(tab (rlL h S k i).length fun q => Value.float .f32 ((rlL h S k i).getD q 0)) ++ [.float .f32 (fmul .f32 (h (18 + i)) (jA h i k))], some ((rlL h S k i).length + 1), true⟩ := by
          unfold rlB; rw [hln, hsn]
        clear e1 hsn lA lP lG
        generalize hL1 : rlL h S k (i + 1) = L1 at *
        generalize rlL h S k i = L at *
        generalize jA h i k = u at *
        generalize h (18 + i) = w at *
        repeat' (first | (refine d_AOs (h := ?_) ; first | refine o_move (h := ?_) | refine o_assign (h := ?_) | refine AOs.nil (h := ?_) | (refine d_bin (h := ?_) ; first | refine o_addS (h := ?_) | refine o_lss (h := ?_)) | refine o_ix (h := ?_)) | (refine d_AW (h := ?_) ; first | refine AW.seq (h := ?_) | refine AW.region (h := ?_) | refine AW.openW2M (M ++ [⟨tab 4 fun _ => .float .f32 0, none, true⟩, ⟨tab 4 fun q => .float .f32 (if q < k then rtI h S q else 0), none, true⟩, rlB L]) 18 19 (M ++ [⟨tab 4 fun _ => .float .f32 0, none, true⟩, ⟨tab 4 fun q => .float .f32 (if q < k then rtI h S q else 0), none, true⟩, rlB L, ⟨[.float .f32 (fmul .f32 w u)], none, true⟩]) (M ++ [⟨tab 4 fun _ => .float .f32 0, none, true⟩, ⟨tab 4 fun q => .float .f32 (if q < k then rtI h S q else 0), none, true⟩, rlB L]) (M ++ [⟨tab 4 fun _ => .float .f32 0, none, true⟩, ⟨tab 4 fun q => .float .f32 (if q < k then rtI h S q else 0), none, true⟩, ⟨(tab L.length fun q => Value.float .f32 (L.getD q 0)) ++ [.float .f32 (fmul .f32 w u)], some (L.length + 1), true⟩, ⟨[.float .f32 (fmul .f32 w u)], none, true⟩]) (h := ?_) | (refine AW.cond (ht := (fun hc => ?_)) (hf := (fun hc => ?_)) <;> (try (with_reducible first | exact absurd hc Bool.false_ne_true | exact absurd hc.symm Bool.false_ne_true)) <;> (try simp only [decide_eq_true_eq, decide_eq_false_iff_not, Int.ofNat_inj, Bool.not_eq_true', Bool.not_eq_false', Int.not_lt, Int.not_le] at hc) <;> (try (exfalso; omega)) <;> (try (exact absurd hc (by decide)))) | refine AW.block (h := ?_) | refine AW.skip (h := ?_)) | (first | refine t_normal ?_ | refine b_normal ?_) | (refine d_W (h := ?_) ; first | refine w2_nil (h := ?_) | refine w2_step (h2 := ?_) | refine w2_step (h1 := by (simp only [ObK, aft, cond_true, cond_false]; repeat' (first | refine And.intro ?_ ?_ | ((refine d_AOs ?_; first | refine o_load (hv := hlA) (h := ?_) | refine o_load (hv := hlP) (h := ?_) | refine o_buildS (cs := [.float .f32 (fmul .f32 w u)]) (hf := by rfl) (h := ?_) | refine o_app (hlc := by rw [tab_len]; omega) (h := ?_)) <;> exact AOs.nil rfl)))) (h2 := ?_)) | fail)
        all_goals first | exact ⟨k2 - 1, M ++ [⟨tab 4 fun _ => .float .f32 0, none, true⟩, ⟨tab 4 fun q => .float .f32 (if q < k then rtI h S q else 0), none, true⟩, rlB L1], [⟨[.float .f32 (fmul .f32 w u)], none, true⟩], by omega, next_TT (T := [⟨tab 4 fun _ => .float .f32 0, none, true⟩, ⟨tab 4 fun q => .float .f32 (if q < k then rtI h S q else 0), none, true⟩, rlB L1]) (G := [⟨[.float .f32 (fmul .f32 w u)], none, true⟩]) (by rw [e2]; rfl), by simp, closedL hM (by intro b hb2; simp only [List.mem_cons, List.not_mem_nil, or_false] at hb2; rcases hb2 with rfl | rfl | rfl <;> first | exact tabF_flat | exact rlB_flat), ⟨Bel.ptr (by simp; omega), Bel.ptr (by simp), Bel.ptr (by simp), Bel.flat (Flat.int _ _), Bel.sl (by simp), Bel.flat (Flat.int _ _), Bel.flat (by repeat' (first | exact flat_tabL (fun _ => Flat.bool _) | refine flat_agg ?_ | fail)), Bel.flat (Flat.int _ _), trivial⟩, i + 1, by omega, by rw [hL1, hln]; rfl⟩ | (exfalso; simp_all; done) | (exfalso; omega)
    · obtain rfl : i = 4 := by omega
      obtain ⟨q0, hq0, hq1⟩ := hg
      have hpos := rlL_pos h (k := k) hq1 4 hq0
      have hll := rlL_len h (S := S) (k := k) 4
      have hsum := fun M' jj hb' => isumOfH (fun q => (rlL h S k 4).getD q 0) (rlL h S k 4).length (by omega) jj M' hb'
      have er : jSum (fun q => (rlL h S k 4).getD q 0) ((rlL h S k 4).length - 1) = rtI h S k := rfl
      rw [er] at hsum
      have est := step_tab (N := 4) (i := k) (f := rtI h S) (v := rtI h S k) rfl
      clear lA lP lG er
      generalize hv : rtI h S k = v at *
      generalize rlL h S k 4 = L at *
      repeat' (first | (refine d_AOs (h := ?_) ; first | refine o_move (h := ?_) | refine AOs.nil (h := ?_) | (refine d_bin (h := ?_) ; first | refine o_addS (h := ?_) | refine o_lss (h := ?_)) | refine o_call (hc := (hsum _ _ (by first | (simp only [mem_tail, mem_tail0, List.getElem?_cons_zero, List.getElem?_cons_succ]; first | done | rfl) | exact mem_head (by assumption) | assumption | (simp only [mem_tailS, mem_tailS0, List.getElem?_cons_zero, List.getElem?_cons_succ]; first | done | rfl) | exact mem_set1 (by assumption) | exact mem_set0 (by assumption) | exact mem_setN1 (by assumption) (by assumption) | exact mem_setN (by assumption) (by assumption)))) (h := ?_) | refine o_at (h := ?_) | refine o_store (h := ?_)) | (refine d_AW (h := ?_) ; first | refine AW.seq (h := ?_) | refine AW.region (h := ?_) | (refine AW.cond (ht := (fun hc => ?_)) (hf := (fun hc => ?_)) <;> (try (with_reducible first | exact absurd hc Bool.false_ne_true | exact absurd hc.symm Bool.false_ne_true)) <;> (try simp only [decide_eq_true_eq, decide_eq_false_iff_not, Int.ofNat_inj, Bool.not_eq_true', Bool.not_eq_false', Int.not_lt, Int.not_le] at hc) <;> (try (exfalso; omega)) <;> (try (exact absurd hc (by decide)))) | refine AW.exit (h := ?_)) | (first | refine t_normal ?_ | refine t_exit ?_ | refine b_normal ?_ | refine b_exit ?_) | fail)
      all_goals first | exact ⟨kk - 1, M ++ [⟨tab 4 fun _ => .float .f32 0, none, true⟩, ⟨tab 4 fun q => .float .f32 (if q < k + 1 then rtI h S q else 0), none, true⟩], [rlB L], by omega, next_TT (T := [⟨tab 4 fun _ => .float .f32 0, none, true⟩, ⟨tab 4 fun q => .float .f32 (if q < k + 1 then rtI h S q else 0), none, true⟩]) (G := [rlB L]) (by rw [← est]; rfl), by simp, closedL hM (by intro b hb2; simp only [List.mem_cons, List.not_mem_nil, or_false] at hb2; rcases hb2 with rfl | rfl <;> exact tabF_flat), ⟨Bel.ptr (by simp; omega), Bel.ptr (by simp), Bel.ptr (by simp), Bel.flat (Flat.int _ _), trivial⟩, k + 1, by omega, rfl⟩ | (exfalso; simp_all; done) | (exfalso; omega)
  · obtain rfl : k = 4 := by omega
    rw [full_tab]
    clear lA lP lG hg
    repeat' (first | (refine d_AOs (h := ?_) ; first | refine AOs.nil (h := ?_) | (refine d_bin (h := ?_) ; first | refine o_lss (h := ?_)) | refine o_load (h := ?_) | refine o_store (h := ?_)) | (refine d_AW (h := ?_) ; first | refine AW.seq (h := ?_) | refine AW.region (h := ?_) | (refine AW.cond (ht := (fun hc => ?_)) (hf := (fun hc => ?_)) <;> (try (with_reducible first | exact absurd hc Bool.false_ne_true | exact absurd hc.symm Bool.false_ne_true)) <;> (try simp only [decide_eq_true_eq, decide_eq_false_iff_not, Int.ofNat_inj, Bool.not_eq_true', Bool.not_eq_false', Int.not_lt, Int.not_le] at hc) <;> (try (exfalso; omega)) <;> (try (exact absurd hc (by decide)))) | refine AW.ret (h := ?_) | refine AW.exit (h := ?_)) | (first | refine t_normal ?_ | refine t_exit ?_ | refine b_exit ?_) | (refine d_post (h := ?_) ; first | refine p_cell1 rfl (h := ?_)) | fail)
    all_goals first | rfl | (exfalso; omega)
end
end Go.Proofs.Ytjghdagcmombnaa

/- A filling: a round's words. No program in sight. -/
namespace Go.Proofs.Ytjghdagcmombnaa
open Go.RowKit
attribute [local irreducible] AW AOs AO AQ AQW thenA inBlockA postA ACalls Pure
set_option linter.unusedSimpArgs false
set_option linter.unusedVariables false
set_option linter.unusedSectionVars false

section
variable (h s t : Nat → Nat)
/-- How long a way's cars last. -/
def inI (S : FSt) (i : Nat) : Nat := fdiv .f32 (fsub .f32 (s i) (S.f i)) (h (18 + i))
def insF (S : FSt) (i : Nat) : Nat := if S.g i then inI h s S i else 0
def lsI (S : FSt) : Nat → Nat
  | 0 => fconv .f64 .f32 9218868437227405312
  | i + 1 => if S.g i then less (lsI S i) (inI h s S i) else lsI S i
/-- How long an out takes. -/
def grz (x : Nat) : Nat := if fgt .f32 0 x = true then 0 else x
def outI (r : Nat → Nat) (S : FSt) (k : Nat) : Nat := grz (fdiv .f32 (fsub .f32 (t k) (S.c k)) (r k))
def outsF (r : Nat → Nat) (S : FSt) (k : Nat) : Nat := if fgt .f32 (r k) 0 then outI t r S k else 0
def lsO (r : Nat → Nat) (S : FSt) (a : Nat) : Nat → Nat
  | 0 => a
  | k + 1 => if fgt .f32 (r k) 0 then less (lsO r S a k) (outI t r S k) else lsO r S a k
/-- What flows, and which ways are at their end. -/
def flS (L : Nat) (S : FSt) (i : Nat) : FSt := ⟨fun q => if q < i && S.g q then (if feq .f32 (insF h s S q) L then s q else fadd .f32 (S.f q) (fmul .f32 (h (18 + q)) L)) else S.f q, S.c, fun q => if q < i && (S.g q && feq .f32 (insF h s S q) L) then false else S.g q, S.b⟩
theorem flS_0 (L : Nat) (S : FSt) : feqS (flS h s L S 0) S := fun q _ => ⟨by unfold flS; simp, rfl, by unfold flS; simp, rfl⟩
theorem flS_no {L : Nat} {S : FSt} {i : Nat} (hg : S.g i = false) : feqS (flS h s L S (i + 1)) (flS h s L S i) := fun q _ => by
  refine ⟨?_, rfl, ?_, rfl⟩
  all_goals show (if _ then _ else _) = if _ then _ else _
  all_goals by_cases e : q = i
  all_goals first | (subst e; rw [hg]; simp; done) | (rw [show decide (q < i + 1) = decide (q < i) from decide_eq_decide.2 (by omega)])
theorem flS_go {L : Nat} {S : FSt} {i : Nat} (hg : S.g i = true) (hq : feq .f32 (insF h s S i) L = false) : feqS { flS h s L S i with f := upd (flS h s L S i).f i (fadd .f32 (S.f i) (fmul .f32 (h (18 + i)) L)) } (flS h s L S (i + 1)) := fun q _ => by
  refine ⟨?_, rfl, ?_, rfl⟩
  · show upd _ i _ q = if _ then _ else _
    by_cases e : q = i
    · subst e; rw [upd_eq, hg, hq]; simp
    · rw [upd_ne e]
      show (if _ then _ else _) = if _ then _ else _
      rw [show decide (q < i + 1) = decide (q < i) from decide_eq_decide.2 (by omega)]
  · show (if _ then _ else _) = if _ then _ else _
    by_cases e : q = i
    · subst e; rw [hg, hq]; simp
    · rw [show decide (q < i + 1) = decide (q < i) from decide_eq_decide.2 (by omega)]
theorem flS_end {L v : Nat} {S : FSt} {i : Nat} (hg : S.g i = true) (hq : feq .f32 (insF h s S i) L = true) : feqS { flS h s L S i with g := upd (flS h s L S i).g i false, f := upd (upd (flS h s L S i).f i v) i (s i) } (flS h s L S (i + 1)) := fun q _ => by
  refine ⟨?_, rfl, ?_, rfl⟩
  · show upd _ i _ q = if _ then _ else _
    by_cases e : q = i
    · subst e; rw [upd_eq, hg, hq]; simp
    · rw [upd_ne e, upd_ne e]
      show (if _ then _ else _) = if _ then _ else _
      rw [show decide (q < i + 1) = decide (q < i) from decide_eq_decide.2 (by omega)]
  · show upd _ i _ q = if _ then _ else _
    by_cases e : q = i
    · subst e; rw [upd_eq, hg, hq]; simp
    · rw [upd_ne e]
      show (if _ then _ else _) = if _ then _ else _
      rw [show decide (q < i + 1) = decide (q < i) from decide_eq_decide.2 (by omega)]
theorem flS_f (L : Nat) (S : FSt) (i : Nat) : (flS h s L S i).f i = S.f i := by
  show (if _ then _ else _) = _
  rw [decide_eq_false (by omega)]; rfl
/-- What has come, and which ways are stopped. -/
def cmS (L : Nat) (r : Nat → Nat) (S : FSt) (k : Nat) : FSt := { S with c := upd S.c k (fadd .f32 (S.c k) (fmul .f32 (r k) L)) }
def hitB (L : Nat) (r : Nat → Nat) (S0 : FSt) (k : Nat) : Bool := fgt .f32 (r k) 0 && feq .f32 (outsF t r S0 k) L
def stI (L : Nat) (r : Nat → Nat) (S0 S : FSt) : Nat → FSt
  | 0 => S
  | k + 1 => if hitB t L r S0 k then stpS h (cmS L r (stI L r S0 S k) k) k 4 else cmS L r (stI L r S0 S k) k
/-- A round. -/
def rndI (S : FSt) : FSt := stI h t (lsO t (rtI h S) S (lsI h s S 4) 4) (rtI h S) S (flS h s (lsO t (rtI h S) S (lsI h s S 4) 4) S 4) 4
theorem ins_step {S : FSt} {i : Nat} (hg : S.g i = true) : tab 4 (fun q => if q = i then Value.float .f32 (inI h s S i) else (fun q => .float .f32 (if q < i then insF h s S q else 0)) q) = tab 4 fun q => .float .f32 (if q < i + 1 then insF h s S q else 0) := step_tab (f := insF h s S) (by unfold insF; rw [hg]; rfl)
theorem ins_skip {S : FSt} {i : Nat} (hg : S.g i = false) : (tab 4 fun q => Value.float .f32 (if q < i + 1 then insF h s S q else 0)) = tab 4 fun q => .float .f32 (if q < i then insF h s S q else 0) := tab_congr fun q _ => by
  by_cases e : q = i
  · subst e; rw [if_pos (by omega), if_neg (by omega)]; unfold insF; rw [hg]; rfl
  · by_cases e2 : q < i
    · rw [if_pos (by omega), if_pos e2]
    · rw [if_neg (by omega), if_neg e2]
theorem outs_step {r : Nat → Nat} {S : FSt} {k : Nat} (hg : fgt .f32 (r k) 0 = true) : tab 4 (fun q => if q = k then Value.float .f32 (outI t r S k) else (fun q => .float .f32 (if q < k then outsF t r S q else 0)) q) = tab 4 fun q => .float .f32 (if q < k + 1 then outsF t r S q else 0) := step_tab (f := outsF t r S) (by unfold outsF; rw [hg]; rfl)
theorem outs_skip {r : Nat → Nat} {S : FSt} {k : Nat} (hg : fgt .f32 (r k) 0 = false) : (tab 4 fun q => Value.float .f32 (if q < k + 1 then outsF t r S q else 0)) = tab 4 fun q => .float .f32 (if q < k then outsF t r S q else 0) := tab_congr fun q _ => by
  by_cases e : q = k
  · subst e; rw [if_pos (by omega), if_neg (by omega)]; unfold outsF; rw [hg]; rfl
  · by_cases e2 : q < k
    · rw [if_pos (by omega), if_pos e2]
    · rw [if_neg (by omega), if_neg e2]
theorem tab_none {f : Nat → Nat} : (tab 4 fun q => Value.float .f32 (if q < 0 then f q else 0)) = tab 4 fun _ => .float .f32 0 := tab_congr fun q _ => by rw [if_neg (by omega)]
end
end Go.Proofs.Ytjghdagcmombnaa
