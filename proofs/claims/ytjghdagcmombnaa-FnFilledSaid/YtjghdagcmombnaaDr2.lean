/- What the small functions on numbers, phases and tables give. -/
import Derived.Test.YtjghdagcmombnaaTab
import Derived.Test.YtjghdagcmombnaaOpW

namespace Go.Proofs.Ytjghdagcmombnaa
open Go.RowKit
attribute [local irreducible] AW AOs AO AQ AQW thenA inBlockA postA ACalls Pure
set_option linter.unusedSimpArgs false
set_option linter.unusedVariables false
set_option linter.unusedSectionVars false

/-- All of n values from k on hold. -/
def okK (q : Nat → Bool) : Nat → Nat → Bool
  | 0, _ => true
  | n + 1, k => q k && okK q n (k + 1)
theorem okK_all {q : Nat → Bool} : ∀ n k, okK q n k = true ↔ ∀ i, k ≤ i → i < k + n → q i = true
  | 0, k => by simp [okK]; omega
  | n + 1, k => by
    simp only [okK, Bool.and_eq_true, okK_all n (k + 1)]
    refine ⟨fun ⟨h1, h2⟩ i hi hk => ?_, fun h => ⟨h k (by omega) (by omega), fun i hi hk => h i (by omega) (by omega)⟩⟩
    by_cases e : i = k
    · subst e; exact h1
    · exact h2 i (by omega) (by omega)

theorem iinRange (a b c : Int) (M : Mem) : Pure Try.prog 68 [.int .i64 a, .int .i64 b, .int .i64 c] M (.bool (decide (b ≤ a ∧ a ≤ c))) := by
  refine pure_of Try.func68 Try.ntmps68 rfl rfl (by repeat' (first | exact Flat.bool _ | exact Flat.int _ _ | exact Flat.float _ _ | exact Flat.string _ | exact flat_nil | exact flat_tabL (fun _ => Flat.bool _) | exact flat_tabL (fun _ => Flat.int _ _) | exact flat_tabL (fun _ => Flat.float _ _) | refine flat_tuple ?_ | refine flat_agg ?_ | refine flat_cons ?_ ?_ | refine flat_append ?_ ?_)) ?_
  simp only [envOf, Nat.zero_add, Nat.reduceAdd]
  repeat' (first | (refine d_AOs (h := ?_) ; first | refine o_move (h := ?_) | refine o_assign (h := ?_) | refine AOs.nil (h := ?_) | (refine d_bin (h := ?_) ; first | refine o_leq (h := ?_) ) | (refine d_grd (h := ?_) ; first | refine g_yes (h := ?_) | refine g_no (h := ?_) | refine g_undef (h := ?_) | (refine g_true (h1 := (fun hg => ?_)) (h0 := (fun hg => ?_)) <;> (try rw [hg]) <;> (try simp only [decide_eq_true_eq, decide_eq_false_iff_not, Int.ofNat_inj, Bool.not_eq_true', Bool.not_eq_false', Int.not_lt, Int.not_le] at hg) <;> (try (exfalso; omega)) <;> (try (exact absurd hg (by decide)))) | (refine g_false (h1 := (fun hg => ?_)) (h0 := (fun hg => ?_)) <;> (try rw [hg]) <;> (try simp only [decide_eq_true_eq, decide_eq_false_iff_not, Int.ofNat_inj, Bool.not_eq_true', Bool.not_eq_false', Int.not_lt, Int.not_le] at hg) <;> (try (exfalso; omega)) <;> (try (exact absurd hg (by decide))))) | refine o_at (h := ?_) | refine o_pick (h := ?_) ) | (refine d_AW (h := ?_) ; first | refine AW.seq (h := ?_) | refine AW.region (h := ?_) | (refine AW.cond (ht := (fun hc => ?_)) (hf := (fun hc => ?_)) <;> (try (with_reducible first | exact absurd hc Bool.false_ne_true | exact absurd hc.symm Bool.false_ne_true)) <;> (try simp only [decide_eq_true_eq, decide_eq_false_iff_not, Int.ofNat_inj, Bool.not_eq_true', Bool.not_eq_false', Int.not_lt, Int.not_le] at hc) <;> (try (exfalso; omega)) <;> (try (exact absurd hc (by decide)))) | refine AW.block (h := ?_) | refine AW.ret (h := ?_) | refine AW.skip (h := ?_) | refine AW.exit (h := ?_) ) | (first | refine t_normal ?_ | refine t_ret ?_ | refine t_exit ?_ | refine b_normal ?_ | refine b_exit ?_ | refine b_exit' (by decide) ?_ | refine b_ret ?_) | (refine d_post (h := ?_) ; first | refine p_ret1 rfl (h := ?_) | refine p_end1 rfl (h := ?_) | refine p_cell1 rfl (h := ?_) ))
  all_goals simp [*]
  all_goals omega

theorem sl00In (a b c : Int) (M : Mem) : Pure Try.prog 66 [.int .i64 a, .int .i64 b, .int .i64 c] M (.bool (decide (b ≤ a ∧ a ≤ c))) := by
  refine pure_of Try.func66 Try.ntmps66 rfl rfl (by repeat' (first | exact Flat.bool _ | exact Flat.int _ _ | exact Flat.float _ _ | exact Flat.string _ | exact flat_nil | exact flat_tabL (fun _ => Flat.bool _) | exact flat_tabL (fun _ => Flat.int _ _) | exact flat_tabL (fun _ => Flat.float _ _) | refine flat_tuple ?_ | refine flat_agg ?_ | refine flat_cons ?_ ?_ | refine flat_append ?_ ?_)) ?_
  simp only [envOf, Nat.zero_add, Nat.reduceAdd]
  repeat' (first | (refine d_AOs (h := ?_) ; first | refine o_move (h := ?_) | refine o_assign (h := ?_) | refine AOs.nil (h := ?_) | (refine d_bin (h := ?_) ; first | refine o_leq (h := ?_) | refine o_geq (h := ?_) ) | (refine d_grd (h := ?_) ; first | refine g_yes (h := ?_) | refine g_no (h := ?_) | refine g_undef (h := ?_) | (refine g_true (h1 := (fun hg => ?_)) (h0 := (fun hg => ?_)) <;> (try rw [hg]) <;> (try simp only [decide_eq_true_eq, decide_eq_false_iff_not, Int.ofNat_inj, Bool.not_eq_true', Bool.not_eq_false', Int.not_lt, Int.not_le] at hg) <;> (try (exfalso; omega)) <;> (try (exact absurd hg (by decide)))) | (refine g_false (h1 := (fun hg => ?_)) (h0 := (fun hg => ?_)) <;> (try rw [hg]) <;> (try simp only [decide_eq_true_eq, decide_eq_false_iff_not, Int.ofNat_inj, Bool.not_eq_true', Bool.not_eq_false', Int.not_lt, Int.not_le] at hg) <;> (try (exfalso; omega)) <;> (try (exact absurd hg (by decide))))) | refine o_at (h := ?_) | refine o_pick (h := ?_) ) | (refine d_AW (h := ?_) ; first | refine AW.seq (h := ?_) | refine AW.region (h := ?_) | (refine AW.cond (ht := (fun hc => ?_)) (hf := (fun hc => ?_)) <;> (try (with_reducible first | exact absurd hc Bool.false_ne_true | exact absurd hc.symm Bool.false_ne_true)) <;> (try simp only [decide_eq_true_eq, decide_eq_false_iff_not, Int.ofNat_inj, Bool.not_eq_true', Bool.not_eq_false', Int.not_lt, Int.not_le] at hc) <;> (try (exfalso; omega)) <;> (try (exact absurd hc (by decide)))) | refine AW.block (h := ?_) | refine AW.ret (h := ?_) | refine AW.skip (h := ?_) | refine AW.exit (h := ?_) ) | (first | refine t_normal ?_ | refine t_ret ?_ | refine t_exit ?_ | refine b_normal ?_ | refine b_exit ?_ | refine b_exit' (by decide) ?_ | refine b_ret ?_) | (refine d_post (h := ?_) ; first | refine p_ret1 rfl (h := ?_) | refine p_end1 rfl (h := ?_) | refine p_cell1 rfl (h := ?_) ))
  all_goals simp [*]
  all_goals omega

/-! ### NumberOfPhase, the law -/
end Go.Proofs.Ytjghdagcmombnaa

/- Calls that change their caller's memory; results of a slice and more. -/
namespace Go.Proofs.Ytjghdagcmombnaa
open Go.RowKit
set_option linter.unusedSimpArgs false
set_option linter.unusedVariables false

/-- A call that gives v and leaves the memory M1. -/
def Mut (P : Program) (f : FuncId) (args : List Value) (M : Mem) (v : Value) (M1 : Mem) : Prop := ACalls P f args M fun x M' => x = v ∧ M' = M1

section
variable {P : Program}
theorem Mut.of {f : FuncId} {args : List Value} {M M1 : Mem} {v : Value} (hl : M.length ≤ M1.length) (hb : Flat v) (hc : Closed M.length M → Closed M1.length M1) (h : ACalls P f args M fun x M' => x = v ∧ ∃ T, M' = M1 ++ T) : Mut P f args M v M1 := by
  intro B0 w0 r w cargs hs hv
  refine (h B0 w0 r w cargs hs hv).mono fun e w' ⟨d, x, M', r', h1, ⟨hx, T, hM⟩, he, hs', hd⟩ => ?_
  subst hx; subst hM
  refine ⟨d, x, M1, cutR M1.length r', h1, ⟨rfl, rfl⟩, fun j t c hr => ?_, hs'.cutTo (hc hs.closed), hd.flat hb⟩
  unfold cutR
  rw [if_pos (Nat.lt_of_lt_of_le (hs.dom_lt j t c hr) hl)]
  exact he j t c hr
theorem Closed.set {M : Mem} {b : Nat} {B : Blk} (h : Closed M.length M) (hf : ∀ c ∈ B.cells, Flat c) : Closed (M.set b B).length (M.set b B) := by
  rw [List.length_set]
  intro x hx c hc
  rcases List.mem_or_eq_of_mem_set hx with hx | rfl
  · exact h x hx c hc
  · exact Bel.flat (hf c hc)
theorem mut_of {f : FuncId} {fn : Func} {c : Code} {args : List Value} {M M1 : Mem} {v : Value} {k : Nat} (hf : P.funcs[f]? = some fn) (hk : fn.ntmps = k) (hb : fn.body = some c) (hn : Nat.ble args.length k = true) (hl : M.length ≤ M1.length) (hfl : Flat v) (hc : Closed M.length M → Closed M1.length M1)
    (h : AW P c (postA P fn fun x M' => x = v ∧ ∃ T, M' = M1 ++ T) ⟨k, envOf 0 args, M⟩) : Mut P f args M v M1 := by
  subst hk
  exact Mut.of hl hfl hc (ACalls.enter hf hb (Nat.le_of_ble_eq_true hn) h)
section
variable {ops l : List Oper} {K : St → Prop} {n : Nat} {t : Env} {m : Mem} {d ty : Nat} {pos : String} {af : Array Edge}
theorem o_callM {f : FuncId} [hf : FnT P f] {xs : List Operand} {ats : Array TypeId} {args : List Value} {v : Value} {M1 m' : Mem} (hargs : xs.map (evalA t) = args := by first | (simp only [List.map_cons, List.map_nil, evalA, look, cond_true, cond_false, Nat.reduceBEq, constOk, constOk1]; done) | (simp only [List.map_cons, List.map_nil, evalA, look, cond_true, cond_false, Nat.reduceBEq, constOk, constOk1]; rfl) | rfl) (hc : Mut P f args m v M1) (hm : M1 = m' := by first | exact set_head1 (by assumption) | exact List.set_set .. | exact set_head0 (by assumption) | (simp only [set_tail, set_tail0, set_tailS, set_tailS0, List.set_cons_zero, List.set_cons_succ, cellsA, List.length_cons, List.length_nil, Nat.reduceAdd]; first | done | rfl) | rfl) (hd : Nat.blt d n = true := by rfl)
    (h : AOs P ops l K ⟨n, (d, v) :: t, m'⟩) :
    AOs P ops (⟨some d, .call { callee := .value (.func f), args := xs.toArray, argTypes := ats }, ty, pos, af, none⟩ :: l) K ⟨n, t, m⟩ :=
  o_callR hargs hc hd fun _ _ ⟨h1, h2⟩ => by subst h1; subst h2; rw [hm]; exact h
end

section
variable {ops l : List Oper} {K : St → Prop} {n : Nat} {t : Env} {m : Mem} {d ty : Nat} {pos : String} {af : Array Edge}
/-- A slice of one element. -/
theorem o_buildS1 {st k b e : Nat} [ha : SlT P st k b e] {z : Value} [hz : TyZ P e z] {x : Operand} {v : Value} {us : List Value} {m' : Mem} {j : Nat} (hx : evalA t x = v := by (conv => (lhs; whnf)); first | done | rfl) (hus : cellsA v = us := by rfl)
    (hk : (cellsA z).length = k := by first | rfl | (simp only [cellsA, tab_len, List.length_cons, List.length_nil, List.length_append]; done)) (hul : us.length = k := by first | rfl | (simp only [cellsA, tab_len, List.length_cons, List.length_nil, List.length_append]; done)) (hw : whole v = true := by first | exact whole_tab (fun _ => rfl) | exact whole_tabR (fun _ => rfl) rfl | rfl | simp [whole, tab_one, one]) (hlk : k ≤ 16777216 := by omega)
    (hm : m ++ [⟨us, none, true⟩] = m' := by first | (simp only [List.append_assoc, cellsA, List.cons_append, List.nil_append]; rfl) | rfl) (hj : m.length = j := by first | (simp only [List.length_append, List.length_set, List.length_cons, List.length_nil, Nat.reduceAdd, Nat.zero_add]; first | done | rfl) | rfl) (hd : Nat.blt d n = true := by rfl)
    (h : AOs P ops l K ⟨n, (d, .slice (some ⟨j, 0, none⟩) 1 1) :: t, m'⟩) : AOs P ops (⟨some d, .buildSlice st 1 ([(0, x)] : List (Nat × Operand)).toArray, ty, pos, af, none⟩ :: l) K ⟨n, t, m⟩ :=
  o_buildS (xs := [(0, x)]) (vs := [(0, v)]) (zs := rows 1 fun _ => cellsA z) (cs := us) hk (by omega) (by simp [hx]) rfl (by
    have e1 : (List.range 1).map (fun q => (q * k, k)) = [(0, k)] := by simp [List.range_succ]
    have e2 : rows 1 (fun _ => cellsA z) = cellsA z := by simp [rows, List.range_succ]
    rw [e1, e2]
    show (if (cellsA v).length = k ∧ 0 + k ≤ (cellsA z).length ∧ whole v = true then some ((cellsA z).take 0 ++ cellsA v ++ (cellsA z).drop (0 + k)) else none) = some us
    rw [if_pos ⟨by rw [hus]; exact hul, by omega, hw⟩, hus, List.take_zero, List.drop_eq_nil_of_le (by omega), List.nil_append, List.append_nil]) hm hj hd h
end

section
variable {fn : Func} {n : Nat} {t : Env} {m M G : Mem}
end
end

/-! ### Lists in memory -/
theorem rowsL_snoc {α : Type} (F : α → List Value) (d : α) (l : List α) (n : α) : rows (l ++ [n]).length (fun q => F ((l ++ [n]).getD q d)) = rows l.length (fun q => F (l.getD q d)) ++ F n := by
  rw [List.length_append, List.length_singleton, rows_succ]
  congr 1
  · refine rows_congr fun q hq => ?_
    rw [List.getD_eq_getElem?_getD, List.getElem?_append_left hq, ← List.getD_eq_getElem?_getD]
  · rw [List.getD_eq_getElem?_getD, List.getElem?_append_right (Nat.le_refl _), Nat.sub_self]; rfl
theorem tabL_snoc {α : Type} (F : α → Value) (d : α) (l : List α) (n : α) : tab (l ++ [n]).length (fun q => F ((l ++ [n]).getD q d)) = tab l.length (fun q => F (l.getD q d)) ++ [F n] := by
  have := rowsL_snoc (fun x => [F x]) d l n
  rwa [rows_tab, rows_tab] at this
end Go.Proofs.Ytjghdagcmombnaa

/- Numbers, phases and movements that are drawn from bytes. -/
namespace Go.Proofs.Ytjghdagcmombnaa
open Go.RowKit
attribute [local irreducible] AW AOs AO AQ AQW thenA inBlockA postA ACalls Pure
set_option linter.unusedSimpArgs false
set_option linter.unusedVariables false
set_option linter.unusedSectionVars false

/-- The source of choices: how many bytes are read, and the seed. -/
abbrev DS := Nat × Int
def byteAt (n : Nat) (cd : Nat → Int) (i : Nat) : Int := if i < n then cd i else 0
def nxS (n : Nat) (cd : Nat → Int) (s : DS) : DS := (s.1 + 1, IntKind.u64.wrap (IntKind.u64.wrap (IntKind.u64.wrap (s.2 * 6364136223846793005) + byteAt n cd s.1) + 1442695040888963407))
def nxV (n : Nat) (cd : Nat → Int) (s : DS) : Int := if s.1 + 1 ≤ n then byteAt n cd s.1 else bits .and .u64 ((nxS n cd s).2.fdiv (2 ^ min (40 : Int).toNat IntKind.u64.bits)) 255
def pkV (n : Nat) (cd : Nat → Int) (s : DS) (m : Int) : Int := if m ≤ 1 then 0 else nxV n cd s % m
def pkS (n : Nat) (cd : Nat → Int) (s : DS) (m : Int) : DS := if m ≤ 1 then s else nxS n cd s
theorem and255 (x : Int) : 0 ≤ bits .and .u64 x 255 ∧ bits .and .u64 x 255 ≤ 255 := by
  have e : bits .and .u64 x 255 = IntKind.u64.wrap ((BitVec.ofInt 64 x &&& BitVec.ofInt 64 255).toNat : Int) := rfl
  have h : (BitVec.ofInt 64 x &&& BitVec.ofInt 64 255).toNat ≤ 255 := by
    rw [BitVec.toNat_and]
    exact Nat.and_le_right
  rw [e, wrap_fits (k := .u64) ⟨by omega, by omega⟩]
  omega
theorem and255w (x : Int) : IntKind.i64.wrap (bits .and .u64 x 255) = bits .and .u64 x 255 := by
  have h := and255 x
  exact wrap_fits (k := .i64) ⟨by omega, by omega⟩
theorem nxV_bd {n : Nat} {cd : Nat → Int} (hcd : ∀ q, 0 ≤ cd q ∧ cd q ≤ 255) (s : DS) : 0 ≤ nxV n cd s ∧ nxV n cd s ≤ 255 := by
  unfold nxV
  split
  · unfold byteAt
    split
    · exact hcd _
    · exact ⟨by decide, by decide⟩
  · exact and255 _
theorem pkV_bd {n : Nat} {cd : Nat → Int} (s : DS) {m : Int} (hm : 1 ≤ m) : 0 ≤ pkV n cd s m ∧ pkV n cd s m < m := by
  unfold pkV
  split
  · omega
  · exact ⟨Int.emod_nonneg _ (by omega), Int.emod_lt_of_pos _ (by omega)⟩
theorem pkS_at (n : Nat) (cd : Nat → Int) (s : DS) (m : Int) : (pkS n cd s m).1 ≤ s.1 + 1 := by
  unfold pkS
  split
  · omega
  · exact Nat.le_refl _

abbrev srcB (a : Option Addr) (n cp : Nat) (s : DS) : Blk := ⟨[.slice a n cp, .int .i64 (s.1 : Int), .int .u64 s.2], none, true⟩
theorem src_same {M : Mem} {a : Option Addr} {n cp j : Nat} {s : DS} {cd : Nat → Int} {B : Blk} (hb : M[j]? = some (srcB a n cp s)) (hS : SlAt M a n (tab n fun q => .int .u8 (cd q))) : SlAt (M.set j B) a n (tab n fun q => .int .u8 (cd q)) := fun hn => by
  obtain ⟨b, tg, rw', ha, hbb⟩ := hS hn
  refine ⟨b, tg, rw', ha, ?_⟩
  rw [List.getElem?_set]
  by_cases e : j = b
  · subst e
    rw [hb] at hbb
    obtain ⟨m, rfl⟩ : ∃ m, n = m + 1 := ⟨n - 1, by omega⟩
    simp [tab, List.range_succ_eq_map] at hbb
  · rw [if_neg e]; exact hbb
theorem src_closed {M : Mem} {a : Option Addr} {n cp j : Nat} {s s' : DS} (hb : M[j]? = some (srcB a n cp s)) (hM : Closed M.length M) : Closed (M.set j (srcB a n cp s')).length (M.set j (srcB a n cp s')) := by
  rw [List.length_set]
  intro x hx c hc
  rcases List.mem_or_eq_of_mem_set hx with hx | rfl
  · exact hM x hx c hc
  · simp only [List.mem_cons, List.not_mem_nil, or_false] at hc
    rcases hc with rfl | rfl | rfl
    · exact hM _ (List.mem_of_getElem? hb) _ (by simp)
    · exact Bel.flat (Flat.int _ _)
    · exact Bel.flat (Flat.int _ _)

section
variable (a : Option Addr) (n cp : Nat) (cd : Nat → Int)
set_option maxHeartbeats 2000000 in
theorem snext (hcd : ∀ q, 0 ≤ cd q ∧ cd q ≤ 255) (hn : n ≤ 1048576) (s : DS) (j : Nat) (M : Mem) (hat : s.1 ≤ 1000000) (hb : M[j]? = some (srcB a n cp s)) (hS : SlAt M a n (tab n fun q => .int .u8 (cd q))) :
    Mut Try.prog 34 [.pointer (some ⟨j, 0, none⟩)] M (.int .i64 (nxV n cd s)) (M.set j (srcB a n cp (nxS n cd s))) := by
  refine mut_of Try.func34 Try.ntmps34 rfl rfl (by rw [List.length_set]; exact Nat.le_refl _) (by repeat' (first | exact Flat.bool _ | exact Flat.int _ _ | exact Flat.float _ _ | exact Flat.string _ | exact flat_nil | exact flat_tabL (fun _ => Flat.bool _) | exact flat_tabL (fun _ => Flat.int _ _) | exact flat_tabL (fun _ => Flat.float _ _) | refine flat_tuple ?_ | refine flat_agg ?_ | refine flat_cons ?_ ?_ | refine flat_append ?_ ?_)) (src_closed hb) ?_
  have hjl := (List.getElem?_eq_some_iff.1 hb).1
  by_cases h1 : s.1 < n
  · obtain ⟨b, tg, rw', rfl, hbb⟩ := hS (by omega)
    have hc1 := hcd s.1
    have e1 : byteAt n cd s.1 = cd s.1 := if_pos h1
    have e2 : nxV n cd s = cd s.1 := by unfold nxV; rw [if_pos (by omega), e1]
    rw [e2]
    unfold nxS
    rw [e1]
    simp only [envOf, Nat.zero_add, Nat.reduceAdd]
    repeat' (first | (refine d_AOs (h := ?_) ; first | refine o_move (h := ?_) | refine o_assign (h := ?_) | refine AOs.nil (h := ?_) | (refine d_bin (h := ?_) ; first | refine o_addS (h := ?_) | refine o_add (h := ?_) | refine o_lss (h := ?_) | refine o_leq (h := ?_) | refine o_mulS (h := ?_) | refine o_mul (h := ?_) | refine o_shr (h := ?_) | refine o_bits (h := ?_) )  | refine o_load (h := ?_) | refine o_at (h := ?_) | refine o_field (h := ?_) | refine o_nil (h := ?_) | refine o_len (h := ?_) | refine o_lenS (h := ?_) | refine o_ixS (h := ?_) | refine o_store (h := ?_) | refine o_ix (h := ?_) | refine o_convS (h := ?_) | refine o_conv (h := ?_) | refine o_fconv (h := ?_) | refine o_fofInt (h := ?_) ) | (refine d_AW (h := ?_) ; first | refine AW.seq (h := ?_) | refine AW.region (h := ?_) | refine AW.open5 (h1 := ?_) (h2 := ?_) (h3 := ?_) | refine AW.open_ (h := ?_) | (refine AW.cond (ht := (fun hc => ?_)) (hf := (fun hc => ?_)) <;> (try (with_reducible first | exact absurd hc Bool.false_ne_true | exact absurd hc.symm Bool.false_ne_true)) <;> (try simp only [decide_eq_true_eq, decide_eq_false_iff_not, Int.ofNat_inj, Bool.not_eq_true', Bool.not_eq_false', Int.not_lt, Int.not_le] at hc) <;> (try (exfalso; omega)) <;> (try (exact absurd hc (by decide)))) | refine AW.block (h := ?_) | refine AW.ret (h := ?_) | refine AW.skip (h := ?_) | refine AW.exit (h := ?_) ) | (first | refine t_normal ?_ | refine t_ret ?_ | refine t_exit ?_ | refine b_normal ?_ | refine b_exit ?_ | refine b_exit' (by decide) ?_ | refine b_ret ?_) | (refine d_AQ (h := ?_) ; first | refine q_nil (h := ?_) | refine q_switchB (h2 := ?_) | refine q_step (h2 := ?_) | refine q_yes (h2 := ?_) | refine q_no (h2 := ?_) | refine q_undef (h2 := ?_) | (refine q_true (h2 := (fun hg => ?_)) (h0 := (fun hg => ?_)) <;> (try rw [hg]) <;> (try simp only [decide_eq_true_eq, decide_eq_false_iff_not, Int.ofNat_inj, Bool.not_eq_true', Bool.not_eq_false', Int.not_lt, Int.not_le] at hg) <;> (try (exfalso; omega)) <;> (try (exact absurd hg (by decide)))) | (refine q_false (h2 := (fun hg => ?_)) (h0 := (fun hg => ?_)) <;> (try rw [hg]) <;> (try simp only [decide_eq_true_eq, decide_eq_false_iff_not, Int.ofNat_inj, Bool.not_eq_true', Bool.not_eq_false', Int.not_lt, Int.not_le] at hg) <;> (try (exfalso; omega)) <;> (try (exact absurd hg (by decide)))) | refine q_switch (h2 := ?_)) | (refine d_post (h := ?_) ; first | refine p_ret1 rfl (h := ?_) | refine p_end1 rfl (h := ?_) | refine p_cell1 rfl (h := ?_) ))
    all_goals rfl
  · have e1 : byteAt n cd s.1 = 0 := if_neg h1
    have e2 : nxV n cd s = bits .and .u64 ((nxS n cd s).2.fdiv (2 ^ min (40 : Int).toNat IntKind.u64.bits)) 255 := by unfold nxV; rw [if_neg (by omega)]
    rw [e2]
    unfold nxS
    rw [e1]
    simp only [envOf, Nat.zero_add, Nat.reduceAdd]
    repeat' (first | (refine d_AOs (h := ?_) ; first | refine o_move (h := ?_) | refine o_assign (h := ?_) | refine AOs.nil (h := ?_) | (refine d_bin (h := ?_) ; first | refine o_addS (h := ?_) | refine o_add (h := ?_) | refine o_lss (h := ?_) | refine o_leq (h := ?_) | refine o_mulS (h := ?_) | refine o_mul (h := ?_) | refine o_shr (h := ?_) | refine o_bits (h := ?_) )  | refine o_load (h := ?_) | refine o_at (h := ?_) | refine o_field (h := ?_) | refine o_nil (h := ?_) | refine o_len (h := ?_) | refine o_lenS (h := ?_) | refine o_ixS (h := ?_) | refine o_store (h := ?_) | refine o_ix (h := ?_) | refine o_convS (h := ?_) | refine o_conv (h := ?_) | refine o_fconv (h := ?_) | refine o_fofInt (h := ?_) ) | (refine d_AW (h := ?_) ; first | refine AW.seq (h := ?_) | refine AW.region (h := ?_) | refine AW.open5 (h1 := ?_) (h2 := ?_) (h3 := ?_) | refine AW.open_ (h := ?_) | (refine AW.cond (ht := (fun hc => ?_)) (hf := (fun hc => ?_)) <;> (try (with_reducible first | exact absurd hc Bool.false_ne_true | exact absurd hc.symm Bool.false_ne_true)) <;> (try simp only [decide_eq_true_eq, decide_eq_false_iff_not, Int.ofNat_inj, Bool.not_eq_true', Bool.not_eq_false', Int.not_lt, Int.not_le] at hc) <;> (try (exfalso; omega)) <;> (try (exact absurd hc (by decide)))) | refine AW.block (h := ?_) | refine AW.ret (h := ?_) | refine AW.skip (h := ?_) | refine AW.exit (h := ?_) ) | (first | refine t_normal ?_ | refine t_ret ?_ | refine t_exit ?_ | refine b_normal ?_ | refine b_exit ?_ | refine b_exit' (by decide) ?_ | refine b_ret ?_) | (refine d_AQ (h := ?_) ; first | refine q_nil (h := ?_) | refine q_switchB (h2 := ?_) | refine q_step (h2 := ?_) | refine q_yes (h2 := ?_) | refine q_no (h2 := ?_) | refine q_undef (h2 := ?_) | (refine q_true (h2 := (fun hg => ?_)) (h0 := (fun hg => ?_)) <;> (try rw [hg]) <;> (try simp only [decide_eq_true_eq, decide_eq_false_iff_not, Int.ofNat_inj, Bool.not_eq_true', Bool.not_eq_false', Int.not_lt, Int.not_le] at hg) <;> (try (exfalso; omega)) <;> (try (exact absurd hg (by decide)))) | (refine q_false (h2 := (fun hg => ?_)) (h0 := (fun hg => ?_)) <;> (try rw [hg]) <;> (try simp only [decide_eq_true_eq, decide_eq_false_iff_not, Int.ofNat_inj, Bool.not_eq_true', Bool.not_eq_false', Int.not_lt, Int.not_le] at hg) <;> (try (exfalso; omega)) <;> (try (exact absurd hg (by decide)))) | refine q_switch (h2 := ?_)) | (refine d_post (h := ?_) ; first | refine p_ret1 rfl (h := ?_) | refine p_end1 rfl (h := ?_) | refine p_cell1 rfl (h := ?_) ))
    all_goals first | rfl | (rw [and255w]; done) | (rw [and255w]; rfl)
theorem spick (hcd : ∀ q, 0 ≤ cd q ∧ cd q ≤ 255) (hn : n ≤ 1048576) (s : DS) (m : Int) (hm : m ≤ 200) (j : Nat) (M : Mem) (hat : s.1 ≤ 1000000) (hb : M[j]? = some (srcB a n cp s)) (hS : SlAt M a n (tab n fun q => .int .u8 (cd q))) :
    Mut Try.prog 18 [.pointer (some ⟨j, 0, none⟩), .int .i64 m] M (.int .i64 (pkV n cd s m)) (M.set j (srcB a n cp (pkS n cd s m))) := by
  refine mut_of Try.func18 Try.ntmps18 rfl rfl (by rw [List.length_set]; exact Nat.le_refl _) (by repeat' (first | exact Flat.bool _ | exact Flat.int _ _ | exact Flat.float _ _ | exact Flat.string _ | exact flat_nil | exact flat_tabL (fun _ => Flat.bool _) | exact flat_tabL (fun _ => Flat.int _ _) | exact flat_tabL (fun _ => Flat.float _ _) | refine flat_tuple ?_ | refine flat_agg ?_ | refine flat_cons ?_ ?_ | refine flat_append ?_ ?_)) (src_closed hb) ?_
  have hjl := (List.getElem?_eq_some_iff.1 hb).1
  unfold pkV pkS
  by_cases h1 : m ≤ 1
  · rw [if_pos h1, if_pos h1, set_same hb]
    simp only [envOf, Nat.zero_add, Nat.reduceAdd]
    repeat' (first | (refine d_AOs (h := ?_) ; first | refine o_move (h := ?_) | refine o_assign (h := ?_) | refine AOs.nil (h := ?_) | (refine d_bin (h := ?_) ; first | refine o_addS (h := ?_) | refine o_add (h := ?_) | refine o_leq (h := ?_) | refine o_gtr (h := ?_) | refine o_mulS (h := ?_) | refine o_mul (h := ?_) | refine o_remS (h := ?_) | refine o_rem (h := ?_) )  | refine o_at (h := ?_) ) | (refine d_AW (h := ?_) ; first | refine AW.seq (h := ?_) | refine AW.region (h := ?_) | (refine AW.cond (ht := (fun hc => ?_)) (hf := (fun hc => ?_)) <;> (try (with_reducible first | exact absurd hc Bool.false_ne_true | exact absurd hc.symm Bool.false_ne_true)) <;> (try simp only [decide_eq_true_eq, decide_eq_false_iff_not, Int.ofNat_inj, Bool.not_eq_true', Bool.not_eq_false', Int.not_lt, Int.not_le] at hc) <;> (try (exfalso; omega)) <;> (try (exact absurd hc (by decide)))) | refine AW.block (h := ?_) | refine AW.ret (h := ?_) | refine AW.skip (h := ?_) | refine AW.exit (h := ?_) ) | (first | refine t_normal ?_ | refine t_ret ?_ | refine t_exit ?_ | refine b_normal ?_ | refine b_exit ?_ | refine b_exit' (by decide) ?_ | refine b_ret ?_) | (refine d_post (h := ?_) ; first | refine p_ret1 rfl (h := ?_) | refine p_end1 rfl (h := ?_) | refine p_cell1 rfl (h := ?_) ))
    all_goals rfl
  · rw [if_neg h1, if_neg h1]
    have hnx := snext a n cp cd hcd hn s j M hat hb hS
    have hbd := nxV_bd hcd s (n := n)
    simp only [envOf, Nat.zero_add, Nat.reduceAdd]
    repeat' (first | (refine d_AOs (h := ?_) ; first | refine o_move (h := ?_) | refine o_assign (h := ?_) | refine AOs.nil (h := ?_) | (refine d_bin (h := ?_) ; first | refine o_addS (h := ?_) | refine o_add (h := ?_) | refine o_leq (h := ?_) | refine o_gtr (h := ?_) | refine o_mulS (h := ?_) | refine o_mul (h := ?_) | refine o_remS (h := ?_) | refine o_rem (h := ?_) )  | refine o_callM (hc := hnx) (h := ?_) | refine o_at (h := ?_) ) | (refine d_AW (h := ?_) ; first | refine AW.seq (h := ?_) | refine AW.region (h := ?_) | (refine AW.cond (ht := (fun hc => ?_)) (hf := (fun hc => ?_)) <;> (try (with_reducible first | exact absurd hc Bool.false_ne_true | exact absurd hc.symm Bool.false_ne_true)) <;> (try simp only [decide_eq_true_eq, decide_eq_false_iff_not, Int.ofNat_inj, Bool.not_eq_true', Bool.not_eq_false', Int.not_lt, Int.not_le] at hc) <;> (try (exfalso; omega)) <;> (try (exact absurd hc (by decide)))) | refine AW.block (h := ?_) | refine AW.ret (h := ?_) | refine AW.skip (h := ?_) | refine AW.exit (h := ?_) ) | (first | refine t_normal ?_ | refine t_ret ?_ | refine t_exit ?_ | refine b_normal ?_ | refine b_exit ?_ | refine b_exit' (by decide) ?_ | refine b_ret ?_) | (refine d_post (h := ?_) ; first | refine p_ret1 rfl (h := ?_) | refine p_end1 rfl (h := ?_) | refine p_cell1 rfl (h := ?_) ))
    all_goals rfl
/-! ### Phases -/
end
end Go.Proofs.Ytjghdagcmombnaa

/- What is drawn: movements, a phase, a number. -/
namespace Go.Proofs.Ytjghdagcmombnaa
open Go.RowKit
attribute [local irreducible] AW AOs AO AQ AQW thenA inBlockA postA ACalls Pure
set_option linter.unusedSimpArgs false
set_option linter.unusedVariables false
set_option linter.unusedSectionVars false

theorem ACalls.belC {P : Program} {f : FuncId} {args : List Value} {M : Mem} {R : Value → Mem → Prop} (h : Closed M.length M → (∀ x ∈ args, ∀ c ∈ cellsA x, Bel M.length c) → ACalls P f args M R) : ACalls P f args M R := by
  unfold ACalls at h ⊢
  intro B0 w0 r w cargs hs hv
  refine h hs.closed (fun x hx c hc => ?_) B0 w0 r w cargs hs hv
  obtain ⟨i, hi⟩ := List.getElem?_of_mem hx
  have hil : i < cargs.length := by rw [← hv.1]; exact (List.getElem?_eq_some_iff.1 hi).1
  have hxy := hv.2 i x cargs[i] hi (by simp)
  by_cases ha : ∃ cs, x = .agg cs
  · obtain ⟨cs, rfl⟩ := ha
    obtain ⟨ys, _, hy⟩ := hxy.agg_inv
    obtain ⟨q, hq⟩ := List.getElem?_of_mem (show c ∈ cs.toList from hc)
    have hql : q < ys.length := by rw [← hy.1]; exact (List.getElem?_eq_some_iff.1 hq).1
    exact Bel.of_VR hs.dom_lt (hy.2 q c ys[q] hq (by simp))
  · have e : cellsA x = [x] := by cases x <;> first | rfl | (exact (ha ⟨_, rfl⟩).elim)
    rw [e] at hc
    obtain rfl := List.mem_singleton.1 hc
    exact Bel.of_VR hs.dom_lt hxy
/-- One new block, and the pointer to it. -/
theorem p_allocP {P : Program} {fn : Func} {n : Nat} {t : Env} {m M G : Mem} {k j q o : Nat} {tg : Option Nat} {b : Blk} (hr : fn.results = #[.tmp k]) (hv : look t k = .pointer (some ⟨j, o, tg⟩)) (hj : j = M.length + q) (hm : m = M ++ G) (hq : G[q]? = some b) (hfl : ∀ c ∈ b.cells, Bel M.length c) :
    postA P fn (RelA M [q] (.pointer (some ⟨M.length, o, tg⟩)) [b]) .ret ⟨n, t, m⟩ := by
  subst hm hj
  have e : placeOf M.length [q] M.length = M.length + q := by unfold placeOf; simp
  unfold postA
  refine ⟨.pointer (some ⟨M.length + q, o, tg⟩), res1 hr hv, G, rfl, ?_, fun i b' hb => ?_⟩
  · have := RenV.ptr (L := M.length + 1) (j := M.length) (o := o) (tg := tg) (s := placeOf M.length [q]) (by omega)
    rw [e] at this
    exact this
  · cases i with
    | zero =>
      simp at hb; subst hb
      refine ⟨b, by simpa using hq, rfl, rfl, rfl, fun i x y hx hy => ?_⟩
      rw [hx] at hy; cases hy
      exact RenV.bel (L0 := M.length) (fun j hj => by unfold placeOf; rw [if_pos hj]) (by simp) (hfl x (List.mem_of_getElem? hx))
    | succ i => simp at hb
section
variable (a : Option Addr) (n cp : Nat) (cd : Nat → Int)
theorem sfrom (M : Mem) : Alloc Try.prog 17 [.slice a n cp] M (.pointer (some ⟨M.length, 0, none⟩)) [srcB a n cp (0, 0)] := by
  refine ACalls.belC fun hM hA => ?_
  have hA0 := hA (.slice a n cp) (by simp) (.slice a n cp) (by simp [cellsA])
  refine alloc_of [0] Try.func17 Try.ntmps17 rfl rfl rfl (by decide) ?_
  simp only [envOf, Nat.zero_add, Nat.reduceAdd]
  repeat' (first | (refine d_AOs (h := ?_) ; first | refine o_move (h := ?_) | refine o_assign (h := ?_) | refine AOs.nil (h := ?_)  | refine o_at (h := ?_) | refine o_box (h := ?_) | refine o_build (h := ?_) ) | (refine d_AW (h := ?_) ; first | refine AW.seq (h := ?_) | refine AW.region (h := ?_) | (refine AW.cond (ht := (fun hc => ?_)) (hf := (fun hc => ?_)) <;> (try (with_reducible first | exact absurd hc Bool.false_ne_true | exact absurd hc.symm Bool.false_ne_true)) <;> (try simp only [decide_eq_true_eq, decide_eq_false_iff_not, Int.ofNat_inj, Bool.not_eq_true', Bool.not_eq_false', Int.not_lt, Int.not_le] at hc) <;> (try (exfalso; omega)) <;> (try (exact absurd hc (by decide)))) | refine AW.block (h := ?_) | refine AW.ret (h := ?_) | refine AW.skip (h := ?_) | refine AW.exit (h := ?_) ) | (first | refine t_normal ?_ | refine t_ret ?_ | refine t_exit ?_ | refine b_normal ?_ | refine b_exit ?_ | refine b_exit' (by decide) ?_ | refine b_ret ?_) | (refine d_post (h := ?_) ; first | refine p_ret1 rfl (h := ?_) | refine p_end1 rfl (h := ?_) | refine p_cell1 rfl (h := ?_) ))
  refine p_allocP rfl (by rfl) (by rfl) rfl rfl fun c hc => ?_
  simp only [List.mem_cons, List.not_mem_nil, or_false] at hc
  rcases hc with rfl | rfl | rfl
  · exact hA0
  · exact Bel.flat (Flat.int _ _)
  · exact Bel.flat (Flat.int _ _)
theorem lf6big (M : Mem) (hn : n ≤ 9223372036854775807) : Pure Try.prog 4 [.slice a n cp] M (.bool (decide ((4096 : Int) < n))) := by
  refine pure_of Try.func4 Try.ntmps4 rfl rfl (by repeat' (first | exact Flat.bool _ | exact Flat.int _ _ | exact Flat.float _ _ | exact Flat.string _ | exact flat_nil | exact flat_tabL (fun _ => Flat.bool _) | exact flat_tabL (fun _ => Flat.int _ _) | exact flat_tabL (fun _ => Flat.float _ _) | refine flat_tuple ?_ | refine flat_agg ?_ | refine flat_cons ?_ ?_ | refine flat_append ?_ ?_)) ?_
  simp only [envOf, Nat.zero_add, Nat.reduceAdd]
  repeat' (first | (refine d_AOs (h := ?_) ; first | refine o_move (h := ?_) | refine o_assign (h := ?_) | refine AOs.nil (h := ?_) | (refine d_bin (h := ?_) ; first | refine o_gtr (h := ?_) )  | refine o_at (h := ?_) | refine o_len (h := ?_) | refine o_lenS (h := ?_) ) | (refine d_AW (h := ?_) ; first | refine AW.seq (h := ?_) | refine AW.region (h := ?_) | (refine AW.cond (ht := (fun hc => ?_)) (hf := (fun hc => ?_)) <;> (try (with_reducible first | exact absurd hc Bool.false_ne_true | exact absurd hc.symm Bool.false_ne_true)) <;> (try simp only [decide_eq_true_eq, decide_eq_false_iff_not, Int.ofNat_inj, Bool.not_eq_true', Bool.not_eq_false', Int.not_lt, Int.not_le] at hc) <;> (try (exfalso; omega)) <;> (try (exact absurd hc (by decide)))) | refine AW.block (h := ?_) | refine AW.ret (h := ?_) | refine AW.skip (h := ?_) | refine AW.exit (h := ?_) ) | (first | refine t_normal ?_ | refine t_ret ?_ | refine t_exit ?_ | refine b_normal ?_ | refine b_exit ?_ | refine b_exit' (by decide) ?_ | refine b_ret ?_) | (refine d_post (h := ?_) ; first | refine p_ret1 rfl (h := ?_) | refine p_end1 rfl (h := ?_) | refine p_cell1 rfl (h := ?_) ))
  all_goals rfl

/-! ### Movements -/
end
end Go.Proofs.Ytjghdagcmombnaa
