/- A text that is cut, and numbers that are counted, by the reference. -/
import Derived.Test.YtgdpcomemkimhaaGreatDoorSz
import Derived.Test.YtgdpcomemkimhaaGreatDoorRn
import Derived.Test.YtgdpcomemkimhaaGreatDoorRw
import Derived.Test.YtgdpcomemkimhaaGreatDoorJn

namespace Go.Proofs.YtgdpcomemkimhaaGreatDoor
open Go.RowKit
attribute [local irreducible] AW AOs AO AQ AQW thenA inBlockA postA ACalls Pure
set_option linter.unusedSimpArgs false
set_option linter.unusedVariables false
set_option linter.unusedSectionVars false

theorem next_W {M T G : Mem} {m : Mem} (h : m = M ++ (T ++ G)) : m = (M ++ T) ++ G := by rw [h, List.append_assoc]
theorem closedW {M : Mem} (hM : Closed M.length M) {b1 : Blk} (h1 : ∀ x ∈ b1.cells, Flat x) : Closed (M ++ [b1]).length (M ++ [b1]) := by
  refine Closed.append (hM.mono (by simp)) fun x hx y hy => Bel.flat ?_
  simp only [List.mem_cons, List.not_mem_nil, or_false] at hx
  rcases hx with rfl
  exact h1 y hy
theorem tab_snoc3 {n : Nat} {f : Nat → Value} : tab (n + 1) f = tab n f ++ [f n] := by simp [tab, List.range_succ]
end Go.Proofs.YtgdpcomemkimhaaGreatDoor

/- Lists of numbers that are read: the program's and the reference's. -/
namespace Go.Proofs.YtgdpcomemkimhaaGreatDoor
open Go.RowKit
attribute [local irreducible] AW AOs AO AQ AQW thenA inBlockA postA ACalls Pure
set_option linter.unusedSimpArgs false
set_option linter.unusedVariables false
set_option linter.unusedSectionVars false

/-- A list of numbers. -/
abbrev nuL (r : Nat → Nat) (n : Nat) : Blk := ⟨tab n fun q => .float .f32 (r q), some n, true⟩
theorem nuL_snoc (r : Nat → Nat) (n : Nat) : nuL r (n + 1) = ⟨(tab n fun q => Value.float .f32 (r q)) ++ [Value.float .f32 (r n)], some (n + 1), true⟩ := by
  show (⟨tab (n + 1) _, _, _⟩ : Blk) = _
  rw [tab_snoc3]
section
variable (W : List (List UInt8)) (o n cp j : Nat) (tg : Option Nat) (rw' : Bool) (M : Mem) (hn : o + n = W.length) (hl : W.length ≤ 1048577) (hw : ∀ q, (W.getD q []).length ≤ 1048576) (hj : M[j]? = some ⟨tab W.length fun q => strV (W.getD q []), tg, rw'⟩)
include hn hl hw hj
set_option maxHeartbeats 4000000 in
theorem inumbersOf (r : Nat → Nat) (hr : ∀ q, r q = rnV (W.getD (o + q) [])) :
    Alloc Tryz.prog 56 [.slice (some ⟨j, o, tg⟩) n cp] M (.slice (some ⟨M.length, 0, some n⟩) n n) [nuL r n] := by
  refine Alloc.closed fun hM => ?_
  refine alloc_of [0] Tryz.func56 Tryz.ntmps56 rfl rfl rfl (by decide) ?_
  have hjl := (List.getElem?_eq_some_iff.1 hj).1
  simp only [envOf, Nat.zero_add, Nat.reduceAdd]
  repeat' (first | (refine d_AOs (h := ?_) ; first | refine o_move (h := ?_) | refine o_assign (h := ?_) | refine AOs.nil (h := ?_) | (refine d_bin (h := ?_) ; first | refine o_addS (h := ?_) | refine o_add (h := ?_) | refine o_lss (h := ?_) )  | refine o_load (h := ?_) | refine o_at (h := ?_) | refine o_len (h := ?_) | refine o_lenS (h := ?_) | refine o_ixS (h := ?_) | refine o_buildS0 (h := ?_) | refine o_buildS (h := ?_) | refine o_app (h := ?_) | refine o_appN (h := ?_) | refine o_app0 (h := ?_) | refine o_ix (h := ?_) | refine o_extract (h := ?_) ) | (refine d_AW (h := ?_) ; first | refine AW.seq (h := ?_) | refine AW.region (h := ?_) | (refine AW.cond (ht := (fun hc => ?_)) (hf := (fun hc => ?_)) <;> (try (with_reducible first | exact absurd hc Bool.false_ne_true | exact absurd hc.symm Bool.false_ne_true)) <;> (try simp only [decide_eq_true_eq, decide_eq_false_iff_not, Int.ofNat_inj, Bool.not_eq_true', Bool.not_eq_false', Int.not_lt, Int.not_le] at hc) <;> (try (exfalso; omega)) <;> (try (exact absurd hc (by decide)))) | refine AW.block (h := ?_) | refine AW.ret (h := ?_) | refine AW.skip (h := ?_) | refine AW.exit (h := ?_) ) | (first | refine t_normal ?_ | refine t_ret ?_ | refine t_exit ?_ | refine b_normal ?_ | refine b_exit ?_ | refine b_exit' (by decide) ?_ | refine b_ret ?_) | (refine d_post (h := ?_) ; first | refine p_ret1 rfl (h := ?_) | refine p_end1 rfl (h := ?_) | refine p_cell1 rfl (h := ?_) ))
  refine AW.loopG [3, 9, 10, 11] (fun k st => ∃ i : Nat, i + k = n ∧ st = ⟨26, [(3, .slice (some ⟨M.length, 0, some i⟩) i i), (9, .slice (some ⟨j, o, tg⟩) n cp), (10, .int .i64 (n : Int)), (11, .int .i64 (i : Int))], M ++ [nuL r i]⟩) n ⟨0, by omega, rfl⟩ ?_
  rintro k st ⟨i, hi, rfl⟩
  by_cases hin : i < n
  · have hld2 : ldA .one (o + i) (tab W.length fun q => strV (W.getD q [])) = some (strV (W.getD (o + i) [])) := ld_tab (by omega) rfl
    have hN := fun M' => iReadNumber (W.getD (o + i) []) (Nat.le_trans (hw (o + i)) (by omega)) M'
    rw [← hr] at hN
    have hsn := nuL_snoc r i
    clear hr hw
    generalize W.getD (o + i) [] = w at *
    generalize r i = v at *
    repeat' (first | (refine d_AOs (h := ?_) ; first | refine o_move (h := ?_) | refine o_assign (h := ?_) | refine AOs.nil (h := ?_) | (refine d_bin (h := ?_) ; first | refine o_addS (h := ?_) | refine o_add (h := ?_) | refine o_lss (h := ?_) )  | refine o_ixS (ho := by simp) (h := ?_) | refine o_load (hv := hld2) (h := ?_) | refine o_call (hc := (hN _)) (h := ?_) | refine o_buildS (cs := [.float .f32 v]) (hf := by rfl) (h := ?_) | refine o_app (hlc := by rw [tab_len]; omega) (h := ?_) | refine o_load (h := ?_) | refine o_at (h := ?_) | refine o_len (h := ?_) | refine o_lenS (h := ?_) | refine o_ixS (h := ?_) | refine o_buildS0 (h := ?_) | refine o_buildS (h := ?_) | refine o_app (h := ?_) | refine o_appN (h := ?_) | refine o_app0 (h := ?_) | refine o_ix (h := ?_) | refine o_extract (h := ?_) ) | (refine d_AW (h := ?_) ; first | refine AW.seq (h := ?_) | refine AW.region (h := ?_) | (refine AW.cond (ht := (fun hc => ?_)) (hf := (fun hc => ?_)) <;> (try (with_reducible first | exact absurd hc Bool.false_ne_true | exact absurd hc.symm Bool.false_ne_true)) <;> (try simp only [decide_eq_true_eq, decide_eq_false_iff_not, Int.ofNat_inj, Bool.not_eq_true', Bool.not_eq_false', Int.not_lt, Int.not_le] at hc) <;> (try (exfalso; omega)) <;> (try (exact absurd hc (by decide)))) | refine AW.block (h := ?_) | refine AW.ret (h := ?_) | refine AW.skip (h := ?_) | refine AW.exit (h := ?_) ) | (first | refine t_normal ?_ | refine t_ret ?_ | refine t_exit ?_ | refine b_normal ?_ | refine b_exit ?_ | refine b_exit' (by decide) ?_ | refine b_ret ?_) | (refine d_post (h := ?_) ; first | refine p_ret1 rfl (h := ?_) | refine p_end1 rfl (h := ?_) | refine p_cell1 rfl (h := ?_) ))
    all_goals first | (exfalso; simp at hc; done) | exact ⟨k - 1, M ++ [nuL r (i + 1)], [⟨[.float .f32 v], none, true⟩], by omega, next_W (T := [nuL r (i + 1)]) (G := [⟨[.float .f32 v], none, true⟩]) (by rw [hsn]; rfl), by simp, closedW hM (by repeat' (first | exact Flat.bool _ | exact Flat.int _ _ | exact Flat.float _ _ | exact Flat.string _ | exact flat_nil | exact flat_tabL (fun _ => Flat.bool _) | exact flat_tabL (fun _ => Flat.int _ _) | exact flat_tabL (fun _ => Flat.float _ _) | refine flat_tuple ?_ | refine flat_agg ?_ | refine flat_cons ?_ ?_ | refine flat_append ?_ ?_)), (by repeat' (first | exact True.intro | refine And.intro ?_ ?_ | exact Bel.flat (Flat.int _ _) | exact Bel.flat (Flat.bool _) | exact Bel.flat (Flat.float _ _) | exact Bel.flat (Flat.string _) | exact Bel.flat (flat_agg (flat_tabL (fun _ => Flat.float _ _))) | refine Bel.sl ?_ | refine Bel.ptr ?_ | (first | assumption | omega | exact (List.getElem?_eq_some_iff.1 (by assumption)).1 | (simp only [List.length_append, List.length_cons, List.length_nil]; omega)))), i + 1, by omega, rfl⟩
  · obtain rfl : i = n := by omega
    repeat' (first | (refine d_AOs (h := ?_) ; first | refine o_move (h := ?_) | refine o_assign (h := ?_) | refine AOs.nil (h := ?_) | (refine d_bin (h := ?_) ; first | refine o_addS (h := ?_) | refine o_add (h := ?_) | refine o_lss (h := ?_) )  | refine o_load (h := ?_) | refine o_at (h := ?_) | refine o_len (h := ?_) | refine o_lenS (h := ?_) | refine o_ixS (h := ?_) | refine o_buildS0 (h := ?_) | refine o_buildS (h := ?_) | refine o_app (h := ?_) | refine o_appN (h := ?_) | refine o_app0 (h := ?_) | refine o_ix (h := ?_) | refine o_extract (h := ?_) ) | (refine d_AW (h := ?_) ; first | refine AW.seq (h := ?_) | refine AW.region (h := ?_) | (refine AW.cond (ht := (fun hc => ?_)) (hf := (fun hc => ?_)) <;> (try (with_reducible first | exact absurd hc Bool.false_ne_true | exact absurd hc.symm Bool.false_ne_true)) <;> (try simp only [decide_eq_true_eq, decide_eq_false_iff_not, Int.ofNat_inj, Bool.not_eq_true', Bool.not_eq_false', Int.not_lt, Int.not_le] at hc) <;> (try (exfalso; omega)) <;> (try (exact absurd hc (by decide)))) | refine AW.block (h := ?_) | refine AW.ret (h := ?_) | refine AW.skip (h := ?_) | refine AW.exit (h := ?_) ) | (first | refine t_normal ?_ | refine t_ret ?_ | refine t_exit ?_ | refine b_normal ?_ | refine b_exit ?_ | refine b_exit' (by decide) ?_ | refine b_ret ?_) | (refine d_post (h := ?_) ; first | refine p_ret1 rfl (h := ?_) | refine p_end1 rfl (h := ?_) | refine p_cell1 rfl (h := ?_) ))
    all_goals first | (exfalso; simp at hc; done) | refine p_allocS rfl (by rfl) (by rfl) rfl rfl (by repeat' (first | exact Flat.bool _ | exact Flat.int _ _ | exact Flat.float _ _ | exact Flat.string _ | exact flat_nil | exact flat_tabL (fun _ => Flat.bool _) | exact flat_tabL (fun _ => Flat.int _ _) | exact flat_tabL (fun _ => Flat.float _ _) | refine flat_tuple ?_ | refine flat_agg ?_ | refine flat_cons ?_ ?_ | refine flat_append ?_ ?_))
end
end Go.Proofs.YtgdpcomemkimhaaGreatDoor

/- Numbers, phases and movements that are drawn from bytes. -/
namespace Go.Proofs.YtgdpcomemkimhaaGreatDoor
open Go.RowKit
attribute [local irreducible] AW AOs AO AQ AQW thenA inBlockA postA ACalls Pure
set_option linter.unusedSimpArgs false
set_option linter.unusedVariables false
set_option linter.unusedSectionVars false

/-- The source of choices: how many bytes are read, and the seed. -/
abbrev DS := Nat × Int
def byteAt (n : Nat) (cd : Nat → Int) (i : Nat) : Int := if i < n then cd i else 0
def nxS (n : Nat) (cd : Nat → Int) (s : DS) : DS := (s.1 + 1, IntKind.u64.wrap (IntKind.u64.wrap (IntKind.u64.wrap (s.2 * 6364136223846793005) + byteAt n cd s.1) + 1442695040888963407))
def nxV (n : Nat) (cd : Nat → Int) (s : DS) : Int := if s.1 + 1 ≤ n then byteAt n cd s.1 else bits .and .u64 ((nxS n cd s).2.fdiv (2 ^ min (40 : Int).toNat IntKind.u64.bits)) 255
def pkV (n : Nat) (cd : Nat → Int) (s : DS) (m : Int) : Int := if m ≤ 1 then 0 else nxV n cd s % m
def pkS (n : Nat) (cd : Nat → Int) (s : DS) (m : Int) : DS := if m ≤ 1 then s else nxS n cd s
theorem and255 (x : Int) : 0 ≤ bits .and .u64 x 255 ∧ bits .and .u64 x 255 ≤ 255 := by
  have e : bits .and .u64 x 255 = IntKind.u64.wrap ((BitVec.ofInt 64 x &&& BitVec.ofInt 64 255).toNat : Int) := rfl
  have h : (BitVec.ofInt 64 x &&& BitVec.ofInt 64 255).toNat ≤ 255 := by
    rw [BitVec.toNat_and]
    exact Nat.and_le_right
  rw [e, wrap_fits (k := .u64) ⟨by omega, by omega⟩]
  omega
theorem and255w (x : Int) : IntKind.i64.wrap (bits .and .u64 x 255) = bits .and .u64 x 255 := by
  have h := and255 x
  exact wrap_fits (k := .i64) ⟨by omega, by omega⟩
theorem nxV_bd {n : Nat} {cd : Nat → Int} (hcd : ∀ q, 0 ≤ cd q ∧ cd q ≤ 255) (s : DS) : 0 ≤ nxV n cd s ∧ nxV n cd s ≤ 255 := by
  unfold nxV
  split
  · unfold byteAt
    split
    · exact hcd _
    · exact ⟨by decide, by decide⟩
  · exact and255 _
theorem pkV_bd {n : Nat} {cd : Nat → Int} (s : DS) {m : Int} (hm : 1 ≤ m) : 0 ≤ pkV n cd s m ∧ pkV n cd s m < m := by
  unfold pkV
  split
  · omega
  · exact ⟨Int.emod_nonneg _ (by omega), Int.emod_lt_of_pos _ (by omega)⟩
theorem pkS_at (n : Nat) (cd : Nat → Int) (s : DS) (m : Int) : (pkS n cd s m).1 ≤ s.1 + 1 := by
  unfold pkS
  split
  · omega
  · exact Nat.le_refl _

abbrev srcB (a : Option Addr) (n cp : Nat) (s : DS) : Blk := ⟨[.slice a n cp, .int .i64 (s.1 : Int), .int .u64 s.2], none, true⟩
theorem src_same {M : Mem} {a : Option Addr} {n cp j : Nat} {s : DS} {cd : Nat → Int} {B : Blk} (hb : M[j]? = some (srcB a n cp s)) (hS : SlAt M a n (tab n fun q => .int .u8 (cd q))) : SlAt (M.set j B) a n (tab n fun q => .int .u8 (cd q)) := fun hn => by
  obtain ⟨b, tg, rw', ha, hbb⟩ := hS hn
  refine ⟨b, tg, rw', ha, ?_⟩
  rw [List.getElem?_set]
  by_cases e : j = b
  · subst e
    rw [hb] at hbb
    obtain ⟨m, rfl⟩ : ∃ m, n = m + 1 := ⟨n - 1, by omega⟩
    simp [tab, List.range_succ_eq_map] at hbb
  · rw [if_neg e]; exact hbb
theorem src_closed {M : Mem} {a : Option Addr} {n cp j : Nat} {s s' : DS} (hb : M[j]? = some (srcB a n cp s)) (hM : Closed M.length M) : Closed (M.set j (srcB a n cp s')).length (M.set j (srcB a n cp s')) := by
  rw [List.length_set]
  intro x hx c hc
  rcases List.mem_or_eq_of_mem_set hx with hx | rfl
  · exact hM x hx c hc
  · simp only [List.mem_cons, List.not_mem_nil, or_false] at hc
    rcases hc with rfl | rfl | rfl
    · exact hM _ (List.mem_of_getElem? hb) _ (by simp)
    · exact Bel.flat (Flat.int _ _)
    · exact Bel.flat (Flat.int _ _)

section
variable (a : Option Addr) (n cp : Nat) (cd : Nat → Int)
set_option maxHeartbeats 2000000 in
theorem snext (hcd : ∀ q, 0 ≤ cd q ∧ cd q ≤ 255) (hn : n ≤ 1048576) (s : DS) (j : Nat) (M : Mem) (hat : s.1 ≤ 1000000) (hb : M[j]? = some (srcB a n cp s)) (hS : SlAt M a n (tab n fun q => .int .u8 (cd q))) :
    Mut Tryz.prog 109 [.pointer (some ⟨j, 0, none⟩)] M (.int .i64 (nxV n cd s)) (M.set j (srcB a n cp (nxS n cd s))) := by
  refine mut_of Tryz.func109 Tryz.ntmps109 rfl rfl (by rw [List.length_set]; exact Nat.le_refl _) (by repeat' (first | exact Flat.bool _ | exact Flat.int _ _ | exact Flat.float _ _ | exact Flat.string _ | exact flat_nil | exact flat_tabL (fun _ => Flat.bool _) | exact flat_tabL (fun _ => Flat.int _ _) | exact flat_tabL (fun _ => Flat.float _ _) | refine flat_tuple ?_ | refine flat_agg ?_ | refine flat_cons ?_ ?_ | refine flat_append ?_ ?_)) (src_closed hb) ?_
  have hjl := (List.getElem?_eq_some_iff.1 hb).1
  by_cases h1 : s.1 < n
  · obtain ⟨b, tg, rw', rfl, hbb⟩ := hS (by omega)
    have hc1 := hcd s.1
    have e1 : byteAt n cd s.1 = cd s.1 := if_pos h1
    have e2 : nxV n cd s = cd s.1 := by unfold nxV; rw [if_pos (by omega), e1]
    rw [e2]
    unfold nxS
    rw [e1]
    simp only [envOf, Nat.zero_add, Nat.reduceAdd]
    repeat' (first | (refine d_AOs (h := ?_) ; first | refine o_move (h := ?_) | refine o_assign (h := ?_) | refine AOs.nil (h := ?_) | (refine d_bin (h := ?_) ; first | refine o_addS (h := ?_) | refine o_add (h := ?_) | refine o_lss (h := ?_) | refine o_leq (h := ?_) | refine o_mulS (h := ?_) | refine o_mul (h := ?_) | refine o_shr (h := ?_) | refine o_bits (h := ?_) )  | refine o_load (h := ?_) | refine o_at (h := ?_) | refine o_field (h := ?_) | refine o_nil (h := ?_) | refine o_len (h := ?_) | refine o_lenS (h := ?_) | refine o_ixS (h := ?_) | refine o_store (h := ?_) | refine o_ix (h := ?_) | refine o_convS (h := ?_) | refine o_conv (h := ?_) | refine o_fconv (h := ?_) | refine o_fofInt (h := ?_) ) | (refine d_AW (h := ?_) ; first | refine AW.seq (h := ?_) | refine AW.region (h := ?_) | refine AW.open5 (h1 := ?_) (h2 := ?_) (h3 := ?_) | refine AW.open_ (h := ?_) | (refine AW.cond (ht := (fun hc => ?_)) (hf := (fun hc => ?_)) <;> (try (with_reducible first | exact absurd hc Bool.false_ne_true | exact absurd hc.symm Bool.false_ne_true)) <;> (try simp only [decide_eq_true_eq, decide_eq_false_iff_not, Int.ofNat_inj, Bool.not_eq_true', Bool.not_eq_false', Int.not_lt, Int.not_le] at hc) <;> (try (exfalso; omega)) <;> (try (exact absurd hc (by decide)))) | refine AW.block (h := ?_) | refine AW.ret (h := ?_) | refine AW.skip (h := ?_) | refine AW.exit (h := ?_) ) | (first | refine t_normal ?_ | refine t_ret ?_ | refine t_exit ?_ | refine b_normal ?_ | refine b_exit ?_ | refine b_exit' (by decide) ?_ | refine b_ret ?_) | (refine d_AQ (h := ?_) ; first | refine q_nil (h := ?_) | refine q_switchB (h2 := ?_) | refine q_step (h2 := ?_) | refine q_yes (h2 := ?_) | refine q_no (h2 := ?_) | refine q_undef (h2 := ?_) | (refine q_true (h2 := (fun hg => ?_)) (h0 := (fun hg => ?_)) <;> (try rw [hg]) <;> (try simp only [decide_eq_true_eq, decide_eq_false_iff_not, Int.ofNat_inj, Bool.not_eq_true', Bool.not_eq_false', Int.not_lt, Int.not_le] at hg) <;> (try (exfalso; omega)) <;> (try (exact absurd hg (by decide)))) | (refine q_false (h2 := (fun hg => ?_)) (h0 := (fun hg => ?_)) <;> (try rw [hg]) <;> (try simp only [decide_eq_true_eq, decide_eq_false_iff_not, Int.ofNat_inj, Bool.not_eq_true', Bool.not_eq_false', Int.not_lt, Int.not_le] at hg) <;> (try (exfalso; omega)) <;> (try (exact absurd hg (by decide)))) | refine q_switch (h2 := ?_)) | (refine d_post (h := ?_) ; first | refine p_ret1 rfl (h := ?_) | refine p_end1 rfl (h := ?_) | refine p_cell1 rfl (h := ?_) ))
    all_goals rfl
  · have e1 : byteAt n cd s.1 = 0 := if_neg h1
    have e2 : nxV n cd s = bits .and .u64 ((nxS n cd s).2.fdiv (2 ^ min (40 : Int).toNat IntKind.u64.bits)) 255 := by unfold nxV; rw [if_neg (by omega)]
    rw [e2]
    unfold nxS
    rw [e1]
    simp only [envOf, Nat.zero_add, Nat.reduceAdd]
    repeat' (first | (refine d_AOs (h := ?_) ; first | refine o_move (h := ?_) | refine o_assign (h := ?_) | refine AOs.nil (h := ?_) | (refine d_bin (h := ?_) ; first | refine o_addS (h := ?_) | refine o_add (h := ?_) | refine o_lss (h := ?_) | refine o_leq (h := ?_) | refine o_mulS (h := ?_) | refine o_mul (h := ?_) | refine o_shr (h := ?_) | refine o_bits (h := ?_) )  | refine o_load (h := ?_) | refine o_at (h := ?_) | refine o_field (h := ?_) | refine o_nil (h := ?_) | refine o_len (h := ?_) | refine o_lenS (h := ?_) | refine o_ixS (h := ?_) | refine o_store (h := ?_) | refine o_ix (h := ?_) | refine o_convS (h := ?_) | refine o_conv (h := ?_) | refine o_fconv (h := ?_) | refine o_fofInt (h := ?_) ) | (refine d_AW (h := ?_) ; first | refine AW.seq (h := ?_) | refine AW.region (h := ?_) | refine AW.open5 (h1 := ?_) (h2 := ?_) (h3 := ?_) | refine AW.open_ (h := ?_) | (refine AW.cond (ht := (fun hc => ?_)) (hf := (fun hc => ?_)) <;> (try (with_reducible first | exact absurd hc Bool.false_ne_true | exact absurd hc.symm Bool.false_ne_true)) <;> (try simp only [decide_eq_true_eq, decide_eq_false_iff_not, Int.ofNat_inj, Bool.not_eq_true', Bool.not_eq_false', Int.not_lt, Int.not_le] at hc) <;> (try (exfalso; omega)) <;> (try (exact absurd hc (by decide)))) | refine AW.block (h := ?_) | refine AW.ret (h := ?_) | refine AW.skip (h := ?_) | refine AW.exit (h := ?_) ) | (first | refine t_normal ?_ | refine t_ret ?_ | refine t_exit ?_ | refine b_normal ?_ | refine b_exit ?_ | refine b_exit' (by decide) ?_ | refine b_ret ?_) | (refine d_AQ (h := ?_) ; first | refine q_nil (h := ?_) | refine q_switchB (h2 := ?_) | refine q_step (h2 := ?_) | refine q_yes (h2 := ?_) | refine q_no (h2 := ?_) | refine q_undef (h2 := ?_) | (refine q_true (h2 := (fun hg => ?_)) (h0 := (fun hg => ?_)) <;> (try rw [hg]) <;> (try simp only [decide_eq_true_eq, decide_eq_false_iff_not, Int.ofNat_inj, Bool.not_eq_true', Bool.not_eq_false', Int.not_lt, Int.not_le] at hg) <;> (try (exfalso; omega)) <;> (try (exact absurd hg (by decide)))) | (refine q_false (h2 := (fun hg => ?_)) (h0 := (fun hg => ?_)) <;> (try rw [hg]) <;> (try simp only [decide_eq_true_eq, decide_eq_false_iff_not, Int.ofNat_inj, Bool.not_eq_true', Bool.not_eq_false', Int.not_lt, Int.not_le] at hg) <;> (try (exfalso; omega)) <;> (try (exact absurd hg (by decide)))) | refine q_switch (h2 := ?_)) | (refine d_post (h := ?_) ; first | refine p_ret1 rfl (h := ?_) | refine p_end1 rfl (h := ?_) | refine p_cell1 rfl (h := ?_) ))
    all_goals first | rfl | (rw [and255w]; done) | (rw [and255w]; rfl)
theorem spick (hcd : ∀ q, 0 ≤ cd q ∧ cd q ≤ 255) (hn : n ≤ 1048576) (s : DS) (m : Int) (hm : m ≤ 200) (j : Nat) (M : Mem) (hat : s.1 ≤ 1000000) (hb : M[j]? = some (srcB a n cp s)) (hS : SlAt M a n (tab n fun q => .int .u8 (cd q))) :
    Mut Tryz.prog 65 [.pointer (some ⟨j, 0, none⟩), .int .i64 m] M (.int .i64 (pkV n cd s m)) (M.set j (srcB a n cp (pkS n cd s m))) := by
  refine mut_of Tryz.func65 Tryz.ntmps65 rfl rfl (by rw [List.length_set]; exact Nat.le_refl _) (by repeat' (first | exact Flat.bool _ | exact Flat.int _ _ | exact Flat.float _ _ | exact Flat.string _ | exact flat_nil | exact flat_tabL (fun _ => Flat.bool _) | exact flat_tabL (fun _ => Flat.int _ _) | exact flat_tabL (fun _ => Flat.float _ _) | refine flat_tuple ?_ | refine flat_agg ?_ | refine flat_cons ?_ ?_ | refine flat_append ?_ ?_)) (src_closed hb) ?_
  have hjl := (List.getElem?_eq_some_iff.1 hb).1
  unfold pkV pkS
  by_cases h1 : m ≤ 1
  · rw [if_pos h1, if_pos h1, set_same hb]
    simp only [envOf, Nat.zero_add, Nat.reduceAdd]
    repeat' (first | (refine d_AOs (h := ?_) ; first | refine o_move (h := ?_) | refine o_assign (h := ?_) | refine AOs.nil (h := ?_) | (refine d_bin (h := ?_) ; first | refine o_addS (h := ?_) | refine o_add (h := ?_) | refine o_leq (h := ?_) | refine o_gtr (h := ?_) | refine o_mulS (h := ?_) | refine o_mul (h := ?_) | refine o_remS (h := ?_) | refine o_rem (h := ?_) )  | refine o_at (h := ?_) ) | (refine d_AW (h := ?_) ; first | refine AW.seq (h := ?_) | refine AW.region (h := ?_) | (refine AW.cond (ht := (fun hc => ?_)) (hf := (fun hc => ?_)) <;> (try (with_reducible first | exact absurd hc Bool.false_ne_true | exact absurd hc.symm Bool.false_ne_true)) <;> (try simp only [decide_eq_true_eq, decide_eq_false_iff_not, Int.ofNat_inj, Bool.not_eq_true', Bool.not_eq_false', Int.not_lt, Int.not_le] at hc) <;> (try (exfalso; omega)) <;> (try (exact absurd hc (by decide)))) | refine AW.block (h := ?_) | refine AW.ret (h := ?_) | refine AW.skip (h := ?_) | refine AW.exit (h := ?_) ) | (first | refine t_normal ?_ | refine t_ret ?_ | refine t_exit ?_ | refine b_normal ?_ | refine b_exit ?_ | refine b_exit' (by decide) ?_ | refine b_ret ?_) | (refine d_post (h := ?_) ; first | refine p_ret1 rfl (h := ?_) | refine p_end1 rfl (h := ?_) | refine p_cell1 rfl (h := ?_) ))
    all_goals rfl
  · rw [if_neg h1, if_neg h1]
    have hnx := snext a n cp cd hcd hn s j M hat hb hS
    have hbd := nxV_bd hcd s (n := n)
    simp only [envOf, Nat.zero_add, Nat.reduceAdd]
    repeat' (first | (refine d_AOs (h := ?_) ; first | refine o_move (h := ?_) | refine o_assign (h := ?_) | refine AOs.nil (h := ?_) | (refine d_bin (h := ?_) ; first | refine o_addS (h := ?_) | refine o_add (h := ?_) | refine o_leq (h := ?_) | refine o_gtr (h := ?_) | refine o_mulS (h := ?_) | refine o_mul (h := ?_) | refine o_remS (h := ?_) | refine o_rem (h := ?_) )  | refine o_callM (hc := hnx) (h := ?_) | refine o_at (h := ?_) ) | (refine d_AW (h := ?_) ; first | refine AW.seq (h := ?_) | refine AW.region (h := ?_) | (refine AW.cond (ht := (fun hc => ?_)) (hf := (fun hc => ?_)) <;> (try (with_reducible first | exact absurd hc Bool.false_ne_true | exact absurd hc.symm Bool.false_ne_true)) <;> (try simp only [decide_eq_true_eq, decide_eq_false_iff_not, Int.ofNat_inj, Bool.not_eq_true', Bool.not_eq_false', Int.not_lt, Int.not_le] at hc) <;> (try (exfalso; omega)) <;> (try (exact absurd hc (by decide)))) | refine AW.block (h := ?_) | refine AW.ret (h := ?_) | refine AW.skip (h := ?_) | refine AW.exit (h := ?_) ) | (first | refine t_normal ?_ | refine t_ret ?_ | refine t_exit ?_ | refine b_normal ?_ | refine b_exit ?_ | refine b_exit' (by decide) ?_ | refine b_ret ?_) | (refine d_post (h := ?_) ; first | refine p_ret1 rfl (h := ?_) | refine p_end1 rfl (h := ?_) | refine p_cell1 rfl (h := ?_) ))
    all_goals rfl
/-! ### Phases -/
end
end Go.Proofs.YtgdpcomemkimhaaGreatDoor

/- What is drawn: movements, a phase, a number. -/
namespace Go.Proofs.YtgdpcomemkimhaaGreatDoor
open Go.RowKit
attribute [local irreducible] AW AOs AO AQ AQW thenA inBlockA postA ACalls Pure
set_option linter.unusedSimpArgs false
set_option linter.unusedVariables false
set_option linter.unusedSectionVars false

theorem ACalls.belC {P : Program} {f : FuncId} {args : List Value} {M : Mem} {R : Value → Mem → Prop} (h : Closed M.length M → (∀ x ∈ args, ∀ c ∈ cellsA x, Bel M.length c) → ACalls P f args M R) : ACalls P f args M R := by
  unfold ACalls at h ⊢
  intro B0 w0 r w cargs hs hv
  refine h hs.closed (fun x hx c hc => ?_) B0 w0 r w cargs hs hv
  obtain ⟨i, hi⟩ := List.getElem?_of_mem hx
  have hil : i < cargs.length := by rw [← hv.1]; exact (List.getElem?_eq_some_iff.1 hi).1
  have hxy := hv.2 i x cargs[i] hi (by simp)
  by_cases ha : ∃ cs, x = .agg cs
  · obtain ⟨cs, rfl⟩ := ha
    obtain ⟨ys, _, hy⟩ := hxy.agg_inv
    obtain ⟨q, hq⟩ := List.getElem?_of_mem (show c ∈ cs.toList from hc)
    have hql : q < ys.length := by rw [← hy.1]; exact (List.getElem?_eq_some_iff.1 hq).1
    exact Bel.of_VR hs.dom_lt (hy.2 q c ys[q] hq (by simp))
  · have e : cellsA x = [x] := by cases x <;> first | rfl | (exact (ha ⟨_, rfl⟩).elim)
    rw [e] at hc
    obtain rfl := List.mem_singleton.1 hc
    exact Bel.of_VR hs.dom_lt hxy
/-- One new block, and the pointer to it. -/
theorem p_allocP {P : Program} {fn : Func} {n : Nat} {t : Env} {m M G : Mem} {k j q o : Nat} {tg : Option Nat} {b : Blk} (hr : fn.results = #[.tmp k]) (hv : look t k = .pointer (some ⟨j, o, tg⟩)) (hj : j = M.length + q) (hm : m = M ++ G) (hq : G[q]? = some b) (hfl : ∀ c ∈ b.cells, Bel M.length c) :
    postA P fn (RelA M [q] (.pointer (some ⟨M.length, o, tg⟩)) [b]) .ret ⟨n, t, m⟩ := by
  subst hm hj
  have e : placeOf M.length [q] M.length = M.length + q := by unfold placeOf; simp
  unfold postA
  refine ⟨.pointer (some ⟨M.length + q, o, tg⟩), res1 hr hv, G, rfl, ?_, fun i b' hb => ?_⟩
  · have := RenV.ptr (L := M.length + 1) (j := M.length) (o := o) (tg := tg) (s := placeOf M.length [q]) (by omega)
    rw [e] at this
    exact this
  · cases i with
    | zero =>
      simp at hb; subst hb
      refine ⟨b, by simpa using hq, rfl, rfl, rfl, fun i x y hx hy => ?_⟩
      rw [hx] at hy; cases hy
      exact RenV.bel (L0 := M.length) (fun j hj => by unfold placeOf; rw [if_pos hj]) (by simp) (hfl x (List.mem_of_getElem? hx))
    | succ i => simp at hb
section
variable (a : Option Addr) (n cp : Nat) (cd : Nat → Int)
theorem sfrom (M : Mem) : Alloc Tryz.prog 52 [.slice a n cp] M (.pointer (some ⟨M.length, 0, none⟩)) [srcB a n cp (0, 0)] := by
  refine ACalls.belC fun hM hA => ?_
  have hA0 := hA (.slice a n cp) (by simp) (.slice a n cp) (by simp [cellsA])
  refine alloc_of [0] Tryz.func52 Tryz.ntmps52 rfl rfl rfl (by decide) ?_
  simp only [envOf, Nat.zero_add, Nat.reduceAdd]
  repeat' (first | (refine d_AOs (h := ?_) ; first | refine o_move (h := ?_) | refine o_assign (h := ?_) | refine AOs.nil (h := ?_)  | refine o_at (h := ?_) | refine o_box (h := ?_) | refine o_build (h := ?_) ) | (refine d_AW (h := ?_) ; first | refine AW.seq (h := ?_) | refine AW.region (h := ?_) | (refine AW.cond (ht := (fun hc => ?_)) (hf := (fun hc => ?_)) <;> (try (with_reducible first | exact absurd hc Bool.false_ne_true | exact absurd hc.symm Bool.false_ne_true)) <;> (try simp only [decide_eq_true_eq, decide_eq_false_iff_not, Int.ofNat_inj, Bool.not_eq_true', Bool.not_eq_false', Int.not_lt, Int.not_le] at hc) <;> (try (exfalso; omega)) <;> (try (exact absurd hc (by decide)))) | refine AW.block (h := ?_) | refine AW.ret (h := ?_) | refine AW.skip (h := ?_) | refine AW.exit (h := ?_) ) | (first | refine t_normal ?_ | refine t_ret ?_ | refine t_exit ?_ | refine b_normal ?_ | refine b_exit ?_ | refine b_exit' (by decide) ?_ | refine b_ret ?_) | (refine d_post (h := ?_) ; first | refine p_ret1 rfl (h := ?_) | refine p_end1 rfl (h := ?_) | refine p_cell1 rfl (h := ?_) ))
  refine p_allocP rfl (by rfl) (by rfl) rfl rfl fun c hc => ?_
  simp only [List.mem_cons, List.not_mem_nil, or_false] at hc
  rcases hc with rfl | rfl | rfl
  · exact hA0
  · exact Bel.flat (Flat.int _ _)
  · exact Bel.flat (Flat.int _ _)
/-! ### Movements -/
end
end Go.Proofs.YtgdpcomemkimhaaGreatDoor
