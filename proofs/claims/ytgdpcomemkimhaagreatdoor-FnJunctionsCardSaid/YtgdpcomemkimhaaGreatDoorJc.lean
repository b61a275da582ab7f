/- Junctions that are made or changed: even ones, priorities. -/
import Derived.Test.YtgdpcomemkimhaaGreatDoorGf
import Derived.Test.YtgdpcomemkimhaaGreatDoorGa
import Derived.Test.YtgdpcomemkimhaaGreatDoorMd
import Derived.Test.YtgdpcomemkimhaaGreatDoorTab
import Derived.Test.YtgdpcomemkimhaaGreatDoorSlice

namespace Go.Proofs.YtgdpcomemkimhaaGreatDoor
open Go.RowKit
attribute [local irreducible] AW AOs AO AQ AQW thenA inBlockA postA ACalls Pure
set_option linter.unusedSimpArgs false
set_option linter.unusedVariables false
set_option linter.unusedSectionVars false

section
variable {P : Program} {ops l : List Oper} {K : St → Prop} {n : Nat} {t : Env} {m0 m1 : Mem} {d ty : Nat} {pos : String} {af : Array Edge} {op : Op} {p : Nat}
theorem w1_no {j g : Nat} {b x : Bool} (hj : (ops[j]?).bind (·.dst) = some g := by rfl) (hx : look t g = .bool x := by (conv => (lhs; whnf)); first | done | rfl) (hb : x = (!b) := by rfl) (hp : Nat.beq p (ops.length - (l.length + 1)) = false := by rfl) (hd : Nat.blt d n = true := by rfl)
    (h2 : AQW P ops (mem1 p m0 m1) n l K ((d, undef) :: t)) : AQW P ops (mem1 p m0 m1) n (⟨some d, op, ty, pos, af, some (j, b)⟩ :: l) K t := by
  have hw : wantA ops (⟨some d, op, ty, pos, af, some (j, b)⟩ : Oper) t = some false := by
    unfold wantA; subst hb; cases b <;> simp [hj, hx]
  unfold AQW
  simp only [hw]
  refine ⟨⟨hd, fun S => ?_⟩, h2⟩
  have hne : p ≠ ops.length - (l.length + 1) := fun e => by rw [e, Nat.beq_refl] at hp; cases hp
  unfold mem1 withI
  simp [hne]
end
/-- An even junction, as the program fills it. -/
def evp (o : Nat) : Nat → Nat → Nat
  | 0 => fun _ => 0
  | i + 1 => evIn o i o fun q => if q = 18 + i then 1065353216 else evp o i q
theorem evp_valid : ∀ n o : Fin 4, jnP ((n.val + 1 : Nat) : Int) ((o.val + 1 : Nat) : Int) (evp (o.val + 1) (n.val + 1)) := by decide +kernel
theorem evp_ok {n o : Nat} (hn : 1 ≤ n ∧ n ≤ 4) (ho : 1 ≤ o ∧ o ≤ 4) : jnP (n : Int) (o : Int) (evp o n) := by
  have h := evp_valid ⟨n - 1, by omega⟩ ⟨o - 1, by omega⟩
  simp only [show n - 1 + 1 = n by omega, show o - 1 + 1 = o by omega] at h
  exact h
set_option maxHeartbeats 8000000 in
theorem ieven (n o : Nat) (hn : 1 ≤ n ∧ n ≤ 4) (ho : 1 ≤ o ∧ o ≤ 4) (M : Mem) : Pure Tryz.prog 73 [.int .i64 (n : Int), .int .i64 (o : Int)] M (jnV (n : Int) (o : Int) (evp o n)) := by
  refine pure_of Tryz.func73 Tryz.ntmps73 rfl rfl (flat_agg jn_flat) ?_
  simp only [envOf, Nat.zero_add, Nat.reduceAdd]
  repeat' (first | (refine d_AOs (h := ?_) ; first | refine o_move (h := ?_) | refine AOs.nil (h := ?_) | refine o_build (cs := tab 22 (jnJ (n : Int) (o : Int) fun _ => 0)) (hf := by rfl) (h := ?_) | refine o_store (hw := by exact whole_tab (fun i => jn_one i)) (hcs := by exact st_all (by rfl)) (h := ?_) | refine o_alloc (h := ?_)) | (refine d_AW (h := ?_) ; first | refine AW.seq (h := ?_) | refine AW.region (h := ?_) | refine AW.block (h := ?_)) | (first | refine t_normal ?_))
  refine AW.loopN [1, 4, 5, 11, 12] (fun k st => ∃ i : Nat, i + k = n ∧ st = ⟨33, [(1, .int .i64 (o : Int)), (4, .pointer (some ⟨M.length, 0, none⟩)), (5, .pointer (some ⟨M.length + 1, 0, none⟩)), (11, .int .i64 (n : Int)), (12, .int .i64 (i : Int))], M ++ [⟨tab 22 (jnJ 0 0 fun _ => 0), none, true⟩, ⟨tab 22 (jnJ (n : Int) (o : Int) (evp o i)), none, true⟩]⟩) n ⟨0, by omega, rfl⟩ ?_
  rintro k st ⟨i, hi, rfl⟩
  by_cases hin : i < n
  · repeat' (first | (refine d_AOs (h := ?_) ; first | refine o_move (h := ?_) | refine o_assign (h := ?_) | refine AOs.nil (h := ?_) | (refine d_bin (h := ?_) ; first | refine o_lss (h := ?_)) | refine o_store (hcs := by exact jn_stQ (by omega) (by omega)) (h := ?_) | refine o_at (h := ?_) | refine o_field (h := ?_)) | (refine d_AW (h := ?_) ; first | refine AW.seq (h := ?_) | refine AW.region (h := ?_) | (refine AW.cond (ht := (fun hc => ?_)) (hf := (fun hc => ?_)) <;> (try (with_reducible first | exact absurd hc Bool.false_ne_true | exact absurd hc.symm Bool.false_ne_true)) <;> (try simp only [decide_eq_true_eq, decide_eq_false_iff_not, Int.ofNat_inj, Bool.not_eq_true', Bool.not_eq_false', Int.not_lt, Int.not_le] at hc) <;> (try (exfalso; omega)) <;> (try (exact absurd hc (by decide)))) | refine AW.block (h := ?_) | refine AW.skip (h := ?_)) | (first | refine t_normal ?_))
    refine AW.loopN [1, 4, 5, 6, 11, 12, 18, 19] (fun k st => ∃ q : Nat, q + k = o ∧ st = ⟨33, [(1, .int .i64 (o : Int)), (4, .pointer (some ⟨M.length, 0, none⟩)), (5, .pointer (some ⟨M.length + 1, 0, none⟩)), (6, .int .i64 (i : Int)), (11, .int .i64 (n : Int)), (12, .int .i64 (i : Int)), (18, .int .i64 (o : Int)), (19, .int .i64 (q : Int))], M ++ [⟨tab 22 (jnJ 0 0 fun _ => 0), none, true⟩, ⟨tab 22 (jnJ (n : Int) (o : Int) (evIn o i q fun q => if q = 18 + i then 1065353216 else evp o i q)), none, true⟩]⟩) o ⟨0, by omega, rfl⟩ ?_
    rintro k2 st ⟨q, hqk, rfl⟩
    by_cases hqn : q < o
    · repeat' (first | (refine d_AOs (h := ?_) ; first | refine o_move (h := ?_) | refine o_assign (h := ?_) | refine AOs.nil (h := ?_) | (refine d_bin (h := ?_) ; first | refine o_addS (h := ?_) | refine o_lss (h := ?_) | refine o_fdiv (h := ?_)) | refine o_store (hcs := by exact jn_stQ (by omega) (by omega)) (h := ?_) | refine o_at (h := ?_) | refine o_field (h := ?_) | refine o_fofInt (h := ?_)) | (refine d_AW (h := ?_) ; first | refine AW.seq (h := ?_) | refine AW.region (h := ?_) | (refine AW.cond (ht := (fun hc => ?_)) (hf := (fun hc => ?_)) <;> (try (with_reducible first | exact absurd hc Bool.false_ne_true | exact absurd hc.symm Bool.false_ne_true)) <;> (try simp only [decide_eq_true_eq, decide_eq_false_iff_not, Int.ofNat_inj, Bool.not_eq_true', Bool.not_eq_false', Int.not_lt, Int.not_le] at hc) <;> (try (exfalso; omega)) <;> (try (exact absurd hc (by decide)))) | refine AW.block (h := ?_) | refine AW.skip (h := ?_)) | (first | refine t_normal ?_ | refine b_normal ?_))
      all_goals exact ⟨k2 - 1, by omega, q + 1, by omega, rfl⟩
    · obtain rfl : q = o := by omega
      repeat' (first | (refine d_AOs (h := ?_) ; first | refine o_move (h := ?_) | refine AOs.nil (h := ?_) | (refine d_bin (h := ?_) ; first | refine o_addS (h := ?_) | refine o_lss (h := ?_))) | (refine d_AW (h := ?_) ; first | refine AW.seq (h := ?_) | refine AW.region (h := ?_) | (refine AW.cond (ht := (fun hc => ?_)) (hf := (fun hc => ?_)) <;> (try (with_reducible first | exact absurd hc Bool.false_ne_true | exact absurd hc.symm Bool.false_ne_true)) <;> (try simp only [decide_eq_true_eq, decide_eq_false_iff_not, Int.ofNat_inj, Bool.not_eq_true', Bool.not_eq_false', Int.not_lt, Int.not_le] at hc) <;> (try (exfalso; omega)) <;> (try (exact absurd hc (by decide)))) | refine AW.exit (h := ?_)) | (first | refine t_normal ?_ | refine t_exit ?_ | refine b_normal ?_ | refine b_exit ?_))
      all_goals exact ⟨k - 1, by omega, i + 1, by omega, rfl⟩
  · obtain rfl : i = n := by omega
    repeat' (first | (refine d_AOs (h := ?_) ; first | refine AOs.nil (h := ?_) | (refine d_bin (h := ?_) ; first | refine o_lss (h := ?_)) | refine o_store (hw := by exact whole_tab (fun i => jn_one i)) (hcs := by exact st_all (by rfl)) (h := ?_) | refine o_load (h := ?_)) | (refine d_AW (h := ?_) ; first | refine AW.seq (h := ?_) | refine AW.region (h := ?_) | (refine AW.cond (ht := (fun hc => ?_)) (hf := (fun hc => ?_)) <;> (try (with_reducible first | exact absurd hc Bool.false_ne_true | exact absurd hc.symm Bool.false_ne_true)) <;> (try simp only [decide_eq_true_eq, decide_eq_false_iff_not, Int.ofNat_inj, Bool.not_eq_true', Bool.not_eq_false', Int.not_lt, Int.not_le] at hc) <;> (try (exfalso; omega)) <;> (try (exact absurd hc (by decide)))) | refine AW.ret (h := ?_) | refine AW.exit (h := ?_)) | (first | refine t_normal ?_ | refine t_exit ?_ | refine b_exit ?_) | (refine d_post (h := ?_) ; first | refine p_cell1 rfl (h := ?_)))
    all_goals rfl
theorem iEvenJunction (n o : Nat) (hn : 1 ≤ n ∧ n ≤ 4) (ho : 1 ≤ o ∧ o ≤ 4) (M : Mem) : Pure Tryz.prog 16 [.int .i64 (n : Int), .int .i64 (o : Int)] M (.tuple [jnV (n : Int) (o : Int) (evp o n), .int .i64 0].toArray) := by
  refine pure_of Tryz.func16 Tryz.ntmps16 rfl rfl (flat_tuple (flat_cons (flat_agg jn_flat) (flat_cons (Flat.int _ _) flat_nil))) ?_
  have hA := fun M' => iisArms (n : Int) M'
  have hB := fun M' => iisArms (o : Int) M'
  rw [decide_eq_true (show 1 ≤ (n : Int) ∧ (n : Int) ≤ 4 by omega)] at hA
  rw [decide_eq_true (show 1 ≤ (o : Int) ∧ (o : Int) ≤ 4 by omega)] at hB
  have hE := fun M' => ieven n o hn ho M'
  generalize evp o n = g at *
  simp only [envOf, Nat.zero_add, Nat.reduceAdd]
  repeat' (first | (refine d_AOs (h := ?_) ; first | refine o_move (h := ?_) | refine o_assign (h := ?_) | refine AOs.nil (h := ?_) | (refine d_grd (h := ?_) ; first | refine g_yes (h := ?_)) | refine o_call (hc := (hA _)) (h := ?_) | refine o_call (hc := (hB _)) (h := ?_) | refine o_call (hc := (hE _)) (h := ?_) | refine o_store (hw := by exact whole_tab (fun i => jn_one i)) (hcs := by exact st_all (by rfl)) (h := ?_) | refine o_pick (h := ?_) | refine o_not (h := ?_) | refine o_alloc (h := ?_)) | (refine d_AW (h := ?_) ; first | refine AW.seq (h := ?_) | refine AW.region (h := ?_) | (refine AW.cond (ht := (fun hc => ?_)) (hf := (fun hc => ?_)) <;> (try (with_reducible first | exact absurd hc Bool.false_ne_true | exact absurd hc.symm Bool.false_ne_true)) <;> (try simp only [decide_eq_true_eq, decide_eq_false_iff_not, Int.ofNat_inj, Bool.not_eq_true', Bool.not_eq_false', Int.not_lt, Int.not_le] at hc) <;> (try (exfalso; omega)) <;> (try (exact absurd hc (by decide)))) | refine AW.ret (h := ?_) | refine AW.skip (h := ?_)) | (first | refine t_normal ?_) | (refine d_post (h := ?_) ; first | refine p_ret2 rfl (h := ?_)))
  all_goals first | rfl | (exfalso; simp at hc; done)
section
variable {a b : Int} {h : Nat → Nat}
theorem iorStateOk (hP : jnP a b h) (M : Mem) : Pure Tryz.prog 69 [jnV a b h] M (.tuple [jnV a b h, .int .i64 0].toArray) := by
  refine pure_of Tryz.func69 Tryz.ntmps69 rfl rfl (flat_tuple (flat_cons (flat_agg jn_flat) (flat_cons (Flat.int _ _) flat_nil))) ?_
  have hV := fun M' => iValidJunction a b h M'
  rw [decide_eq_true hP] at hV
  simp only [envOf, Nat.zero_add, Nat.reduceAdd]
  repeat' (first | (refine d_AOs (h := ?_) ; first | refine o_assign (h := ?_) | refine AOs.nil (h := ?_) | refine o_call (hc := (hV _)) (h := ?_) | refine o_store (hw := by exact whole_tab (fun i => jn_one i)) (hcs := by exact st_all (by rfl)) (h := ?_) | refine o_load (h := ?_) | refine o_not (h := ?_) | refine o_box (h := ?_) | refine o_alloc (h := ?_)) | (refine d_AW (h := ?_) ; first | refine AW.seq (h := ?_) | refine AW.region (h := ?_) | (refine AW.cond (ht := (fun hc => ?_)) (hf := (fun hc => ?_)) <;> (try (with_reducible first | exact absurd hc Bool.false_ne_true | exact absurd hc.symm Bool.false_ne_true)) <;> (try simp only [decide_eq_true_eq, decide_eq_false_iff_not, Int.ofNat_inj, Bool.not_eq_true', Bool.not_eq_false', Int.not_lt, Int.not_le] at hc) <;> (try (exfalso; omega)) <;> (try (exact absurd hc (by decide)))) | refine AW.ret (h := ?_) | refine AW.skip (h := ?_)) | (first | refine t_normal ?_) | (refine d_post (h := ?_) ; first | refine p_ret2 rfl (h := ?_)))
  all_goals first | rfl | (exfalso; simp at hc; done)
theorem iorStateNo (hP : ¬ jnP a b h) (M : Mem) : Pure Tryz.prog 69 [jnV a b h] M (.tuple [jnV 0 0 (fun _ => 0), .int .i64 4].toArray) := by
  refine pure_of Tryz.func69 Tryz.ntmps69 rfl rfl (flat_tuple (flat_cons (flat_agg jn_flat) (flat_cons (Flat.int _ _) flat_nil))) ?_
  have hV := fun M' => iValidJunction a b h M'
  rw [decide_eq_false hP] at hV
  simp only [envOf, Nat.zero_add, Nat.reduceAdd]
  repeat' (first | (refine d_AOs (h := ?_) ; first | refine o_assign (h := ?_) | refine AOs.nil (h := ?_) | refine o_call (hc := (hV _)) (h := ?_) | refine o_build (cs := tab 22 (jnJ 0 0 fun _ => 0)) (hf := by rfl) (h := ?_) | refine o_store (hw := by exact whole_tab (fun i => jn_one i)) (hcs := by exact st_all (by rfl)) (h := ?_) | refine o_load (h := ?_) | refine o_not (h := ?_) | refine o_box (h := ?_) | refine o_alloc (h := ?_)) | (refine d_AW (h := ?_) ; first | refine AW.seq (h := ?_) | refine AW.region (h := ?_) | (refine AW.cond (ht := (fun hc => ?_)) (hf := (fun hc => ?_)) <;> (try (with_reducible first | exact absurd hc Bool.false_ne_true | exact absurd hc.symm Bool.false_ne_true)) <;> (try simp only [decide_eq_true_eq, decide_eq_false_iff_not, Int.ofNat_inj, Bool.not_eq_true', Bool.not_eq_false', Int.not_lt, Int.not_le] at hc) <;> (try (exfalso; omega)) <;> (try (exact absurd hc (by decide)))) | refine AW.ret (h := ?_)) | (first | refine t_normal ?_ | refine t_ret ?_) | (refine d_post (h := ?_) ; first | refine p_ret2 rfl (h := ?_)))
  all_goals first | rfl | (exfalso; simp at hc; done)
end
section
variable {n o : Nat} {h : Nat → Nat} (hP : jnP (n : Int) (o : Int) h)
include hP
set_option maxHeartbeats 8000000 in
theorem iSetPrior (i : Nat) (x : Nat) (hi : i < n) (hn : n ≤ 4) (hx : prB x = true) (hQ : jnP (n : Int) (o : Int) fun q => if q = 18 + i then x else h q) (M : Mem) : Pure Tryz.prog 15 [jnV (n : Int) (o : Int) h, .int .i64 (i : Int), .float .f32 x] M (.tuple [jnV (n : Int) (o : Int) (fun q => if q = 18 + i then x else h q), .int .i64 0].toArray) := by
  refine pure_of Tryz.func15 Tryz.ntmps15 rfl rfl (flat_tuple (flat_cons (flat_agg jn_flat) (flat_cons (Flat.int _ _) flat_nil))) ?_
  have hV := fun M' => iValidJunction (n : Int) (o : Int) h M'
  rw [decide_eq_true hP] at hV
  have hR := fun M' => iinRange (i : Int) 0 ((n : Int) - 1) M'
  rw [decide_eq_true (show 0 ≤ (i : Int) ∧ (i : Int) ≤ (n : Int) - 1 by omega)] at hR
  have hX := fun M' => iisPrior x M'
  rw [hx] at hX
  have hO := fun M' => iorStateOk hQ M'
  simp only [envOf, Nat.zero_add, Nat.reduceAdd]
  repeat' (first | (refine d_AOs (h := ?_) ; first | refine o_move (h := ?_) | refine o_assign (h := ?_) | refine AOs.nil (h := ?_) | (refine d_bin (h := ?_) ; first | refine o_nei (h := ?_)) | refine o_call (hc := (hO _)) (h := ?_) | refine o_store (hcs := by exact jn_stQ (by omega) (by omega)) (h := ?_) | refine o_store (hw := by exact whole_tab (fun i => jn_one i)) (hcs := by exact st_all (by rfl)) (h := ?_) | refine o_load (h := ?_) | refine o_at (h := ?_) | refine o_field (h := ?_) | refine o_box (h := ?_) | refine o_alloc (h := ?_) | refine o_extract (h := ?_)) | (refine d_AW (h := ?_) ; first | refine AW.seq (h := ?_) | refine AW.region (h := ?_) | refine AW.openW1M (M ++ [jnB (n : Int) (o : Int) h, jnB 0 0 fun _ => 0]) 16 (M ++ [jnB (n : Int) (o : Int) h, jnB 0 0 fun _ => 0, ⟨[.int .i64 0, .int .i64 0], none, true⟩]) (h := ?_) | (refine AW.cond (ht := (fun hc => ?_)) (hf := (fun hc => ?_)) <;> (try (with_reducible first | exact absurd hc Bool.false_ne_true | exact absurd hc.symm Bool.false_ne_true)) <;> (try simp only [decide_eq_true_eq, decide_eq_false_iff_not, Int.ofNat_inj, Bool.not_eq_true', Bool.not_eq_false', Int.not_lt, Int.not_le] at hc) <;> (try (exfalso; omega)) <;> (try (exact absurd hc (by decide)))) | refine AW.ret (h := ?_) | refine AW.skip (h := ?_)) | (first | refine t_normal ?_) | (refine d_W (h := ?_) ; first | refine w1_nil (h := ?_) | refine w1_step (h2 := ?_) | refine w1_step (h1 := by (simp only [ObK, aft, cond_true, cond_false]; repeat' (first | refine And.intro ?_ ?_ | ((refine d_AOs ?_; first | refine o_buildS (cs := [.int .i64 0, .int .i64 0]) (hf := by rfl) (h := ?_) | refine o_load (hv := jn_ld0) (h := ?_) | refine o_load (hv := jn_ld1) (h := ?_) | refine o_call (hc := (hV _)) (h := ?_) | refine o_call (hc := (hR _)) (h := ?_) | refine o_call (hc := (hX _)) (h := ?_) | refine o_call (hc := (hO _)) (h := ?_) | refine o_call (hc := (icodeIfT _ _)) (h := ?_) | refine o_call (hc := (icodeIfF _ _)) (h := ?_) | refine o_call (hc := (icodeIfTd (by omega) _ _)) (h := ?_) | refine o_call (hc := (icodeIfFd (by omega) _ _)) (h := ?_) | refine o_call (hc := (icodeIf _ _ _)) (h := ?_) | refine o_call (hc := (ifirstCode2R _ _ _ _ _ _ (by first | (simp only [mem_tail, mem_tail0, List.getElem?_cons_zero, List.getElem?_cons_succ]; first | done | rfl) | exact mem_head (by assumption) | assumption | (simp only [mem_tailS, mem_tailS0, List.getElem?_cons_zero, List.getElem?_cons_succ]; first | done | rfl) | exact mem_set1 (by assumption) | exact mem_set0 (by assumption) | exact mem_setN1 (by assumption) (by assumption) | exact mem_setN (by assumption) (by assumption)))) (h := ?_) | refine o_call (hc := (ifirstCode2L _ _ _ _ _ _ _ (by decide) (by first | (simp only [mem_tail, mem_tail0, List.getElem?_cons_zero, List.getElem?_cons_succ]; first | done | rfl) | exact mem_head (by assumption) | assumption | (simp only [mem_tailS, mem_tailS0, List.getElem?_cons_zero, List.getElem?_cons_succ]; first | done | rfl) | exact mem_set1 (by assumption) | exact mem_set0 (by assumption) | exact mem_setN1 (by assumption) (by assumption) | exact mem_setN (by assumption) (by assumption)))) (h := ?_) | refine o_call (hc := (ifirstCode2 _ _ _ _ _ _ _ (by first | (simp only [mem_tail, mem_tail0, List.getElem?_cons_zero, List.getElem?_cons_succ]; first | done | rfl) | exact mem_head (by assumption) | assumption | (simp only [mem_tailS, mem_tailS0, List.getElem?_cons_zero, List.getElem?_cons_succ]; first | done | rfl) | exact mem_set1 (by assumption) | exact mem_set0 (by assumption) | exact mem_setN1 (by assumption) (by assumption) | exact mem_setN (by assumption) (by assumption)))) (h := ?_) | refine o_store (hcs := by exact jn_stQ (by omega) (by omega)) (h := ?_) | refine o_store (hw := by exact whole_tab (fun i => jn_one i)) (hcs := by exact st_all (by rfl)) (h := ?_)) <;> exact AOs.nil rfl)))) (h2 := ?_) | refine w1_yes (h2 := ?_) | refine w1_yes (h1 := by (simp only [ObK, aft, cond_true, cond_false]; repeat' (first | refine And.intro ?_ ?_ | ((refine d_AOs ?_; first | refine o_buildS (cs := [.int .i64 0, .int .i64 0]) (hf := by rfl) (h := ?_) | refine o_load (hv := jn_ld0) (h := ?_) | refine o_load (hv := jn_ld1) (h := ?_) | refine o_call (hc := (hV _)) (h := ?_) | refine o_call (hc := (hR _)) (h := ?_) | refine o_call (hc := (hX _)) (h := ?_) | refine o_call (hc := (hO _)) (h := ?_) | refine o_call (hc := (icodeIfT _ _)) (h := ?_) | refine o_call (hc := (icodeIfF _ _)) (h := ?_) | refine o_call (hc := (icodeIfTd (by omega) _ _)) (h := ?_) | refine o_call (hc := (icodeIfFd (by omega) _ _)) (h := ?_) | refine o_call (hc := (icodeIf _ _ _)) (h := ?_) | refine o_call (hc := (ifirstCode2R _ _ _ _ _ _ (by first | (simp only [mem_tail, mem_tail0, List.getElem?_cons_zero, List.getElem?_cons_succ]; first | done | rfl) | exact mem_head (by assumption) | assumption | (simp only [mem_tailS, mem_tailS0, List.getElem?_cons_zero, List.getElem?_cons_succ]; first | done | rfl) | exact mem_set1 (by assumption) | exact mem_set0 (by assumption) | exact mem_setN1 (by assumption) (by assumption) | exact mem_setN (by assumption) (by assumption)))) (h := ?_) | refine o_call (hc := (ifirstCode2L _ _ _ _ _ _ _ (by decide) (by first | (simp only [mem_tail, mem_tail0, List.getElem?_cons_zero, List.getElem?_cons_succ]; first | done | rfl) | exact mem_head (by assumption) | assumption | (simp only [mem_tailS, mem_tailS0, List.getElem?_cons_zero, List.getElem?_cons_succ]; first | done | rfl) | exact mem_set1 (by assumption) | exact mem_set0 (by assumption) | exact mem_setN1 (by assumption) (by assumption) | exact mem_setN (by assumption) (by assumption)))) (h := ?_) | refine o_call (hc := (ifirstCode2 _ _ _ _ _ _ _ (by first | (simp only [mem_tail, mem_tail0, List.getElem?_cons_zero, List.getElem?_cons_succ]; first | done | rfl) | exact mem_head (by assumption) | assumption | (simp only [mem_tailS, mem_tailS0, List.getElem?_cons_zero, List.getElem?_cons_succ]; first | done | rfl) | exact mem_set1 (by assumption) | exact mem_set0 (by assumption) | exact mem_setN1 (by assumption) (by assumption) | exact mem_setN (by assumption) (by assumption)))) (h := ?_) | refine o_store (hcs := by exact jn_stQ (by omega) (by omega)) (h := ?_) | refine o_store (hw := by exact whole_tab (fun i => jn_one i)) (hcs := by exact st_all (by rfl)) (h := ?_)) <;> exact AOs.nil rfl) | (((refine d_AOs (h := ?_) ; first | refine o_move (h := ?_) | refine o_assign (h := ?_) | refine AOs.nil (h := ?_) | (refine d_bin (h := ?_) ; first | refine o_neB (h := ?_) | refine o_nei (h := ?_) | refine o_subS (h := ?_) | refine o_sub (h := ?_) ) | (refine d_grd (h := ?_) ; first | refine g_yes (h := ?_) | refine g_no (h := ?_) | refine g_undef (h := ?_) | (refine g_true (h1 := (fun hg => ?_)) (h0 := (fun hg => ?_)) <;> (try rw [hg]) <;> (try simp only [decide_eq_true_eq, decide_eq_false_iff_not, Int.ofNat_inj, Bool.not_eq_true', Bool.not_eq_false', Int.not_lt, Int.not_le] at hg) <;> (try (exfalso; omega)) <;> (try (exact absurd hg (by decide)))) | (refine g_false (h1 := (fun hg => ?_)) (h0 := (fun hg => ?_)) <;> (try rw [hg]) <;> (try simp only [decide_eq_true_eq, decide_eq_false_iff_not, Int.ofNat_inj, Bool.not_eq_true', Bool.not_eq_false', Int.not_lt, Int.not_le] at hg) <;> (try (exfalso; omega)) <;> (try (exact absurd hg (by decide))))) | refine o_load (h := ?_) | refine o_at (h := ?_) | refine o_field (h := ?_) | refine o_pick (h := ?_) | refine o_not (h := ?_) | refine o_ixS (h := ?_) | refine o_buildS0 (h := ?_) | refine o_buildS (h := ?_) | refine o_store (h := ?_) | refine o_box (h := ?_) | refine o_alloc (h := ?_) | refine o_ix (h := ?_) | refine o_extract (h := ?_) | refine o_build (h := ?_) ) <;> exact AOs.nil rfl))))) (h2 := ?_)) | (refine d_post (h := ?_) ; first | refine p_ret2 rfl (h := ?_)))
  all_goals first | rfl | (exfalso; simp at hc; done)
end
end Go.Proofs.YtgdpcomemkimhaaGreatDoor

/- Copies of junctions. -/
namespace Go.Proofs.YtgdpcomemkimhaaGreatDoor
open Go.RowKit
attribute [local irreducible] AW AOs AO AQ AQW thenA inBlockA postA ACalls Pure
set_option linter.unusedSimpArgs false
set_option linter.unusedVariables false
set_option linter.unusedSectionVars false

theorem jc_ldP {ins outs : Int} {h : Nat → Nat} : ldA (.agg 4) 18 (tab 22 (jnJ ins outs h)) = some (.agg (tab 4 fun q => .float .f32 (h (18 + q))).toArray) := rfl
end Go.Proofs.YtgdpcomemkimhaaGreatDoor
