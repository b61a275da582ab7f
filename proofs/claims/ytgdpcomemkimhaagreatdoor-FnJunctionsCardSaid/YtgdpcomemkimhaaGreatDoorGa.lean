/- Guarded operations in open regions that change memory. No program in sight. -/
import Derived.Test.YtgdpcomemkimhaaGreatDoorOf
import Derived.Test.YtgdpcomemkimhaaGreatDoorMd
import Derived.Test.YtgdpcomemkimhaaGreatDoorCc
import Derived.Test.YtgdpcomemkimhaaGreatDoorJv

namespace Go.Proofs.YtgdpcomemkimhaaGreatDoor
open Go.RowKit
set_option linter.unusedSimpArgs false
set_option linter.unusedVariables false

section
variable {P : Program} {ops l : List Oper} {K : St → Prop} {n : Nat} {t : Env} {m0 m1 : Mem} {d ty : Nat} {pos : String} {af : Array Edge} {op : Op} {p : Nat}
theorem w1_yes {v : Value} {ks : List Nat} {k : Kn} {j g : Nat} {b : Bool} (hj : (ops[j]?).bind (·.dst) = some g := by rfl) (hx : look t g = .bool b := by (conv => (lhs; whnf)); first | done | rfl) (hk : knW ops p (ops.length - (l.length + 1)) = k := by first | (refine (?_ : _ = Kn.yes); decide +kernel) | (refine (?_ : _ = Kn.free); decide +kernel) | (refine (?_ : _ = Kn.no); decide +kernel) | (refine (?_ : _ = Kn.self); decide +kernel)) (hks : looksO ops ⟨some d, op, ty, pos, af, some (j, b)⟩ = ks := by rfl) (hd : Nat.blt d n = true := by rfl)
    (h1 : ObK k fun c => AOs P ops [⟨some d, op, ty, pos, af, none⟩] (fun s' => s' = ⟨n, (d, v) :: keepL ks t, bif aft k c then m1 else m0⟩) ⟨n, keepL ks t, bif c then m1 else m0⟩ := by (simp only [ObK, aft, cond_true, cond_false]; repeat' (first | refine And.intro ?_ ?_ | (((refine d_AOs (h := ?_) ; first | refine o_move (h := ?_) | refine o_assign (h := ?_) | refine AOs.nil (h := ?_) | (refine d_bin (h := ?_) ; first | refine o_eqNil (h := ?_) | refine o_addS (h := ?_) | refine o_add (h := ?_) | refine o_lss (h := ?_) | refine o_eqi (h := ?_) | refine o_eqB (h := ?_) | refine o_neB (h := ?_) | refine o_nei (h := ?_) | refine o_leq (h := ?_) | refine o_gtr (h := ?_) | refine o_geq (h := ?_) | refine o_subS (h := ?_) | refine o_sub (h := ?_) | refine o_mulS (h := ?_) | refine o_mul (h := ?_) | refine o_remS (h := ?_) | refine o_rem (h := ?_) | refine o_quo (h := ?_) | refine o_shl (h := ?_) | refine o_shr (h := ?_) | refine o_bits (h := ?_) | refine o_fisnan (h := ?_) | refine o_fne (h := ?_) | refine o_feq (h := ?_) | refine o_flt (h := ?_) | refine o_fle (h := ?_) | refine o_fgt (h := ?_) | refine o_fge (h := ?_) | refine o_fadd (h := ?_) | refine o_fsub (h := ?_) | refine o_fmul (h := ?_) | refine o_fdiv (h := ?_) ) | (refine d_grd (h := ?_) ; first | refine g_yes (h := ?_) | refine g_no (h := ?_) | refine g_undef (h := ?_) | (refine g_true (h1 := (fun hg => ?_)) (h0 := (fun hg => ?_)) <;> (try rw [hg]) <;> (try simp only [decide_eq_true_eq, decide_eq_false_iff_not, Int.ofNat_inj, Bool.not_eq_true', Bool.not_eq_false', Int.not_lt, Int.not_le] at hg) <;> (try (exfalso; omega)) <;> (try (exact absurd hg (by decide)))) | (refine g_false (h1 := (fun hg => ?_)) (h0 := (fun hg => ?_)) <;> (try rw [hg]) <;> (try simp only [decide_eq_true_eq, decide_eq_false_iff_not, Int.ofNat_inj, Bool.not_eq_true', Bool.not_eq_false', Int.not_lt, Int.not_le] at hg) <;> (try (exfalso; omega)) <;> (try (exact absurd hg (by decide))))) | refine o_load (h := ?_) | refine o_at (h := ?_) | refine o_field (h := ?_) | refine o_nil (h := ?_) | refine o_pick (h := ?_) | refine o_not (h := ?_) | refine o_len (h := ?_) | refine o_lenS (h := ?_) | refine o_ixS (h := ?_) | refine o_mkS1 (h := ?_) | refine o_mkS (h := ?_) | refine o_buildS0 (h := ?_) | refine o_buildS (h := ?_) | refine o_app (h := ?_) | refine o_appN (h := ?_) | refine o_app0 (h := ?_) | refine o_slHi (h := ?_) | refine o_slLo (h := ?_) | refine o_slLH (h := ?_) | refine o_mkF (h := ?_) | refine o_store (h := ?_) | refine o_box (h := ?_) | refine o_alloc (h := ?_) | refine o_ix (h := ?_) | refine o_convS (h := ?_) | refine o_conv (h := ?_) | refine o_fconv (h := ?_) | refine o_fofInt (h := ?_) | refine o_bits32 (h := ?_) | refine o_bits64 (h := ?_) | refine o_integral (h := ?_) | refine o_fneg (h := ?_) | refine o_extract (h := ?_) | refine o_build (h := ?_) ) <;> exact AOs.nil rfl)) | ((refine AOs.overR (fun j => .pointer (some ⟨j, 0, none⟩)) OneRef.ptr _ (by repeat' (first | exact Flat.bool _ | exact Flat.int _ _ | exact Flat.float _ _ | exact Flat.string _ | exact flat_nil | exact flat_tabL (fun _ => Flat.bool _) | exact flat_tabL (fun _ => Flat.int _ _) | exact flat_tabL (fun _ => Flat.float _ _) | refine flat_tuple ?_ | refine flat_agg ?_ | refine flat_cons ?_ ?_ | refine flat_append ?_ ?_)) (h := ?_)); (simp only [List.cons_append, List.nil_append, List.length_cons, List.length_nil, Nat.reduceAdd, Nat.zero_add]); (((refine d_AOs (h := ?_) ; first | refine o_move (h := ?_) | refine o_assign (h := ?_) | refine AOs.nil (h := ?_) | (refine d_bin (h := ?_) ; first | refine o_eqNil (h := ?_) | refine o_addS (h := ?_) | refine o_add (h := ?_) | refine o_lss (h := ?_) | refine o_eqi (h := ?_) | refine o_eqB (h := ?_) | refine o_neB (h := ?_) | refine o_nei (h := ?_) | refine o_leq (h := ?_) | refine o_gtr (h := ?_) | refine o_geq (h := ?_) | refine o_subS (h := ?_) | refine o_sub (h := ?_) | refine o_mulS (h := ?_) | refine o_mul (h := ?_) | refine o_remS (h := ?_) | refine o_rem (h := ?_) | refine o_quo (h := ?_) | refine o_shl (h := ?_) | refine o_shr (h := ?_) | refine o_bits (h := ?_) | refine o_fisnan (h := ?_) | refine o_fne (h := ?_) | refine o_feq (h := ?_) | refine o_flt (h := ?_) | refine o_fle (h := ?_) | refine o_fgt (h := ?_) | refine o_fge (h := ?_) | refine o_fadd (h := ?_) | refine o_fsub (h := ?_) | refine o_fmul (h := ?_) | refine o_fdiv (h := ?_) ) | (refine d_grd (h := ?_) ; first | refine g_yes (h := ?_) | refine g_no (h := ?_) | refine g_undef (h := ?_) | (refine g_true (h1 := (fun hg => ?_)) (h0 := (fun hg => ?_)) <;> (try rw [hg]) <;> (try simp only [decide_eq_true_eq, decide_eq_false_iff_not, Int.ofNat_inj, Bool.not_eq_true', Bool.not_eq_false', Int.not_lt, Int.not_le] at hg) <;> (try (exfalso; omega)) <;> (try (exact absurd hg (by decide)))) | (refine g_false (h1 := (fun hg => ?_)) (h0 := (fun hg => ?_)) <;> (try rw [hg]) <;> (try simp only [decide_eq_true_eq, decide_eq_false_iff_not, Int.ofNat_inj, Bool.not_eq_true', Bool.not_eq_false', Int.not_lt, Int.not_le] at hg) <;> (try (exfalso; omega)) <;> (try (exact absurd hg (by decide))))) | refine o_load (h := ?_) | refine o_at (h := ?_) | refine o_field (h := ?_) | refine o_nil (h := ?_) | refine o_pick (h := ?_) | refine o_not (h := ?_) | refine o_len (h := ?_) | refine o_lenS (h := ?_) | refine o_ixS (h := ?_) | refine o_mkS1 (h := ?_) | refine o_mkS (h := ?_) | refine o_buildS0 (h := ?_) | refine o_buildS (h := ?_) | refine o_app (h := ?_) | refine o_appN (h := ?_) | refine o_app0 (h := ?_) | refine o_slHi (h := ?_) | refine o_slLo (h := ?_) | refine o_slLH (h := ?_) | refine o_mkF (h := ?_) | refine o_store (h := ?_) | refine o_box (h := ?_) | refine o_alloc (h := ?_) | refine o_ix (h := ?_) | refine o_convS (h := ?_) | refine o_conv (h := ?_) | refine o_fconv (h := ?_) | refine o_fofInt (h := ?_) | refine o_bits32 (h := ?_) | refine o_bits64 (h := ?_) | refine o_integral (h := ?_) | refine o_fneg (h := ?_) | refine o_extract (h := ?_) | refine o_build (h := ?_) ) <;> exact AOs.nil rfl)))))) (h2 : AQW P ops (mem1 p m0 m1) n l K ((d, v) :: t)) :
    AQW P ops (mem1 p m0 m1) n (⟨some d, op, ty, pos, af, some (j, b)⟩ :: l) K t := by
  subst hks hk
  have hw : wantA ops (⟨some d, op, ty, pos, af, some (j, b)⟩ : Oper) t = some true := by
    unfold wantA; simp [hj, hx]
  unfold AQW
  simp only [hw]
  refine ⟨hd, v, fun S g1 g2 g3 => ?_, h2⟩
  obtain ⟨h3, h4⟩ := h1.at g1 g2 g3
  unfold mem1
  rw [h4]
  exact h3
end
end Go.Proofs.YtgdpcomemkimhaaGreatDoor

/- Roads: ramps. -/
namespace Go.Proofs.YtgdpcomemkimhaaGreatDoor
open Go.RowKit
attribute [local irreducible] AW AOs AO AQ AQW thenA inBlockA postA ACalls Pure
set_option linter.unusedSimpArgs false
set_option linter.unusedVariables false
set_option linter.unusedSectionVars false

section
variable {c : Nat → Nat} {p b l : Nat} (hr : RdOk c p b l) {off room jn : Nat} (ho : isAm off = true) (hro : isAm room = true) (hj : isAm jn = true) {i : Nat} (hi : i < 16)
include hr ho hro hj hi
end
end Go.Proofs.YtgdpcomemkimhaaGreatDoor

/- Ramps and smoothing: plain facts. -/
namespace Go.Proofs.YtgdpcomemkimhaaGreatDoor
open Go.RowKit
attribute [local irreducible] AW AOs AO AQ AQW thenA inBlockA postA ACalls Pure
set_option linter.unusedSimpArgs false
set_option linter.unusedVariables false
set_option linter.unusedSectionVars false

section
variable {c : Nat → Nat} {p b off room : Nat} (hpb : PbOk p b) (hc : ∀ q, q < 16 → nn (c q) ∧ fv (c q) ≤ U) (ho : nn off) (ho1 : fv off ≤ U) (hr : nn room) (hr1 : fv room ≤ U)
include hpb hc
include ho ho1 hr hr1
end
/-! ### Smoothing -/
end Go.Proofs.YtgdpcomemkimhaaGreatDoor

/- Junctions that are drawn: plain facts. -/
namespace Go.Proofs.YtgdpcomemkimhaaGreatDoor
open Go.RowKit
attribute [local irreducible] AW AOs AO AQ AQW thenA inBlockA postA ACalls Pure
set_option linter.unusedSimpArgs false
set_option linter.unusedVariables false
set_option linter.unusedSectionVars false

theorem shg_33 : ∀ x : Fin 33, fin32 (shw x.val) = true ∧ shw x.val < 2147483648 ∧ fv (shw x.val) = (x.val : Int) * 2 ^ 145 := by decide +kernel
theorem shg_fv {x : Int} (h : 0 ≤ x ∧ x ≤ 32) : nn (shw x) ∧ fv (shw x) = x * 2 ^ 145 := by
  obtain ⟨h1, h2, h3⟩ := shg_33 ⟨x.toNat, by omega⟩
  have e : ((x.toNat : Nat) : Int) = x := Int.toNat_of_nonneg h.1
  simp only [e] at h1 h2 h3
  exact ⟨⟨h1, h2⟩, h3⟩
theorem prw_8 : ∀ v : Fin 8, prB (prw v.val) = true := by decide +kernel
theorem prw_ok {v : Int} (h : 0 ≤ v ∧ v < 8) : prB (prw v) = true := by
  have h1 := prw_8 ⟨v.toNat, by omega⟩
  have e : ((v.toNat : Nat) : Int) = v := Int.toNat_of_nonneg h.1
  simp only [e] at h1
  exact h1
theorem noB_0 : noB 0 = true := by decide +kernel
theorem prB_3 : prB 1077936128 = true := by decide +kernel

/-- A junction that can be drawn: its shares in sixteenths. -/
structure JnDr (n o : Nat) (h : Nat → Nat) (W : Nat → Nat → Int) : Prop where
  hn : 1 ≤ n ∧ n ≤ 4
  ho : 1 ≤ o ∧ o ≤ 4
  bd : ∀ i k, 0 ≤ W i k ∧ W i k ≤ 16
  cell : ∀ i k, i < 4 → k < 4 → h (2 + i * 4 + k) = shw (W i k)
  zero : ∀ i k, (n ≤ i ∨ o ≤ k) → W i k = 0
  sum : ∀ i, i < n → W i 0 + W i 1 + W i 2 + W i 3 = 16
  pri : ∀ i, i < 4 → if i < n then ∃ v : Int, (0 ≤ v ∧ v < 8) ∧ h (18 + i) = prw v else h (18 + i) = 0
section
variable (n : Nat) (cd : Nat → Int)
theorem jdIn_keep {o i : Nat} {x : DS × Int × (Nat → Nat)} {q : Nat} : ∀ k, k ≤ o → (q < 2 + i * 4 ∨ 2 + i * 4 + o ≤ q) → (jdIn n cd o i k x).2.2 q = x.2.2 q
  | 0, _, _ => rfl
  | k + 1, hk, hq => by
    show (if q = 2 + i * 4 + k then _ else (jdIn n cd o i k x).2.2 q) = _
    rw [if_neg (by omega)]
    exact jdIn_keep k (by omega) hq
/-- The shares of one way in. -/
theorem jdIn_row {o i : Nat} {x : DS × Int × (Nat → Nat)} (hx : x.2.1 = 16) : ∀ k, k ≤ o → (∀ q, q < k → ∃ w : Int, (0 ≤ w ∧ w ≤ 16) ∧ w = (jdIn n cd o i q x).2.1 - (jdIn n cd o i (q + 1) x).2.1 ∧ (jdIn n cd o i k x).2.2 (2 + i * 4 + q) = shw w) ∧ (k = o → 1 ≤ k → (jdIn n cd o i k x).2.1 = 0)
  | 0, _ => ⟨fun q hq => by omega, fun _ h => by omega⟩
  | k + 1, hk => by
    have hb := (jdIn_bd n cd (outs := o) (i := i) (x := x) (by omega) k).1
    obtain ⟨h1, _⟩ := jdIn_row (o := o) (i := i) hx k (by omega)
    have hp := pkV_bd (n := n) (cd := cd) (jdIn n cd o i k x).1 (m := (jdIn n cd o i k x).2.1 + 1) (by omega)
    refine ⟨fun q hq => ?_, fun h _ => ?_⟩
    · by_cases e : q = k
      · subst e
        refine ⟨if q + 1 = o then (jdIn n cd o i q x).2.1 else pkV n cd (jdIn n cd o i q x).1 ((jdIn n cd o i q x).2.1 + 1), by split <;> omega, ?_, ?_⟩
        · show _ = (jdIn n cd o i q x).2.1 - ((jdIn n cd o i q x).2.1 - _)
          omega
        · show (if 2 + i * 4 + q = 2 + i * 4 + q then _ else _) = _
          rw [if_pos rfl]
      · obtain ⟨w, h2, h3, h4⟩ := h1 q (by omega)
        refine ⟨w, h2, h3, ?_⟩
        show (if 2 + i * 4 + q = 2 + i * 4 + k then _ else (jdIn n cd o i k x).2.2 (2 + i * 4 + q)) = _
        rw [if_neg (by omega)]
        exact h4
    · show (jdIn n cd o i k x).2.1 - (if k + 1 = o then _ else _) = 0
      rw [if_pos h]; omega
theorem jdIn_sum {o i : Nat} (ho : 1 ≤ o ∧ o ≤ 4) {x : DS × Int × (Nat → Nat)} (hx : x.2.1 = 16) : ∃ w : Nat → Int, (∀ k, 0 ≤ w k ∧ w k ≤ 16) ∧ (∀ k, o ≤ k → w k = 0) ∧ w 0 + w 1 + w 2 + w 3 = 16 ∧ ∀ k, k < o → (jdIn n cd o i o x).2.2 (2 + i * 4 + k) = shw (w k) := by
  obtain ⟨h1, h2⟩ := jdIn_row n cd (o := o) (i := i) hx o (Nat.le_refl _)
  have h3 := h2 rfl ho.1
  have h0 : (jdIn n cd o i 0 x).2.1 = 16 := hx
  refine ⟨fun k => if k < o then (jdIn n cd o i k x).2.1 - (jdIn n cd o i (k + 1) x).2.1 else 0, fun k => ?_, fun k hk => if_neg (by omega), ?_, fun k hk => ?_⟩
  · by_cases hk : k < o
    · obtain ⟨w, g1, g2, _⟩ := h1 k hk
      show 0 ≤ (if k < o then _ else (0 : Int)) ∧ (if k < o then _ else (0 : Int)) ≤ 16
      rw [if_pos hk, ← g2]; exact g1
    · show 0 ≤ (if k < o then _ else (0 : Int)) ∧ (if k < o then _ else (0 : Int)) ≤ 16
      rw [if_neg hk]; omega
  · obtain ⟨g1, g2⟩ := ho
    have : o = 1 ∨ o = 2 ∨ o = 3 ∨ o = 4 := by omega
    rcases this with rfl | rfl | rfl | rfl
    · show (if 0 < 1 then _ else (0 : Int)) + (if 1 < 1 then _ else (0 : Int)) + (if 2 < 1 then _ else (0 : Int)) + (if 3 < 1 then _ else (0 : Int)) = 16
      rw [if_pos (by decide), if_neg (by decide), if_neg (by decide), if_neg (by decide)]; simp only [Nat.zero_add, Nat.reduceAdd]; omega
    · show (if 0 < 2 then _ else (0 : Int)) + (if 1 < 2 then _ else (0 : Int)) + (if 2 < 2 then _ else (0 : Int)) + (if 3 < 2 then _ else (0 : Int)) = 16
      rw [if_pos (by decide), if_pos (by decide), if_neg (by decide), if_neg (by decide)]; simp only [Nat.zero_add, Nat.reduceAdd]; omega
    · show (if 0 < 3 then _ else (0 : Int)) + (if 1 < 3 then _ else (0 : Int)) + (if 2 < 3 then _ else (0 : Int)) + (if 3 < 3 then _ else (0 : Int)) = 16
      rw [if_pos (by decide), if_pos (by decide), if_pos (by decide), if_neg (by decide)]; simp only [Nat.zero_add, Nat.reduceAdd]; omega
    · show (if 0 < 4 then _ else (0 : Int)) + (if 1 < 4 then _ else (0 : Int)) + (if 2 < 4 then _ else (0 : Int)) + (if 3 < 4 then _ else (0 : Int)) = 16
      rw [if_pos (by decide), if_pos (by decide), if_pos (by decide), if_pos (by decide)]; simp only [Nat.zero_add, Nat.reduceAdd]; omega
  · obtain ⟨w, g1, g2, g3⟩ := h1 k hk
    show _ = shw (if k < o then _ else (0 : Int))
    rw [if_pos hk, ← g2]; exact g3
def rowDr (o i : Nat) (h : Nat → Nat) : Prop := (∃ w : Nat → Int, (∀ k, 0 ≤ w k ∧ w k ≤ 16) ∧ (∀ k, o ≤ k → w k = 0) ∧ w 0 + w 1 + w 2 + w 3 = 16 ∧ ∀ k, k < o → h (2 + i * 4 + k) = shw (w k)) ∧ ∃ v : Int, (0 ≤ v ∧ v < 8) ∧ h (18 + i) = prw v
theorem jdOut_rows {o : Nat} (ho : 1 ≤ o ∧ o ≤ 4) {x : DS × (Nat → Nat)} : ∀ i, i ≤ 4 → (∀ i', i' < i → rowDr o i' (jdOut n cd o i x).2) ∧ ∀ i' k, i' < 4 → k < 4 → ((o ≤ k ∨ i ≤ i') → (jdOut n cd o i x).2 (2 + i' * 4 + k) = x.2 (2 + i' * 4 + k)) ∧ (i ≤ i' → (jdOut n cd o i x).2 (18 + i') = x.2 (18 + i'))
  | 0, _ => ⟨fun i' h => by omega, fun _ _ _ _ => ⟨fun _ => rfl, fun _ => rfl⟩⟩
  | i + 1, hi => by
    obtain ⟨h1, h2⟩ := jdOut_rows ho (x := x) i (by omega)
    obtain ⟨w, g1, g2, g3, g4⟩ := jdIn_sum n cd (o := o) (i := i) ho (x := ((jdOut n cd o i x).1, 16, (jdOut n cd o i x).2)) rfl
    have hk := fun q => jdIn_keep n cd (o := o) (i := i) (x := ((jdOut n cd o i x).1, 16, (jdOut n cd o i x).2)) (q := q) o (Nat.le_refl _)
    have hv := pkV_bd (n := n) (cd := cd) (jdIn n cd o i o ((jdOut n cd o i x).1, 16, (jdOut n cd o i x).2)).1 (m := 8) (by omega)
    have put : ∀ q, (jdOut n cd o (i + 1) x).2 q = if q = 18 + i then prw (pkV n cd (jdIn n cd o i o ((jdOut n cd o i x).1, 16, (jdOut n cd o i x).2)).1 8) else (jdIn n cd o i o ((jdOut n cd o i x).1, 16, (jdOut n cd o i x).2)).2.2 q := fun _ => rfl
    refine ⟨fun i' hi' => ?_, fun i' k hi4 hk4 => ⟨fun hc => ?_, fun hc => ?_⟩⟩
    · by_cases e : i' = i
      · subst e
        refine ⟨⟨w, g1, g2, g3, fun k hk => ?_⟩, _, hv, ?_⟩
        · rw [put, if_neg (by omega)]; exact g4 k hk
        · rw [put, if_pos rfl]
      · obtain ⟨⟨w', a1, a2, a3, a4⟩, v', b1, b2⟩ := h1 i' (by omega)
        refine ⟨⟨w', a1, a2, a3, fun k hk' => ?_⟩, v', b1, ?_⟩
        · rw [put, if_neg (by omega), hk _ (by omega)]; exact a4 k hk'
        · rw [put, if_neg (by omega), hk _ (by omega)]; exact b2
    · rw [put, if_neg (by omega)]
      by_cases e : i' = i
      · subst e
        rw [hk _ (by omega)]
        exact (h2 i' k hi4 hk4).1 (by omega)
      · rw [hk _ (by omega)]
        exact (h2 i' k hi4 hk4).1 (by omega)
    · rw [put, if_neg (by omega), hk _ (by omega)]
      exact (h2 i' 0 hi4 (by omega)).2 (by omega)
theorem evIn_out {o i q : Nat} {h : Nat → Nat} : ∀ k, k ≤ o → (q < 2 + i * 4 ∨ 2 + i * 4 + o ≤ q) → evIn o i k h q = h q
  | 0, _, _ => rfl
  | k + 1, hk, hq => by
    show (if q = 2 + i * 4 + k then _ else _) = _
    rw [if_neg (by omega)]
    exact evIn_out k (by omega) hq
theorem evOut_zero {o : Nat} (ho : o ≤ 4) : ∀ m i k, m ≤ 4 → i < 4 → k < 4 → ((o ≤ k ∨ m ≤ i) → evOut o m (2 + i * 4 + k) = 0) ∧ (m ≤ i → evOut o m (18 + i) = 0)
  | 0, i, k, _, _, _ => ⟨fun _ => rfl, fun _ => rfl⟩
  | m + 1, i, k, hm, hi, hk => by
    obtain ⟨h1, h2⟩ := evOut_zero ho m i k (by omega) hi hk
    refine ⟨fun hc => ?_, fun hc => ?_⟩
    · show (if 2 + i * 4 + k = 18 + m then _ else evIn o m o (evOut o m) (2 + i * 4 + k)) = 0
      rw [if_neg (by omega), evIn_out o (Nat.le_refl _) (by omega)]
      exact h1 (by omega)
    · show (if 18 + i = 18 + m then _ else evIn o m o (evOut o m) (18 + i)) = 0
      rw [if_neg (by omega)]
      rw [evIn_out o (Nat.le_refl _) (by omega)]; exact h2 (by omega)
theorem jnDr_of (s : DS) : ∃ W, JnDr (jdA n cd s) (jdB n cd s) (jdX n cd s).2 W := by
  have b1 := pkV_bd (n := n) (cd := cd) s (m := 4) (by omega)
  have b2 := pkV_bd (n := n) (cd := cd) (pkS n cd s 4) (m := 4) (by omega)
  have hA : 1 ≤ jdA n cd s ∧ jdA n cd s ≤ 4 := by unfold jdA; omega
  have hB : 1 ≤ jdB n cd s ∧ jdB n cd s ≤ 4 := by unfold jdB; omega
  unfold jdX
  generalize jdA n cd s = A at *
  generalize jdB n cd s = B at *
  obtain ⟨h1, h2⟩ := jdOut_rows n cd hB (x := (pkS n cd (pkS n cd s 4) 4, evOut B A)) A hA.2
  generalize hh : (jdOut n cd B A (pkS n cd (pkS n cd s 4) 4, evOut B A)).2 = h at *
  have key : ∀ i, ∃ w : Nat → Int, (∀ k, 0 ≤ w k ∧ w k ≤ 16) ∧ (∀ k, (A ≤ i ∨ B ≤ k) → w k = 0) ∧ (i < A → w 0 + w 1 + w 2 + w 3 = 16) ∧ ∀ k, i < 4 → k < 4 → h (2 + i * 4 + k) = shw (w k) := fun i => by
    by_cases hi : i < A
    · obtain ⟨⟨w, a1, a2, a3, a4⟩, _⟩ := h1 i hi
      refine ⟨w, a1, fun k hk => a2 k (by omega), fun _ => a3, fun k hi4 hk4 => ?_⟩
      by_cases hk : k < B
      · exact a4 k hk
      · rw [(h2 i k hi4 hk4).1 (by omega), a2 k (by omega), shw_0]
        exact (evOut_zero hB.2 A i k hA.2 hi4 hk4).1 (by omega)
    · refine ⟨fun _ => 0, fun _ => ⟨Int.le_refl 0, show (0 : Int) ≤ 16 by decide⟩, fun _ _ => rfl, fun h => absurd h hi, fun k hi4 hk4 => ?_⟩
      rw [(h2 i k hi4 hk4).1 (by omega), shw_0]
      exact (evOut_zero hB.2 A i k hA.2 hi4 hk4).1 (by omega)
  refine ⟨fun i => Classical.choose (key i), ⟨hA, hB, fun i k => (Classical.choose_spec (key i)).1 k, fun i k hi hk => (Classical.choose_spec (key i)).2.2.2 k hi hk, fun i k hc => (Classical.choose_spec (key i)).2.1 k hc, fun i hi => (Classical.choose_spec (key i)).2.2.1 hi, fun i hi => ?_⟩⟩
  by_cases hA' : i < A
  · rw [if_pos hA']; exact (h1 i hA').2
  · rw [if_neg hA', (h2 i 0 hi (by omega)).2 (by omega)]
    exact (evOut_zero hB.2 A i 0 hA.2 hi (by omega)).2 (by omega)
end
end Go.Proofs.YtgdpcomemkimhaaGreatDoor
