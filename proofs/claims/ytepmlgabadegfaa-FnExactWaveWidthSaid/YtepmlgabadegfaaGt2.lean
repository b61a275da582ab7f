/- Green ticks of a cycle, and the next green. -/
import Derived.Test.YtepmlgabadegfaaGt
namespace Go.Proofs.Ytepmlgabadegfaa
open Go.RowKit
attribute [local irreducible] AW AOs AO AQ AQW thenA inBlockA postA ACalls Pure
set_option linter.unusedSimpArgs false
set_option linter.unusedVariables false
set_option linter.unusedSectionVars false

/-! ### Counting, and going round -/
theorem cntB_add (f : Nat → Bool) (a : Nat) (j : Nat) : ∀ k, cntB (fun t => f (a + t)) (j + k) = cntB (fun t => f (a + t)) j + cntB (fun t => f (a + j + t)) k
  | 0 => by simp [cntB]
  | k + 1 => by
    show cntB (fun t => f (a + t)) (j + k) + (if f (a + (j + k)) = true then 1 else 0) = cntB (fun t => f (a + t)) j + (cntB (fun t => f (a + j + t)) k + if f (a + j + k) = true then 1 else 0)
    have e := cntB_add f a j k
    have e2 : a + (j + k) = a + j + k := by omega
    rw [e2]; omega
theorem cntB_congr {f g : Nat → Bool} : ∀ {k : Nat}, (∀ t, t < k → f t = g t) → cntB f k = cntB g k
  | 0, _ => rfl
  | k + 1, h => by simp only [cntB]; rw [cntB_congr (k := k) fun t ht => h t (by omega), h k (by omega)]
theorem cntB_rot {h : Nat → Bool} {N : Nat} (hp : ∀ x, h (x + N) = h x) {r : Nat} (hr : r ≤ N) : cntB (fun t => h (r + t)) N = cntB h N := by
  have h1 := cntB_add h r (N - r) r
  have h2 := cntB_add h 0 r (N - r)
  rw [show N - r + r = N by omega] at h1
  rw [show r + (N - r) = N by omega] at h2
  have e1 : cntB (fun t => h (r + (N - r) + t)) r = cntB h r := cntB_congr fun t _ => by
    rw [show r + (N - r) + t = t + N by omega]; exact hp t
  have e2 : cntB (fun t => h (0 + t)) N = cntB h N := cntB_congr fun t _ => by rw [Nat.zero_add]
  have e3 : cntB (fun t => h (0 + t)) r = cntB h r := cntB_congr fun t _ => by rw [Nat.zero_add]
  have e4 : cntB (fun t => h (0 + r + t)) (N - r) = cntB (fun t => h (r + t)) (N - r) := cntB_congr fun t _ => by rw [Nat.zero_add]
  rw [e2, e3, e4] at h2
  rw [h1, e1, h2]; omega
theorem cntB_pos {f : Nat → Bool} : ∀ {k : Nat}, 0 < cntB f k ↔ ∃ q, q < k ∧ f q = true
  | 0 => by simp [cntB]
  | k + 1 => by
    simp only [cntB]
    by_cases h : f k = true
    · rw [if_pos h]; exact ⟨fun _ => ⟨k, by omega, h⟩, fun _ => by omega⟩
    · rw [if_neg h, Nat.add_zero, cntB_pos (k := k)]
      constructor
      · rintro ⟨q, h1, h2⟩; exact ⟨q, by omega, h2⟩
      · rintro ⟨q, h1, h2⟩
        have : q ≠ k := fun e => h (by rw [← e]; exact h2)
        exact ⟨q, by omega, h2⟩
theorem idxK_cnt {f : Nat → Bool} {N : Nat} : 0 ≤ idxK f N 0 ↔ 0 < cntB f N := by
  rw [idxK_pos, cntB_pos]
  constructor
  · rintro ⟨q, _, h2, h3⟩; exact ⟨q, by omega, h3⟩
  · rintro ⟨q, h2, h3⟩; exact ⟨q, by omega, by omega, h3⟩
theorem idxK_first {f : Nat → Bool} : ∀ {k i : Nat}, 0 ≤ idxK f k i → ∃ q : Nat, idxK f k i = q ∧ i ≤ q ∧ q < i + k ∧ f q = true ∧ ∀ r, i ≤ r → r < q → f r = false
  | 0, i, h => by simp [idxK] at h
  | k + 1, i, h => by
    simp only [idxK] at h ⊢
    by_cases hf : f i = true
    · rw [if_pos hf]; exact ⟨i, rfl, by omega, by omega, hf, fun r h1 h2 => by omega⟩
    · rw [if_neg hf] at h ⊢
      obtain ⟨q, h1, h2, h3, h4, h5⟩ := idxK_first h
      refine ⟨q, h1, by omega, by omega, h4, fun r hr1 hr2 => ?_⟩
      by_cases e : r = i
      · subst e; simpa using hf
      · exact h5 r (by omega) hr2

/-- How many ticks of a cycle a movement has green. -/
def greenN (n : Nat) (b : Int) (G : Nat → Nat → Bool) (T : Nat → Int) (m : Nat) : Nat := cntB (fun t => gE b G T n m t) (sumP T b n).toNat
theorem green_rot {n : Nat} {b o : Int} {G : Nat → Nat → Bool} {T : Nat → Int} {m N : Nat} {fr : Int} (hN : sumP T b n = N) (h0 : 0 < N) : cntB (gI n b o G T m fr) N = cntB (fun t => gE b G T n m t) N := by
  have hp : ∀ x : Nat, (fun x : Nat => gE b G T n m ((x : Int) % N)) (x + N) = (fun x : Nat => gE b G T n m ((x : Int) % N)) x := fun x => by
    show gE b G T n m (((x + N : Nat) : Int) % N) = _
    rw [Int.natCast_add, Int.add_emod_right]
  have hm1 := Int.emod_nonneg (fr - o) (show (N : Int) ≠ 0 by omega)
  have hm2 := Int.emod_lt_of_pos (fr - o) (show (0 : Int) < N by omega)
  obtain ⟨r, hr⟩ : ∃ r : Nat, (fr - o) % (N : Int) = r := ⟨((fr - o) % (N : Int)).toNat, by omega⟩
  have hrN : r ≤ N := by omega
  have h1 := cntB_rot (h := fun x : Nat => gE b G T n m ((x : Int) % N)) (N := N) hp hrN
  have e1 : cntB (gI n b o G T m fr) N = cntB (fun t => (fun x : Nat => gE b G T n m ((x : Int) % N)) (r + t)) N := cntB_congr fun t _ => by
    show gE b G T n m ((fr + t - o) % sumP T b n) = gE b G T n m (((r + t : Nat) : Int) % N)
    rw [hN, Int.natCast_add, ← hr, Int.emod_add_emod, show fr + (t : Int) - o = fr - o + t by omega]
  have e2 : cntB (fun x : Nat => gE b G T n m ((x : Int) % N)) N = cntB (fun t => gE b G T n m t) N := cntB_congr fun t ht => by
    show gE b G T n m ((t : Int) % N) = _
    rw [Int.emod_eq_of_lt (by omega) (by omega)]
  rw [e1, h1, e2]

/-! ### Codes -/
def grC (n : Nat) (b o : Int) (G : Nat → Nat → Bool) (T : Nat → Int) (m tick : Int) : Int :=
  if planP n T b o then (if (0 ≤ m ∧ m ≤ 7) ∧ (0 ≤ tick ∧ tick ≤ 1000000000) then (if greenN n b G T m.toNat = 0 then 6 else 0) else 2) else 1
theorem iisMovement (x : Int) (M : Mem) : Pure Try.prog 31 [.int .i64 x] M (.bool (decide (0 ≤ x ∧ x ≤ 7))) := by
  refine pure_of Try.func31 Try.ntmps31 rfl rfl (by repeat' (first | exact Flat.bool _ | exact Flat.int _ _ | exact Flat.float _ _ | exact Flat.string _ | exact flat_nil | exact flat_tabL (fun _ => Flat.bool _) | exact flat_tabL (fun _ => Flat.int _ _) | exact flat_tabL (fun _ => Flat.float _ _) | refine flat_tuple ?_ | refine flat_agg ?_ | refine flat_cons ?_ ?_ | refine flat_append ?_ ?_)) ?_
  simp only [envOf, Nat.zero_add, Nat.reduceAdd]
  repeat' (first | (refine d_AOs (h := ?_) ; first | refine o_move (h := ?_) | refine o_assign (h := ?_) | refine AOs.nil (h := ?_)  | refine o_call (hc := (iisPlace _ _ _ (by decide))) (h := ?_) | refine o_at (h := ?_) ) | (refine d_AW (h := ?_) ; first | refine AW.seq (h := ?_) | refine AW.region (h := ?_) | (refine AW.cond (ht := (fun hc => ?_)) (hf := (fun hc => ?_)) <;> (try (with_reducible first | exact absurd hc Bool.false_ne_true | exact absurd hc.symm Bool.false_ne_true)) <;> (try simp only [decide_eq_true_eq, decide_eq_false_iff_not, Int.ofNat_inj, Bool.not_eq_true', Bool.not_eq_false', Int.not_lt, Int.not_le] at hc) <;> (try (exfalso; omega)) <;> (try (exact absurd hc (by decide)))) | refine AW.block (h := ?_) | refine AW.ret (h := ?_) | refine AW.skip (h := ?_) | refine AW.exit (h := ?_) ) | (first | refine t_normal ?_ | refine t_ret ?_ | refine t_exit ?_ | refine b_normal ?_ | refine b_exit ?_ | refine b_exit' (by decide) ?_ | refine b_ret ?_) | (refine d_post (h := ?_) ; first | refine p_ret1 rfl (h := ?_) | refine p_end1 rfl (h := ?_) | refine p_cell1 rfl (h := ?_) ))
  all_goals rfl
theorem sl04Movement (x : Int) (M : Mem) : Pure Try.prog 24 [.int .i64 x] M (.bool (decide (0 ≤ x ∧ x ≤ 7))) := by
  refine pure_of Try.func24 Try.ntmps24 rfl rfl (by repeat' (first | exact Flat.bool _ | exact Flat.int _ _ | exact Flat.float _ _ | exact Flat.string _ | exact flat_nil | exact flat_tabL (fun _ => Flat.bool _) | exact flat_tabL (fun _ => Flat.int _ _) | exact flat_tabL (fun _ => Flat.float _ _) | refine flat_tuple ?_ | refine flat_agg ?_ | refine flat_cons ?_ ?_ | refine flat_append ?_ ?_)) ?_
  simp only [envOf, Nat.zero_add, Nat.reduceAdd]
  repeat' (first | (refine d_AOs (h := ?_) ; first | refine o_move (h := ?_) | refine o_assign (h := ?_) | refine AOs.nil (h := ?_)  | refine o_call (hc := (sl00In _ _ _ _)) (h := ?_) | refine o_at (h := ?_) ) | (refine d_AW (h := ?_) ; first | refine AW.seq (h := ?_) | refine AW.region (h := ?_) | (refine AW.cond (ht := (fun hc => ?_)) (hf := (fun hc => ?_)) <;> (try (with_reducible first | exact absurd hc Bool.false_ne_true | exact absurd hc.symm Bool.false_ne_true)) <;> (try simp only [decide_eq_true_eq, decide_eq_false_iff_not, Int.ofNat_inj, Bool.not_eq_true', Bool.not_eq_false', Int.not_lt, Int.not_le] at hc) <;> (try (exfalso; omega)) <;> (try (exact absurd hc (by decide)))) | refine AW.block (h := ?_) | refine AW.ret (h := ?_) | refine AW.skip (h := ?_) | refine AW.exit (h := ?_) ) | (first | refine t_normal ?_ | refine t_ret ?_ | refine t_exit ?_ | refine b_normal ?_ | refine b_exit ?_ | refine b_exit' (by decide) ?_ | refine b_ret ?_) | (refine d_post (h := ?_) ; first | refine p_ret1 rfl (h := ?_) | refine p_end1 rfl (h := ?_) | refine p_cell1 rfl (h := ?_) ))
  all_goals rfl
section
variable (a : Option Addr) (n cp : Nat) (b o : Int) (G : Nat → Nat → Bool) (T : Nat → Int) (m : Int)
/-! ### Green ticks -/
def gtV : Value := if grC n b o G T m 0 = 0 then .tuple [.int .i64 ((greenN n b G T m.toNat : Nat) : Int), .int .i64 0].toArray else .tuple [.int .i64 0, .int .i64 (grC n b o G T m 0)].toArray
theorem gtV_eq : ∃ x y, gtV n b o G T m = .tuple [.int .i64 x, .int .i64 y].toArray := by unfold gtV; split <;> exact ⟨_, _, rfl⟩
theorem flat_gtV : Flat (gtV n b o G T m) := by obtain ⟨x, y, e⟩ := gtV_eq n b o G T m; rw [e]; exact (by repeat' (first | exact Flat.bool _ | exact Flat.int _ _ | exact Flat.float _ _ | exact Flat.string _ | exact flat_nil | exact flat_tabL (fun _ => Flat.bool _) | exact flat_tabL (fun _ => Flat.int _ _) | exact flat_tabL (fun _ => Flat.float _ _) | refine flat_tuple ?_ | refine flat_agg ?_ | refine flat_cons ?_ ?_ | refine flat_append ?_ ?_))
theorem grC_ok {n : Nat} {b o : Int} {G : Nat → Nat → Bool} {T : Nat → Int} {m tick : Int} (h : grC n b o G T m tick = 0) : planP n T b o ∧ (0 ≤ m ∧ m ≤ 7) ∧ (0 ≤ tick ∧ tick ≤ 1000000000) ∧ 0 < greenN n b G T m.toNat := by
  unfold grC at h
  split at h
  · split at h
    · split at h
      · cases h
      · rename_i h1 h2 h3
        exact ⟨h1, h2.1, h2.2, by omega⟩
    · cases h
  · cases h
end
end Go.Proofs.Ytepmlgabadegfaa
