/- Movements that are drawn, their table, and conflicts: the law. -/
import Derived.Test.YtehmdidkhbmkmaaDr2
import Derived.Test.YtehmdidkhbmkmaaCr3
import Derived.Test.YtehmdidkhbmkmaaGp
import Derived.Test.YtehmdidkhbmkmaaEa
namespace Go.Proofs.Ytehmdidkhbmkmaa
open Go.RowKit
attribute [local irreducible] AW AOs AO AQ AQW thenA inBlockA postA ACalls Pure
set_option linter.unusedSimpArgs false

/-! ### Scans -/
theorem scanK_none {q : Nat → Bool} : ∀ {n k : Nat}, scanK q n k = none ↔ ∀ i, k ≤ i → i < k + n → q i = false
  | 0, k => by simp [scanK]; intro i h1 h2; omega
  | n + 1, k => by
    simp only [scanK]
    by_cases h : q k = true
    · rw [if_pos h]
      constructor
      · intro h2; cases h2
      · intro h2; have := h2 k (by omega) (by omega); rw [h] at this; cases this
    · rw [if_neg h, scanK_none]
      constructor
      · intro h2 i h3 h4
        by_cases e : i = k
        · subst e; simpa using h
        · exact h2 i (by omega) (by omega)
      · intro h2 i h3 h4; exact h2 i (by omega) (by omega)
theorem scanK_some {q : Nat → Bool} : ∀ {n k x : Nat}, scanK q n k = some x → k ≤ x ∧ x < k + n ∧ q x = true
  | 0, k, x, h => by simp [scanK] at h
  | n + 1, k, x, h => by
    simp only [scanK] at h
    by_cases hq : q k = true
    · rw [if_pos hq] at h
      obtain rfl : k = x := by simpa using h
      exact ⟨by omega, by omega, hq⟩
    · rw [if_neg hq] at h
      have := scanK_some h
      exact ⟨by omega, by omega, this.2.2⟩
theorem scanI_none {q : Nat → Nat → Bool} : ∀ {n i : Nat}, scanI q n i = none ↔ ∀ a, i ≤ a → a < i + n → ∀ k, a + 1 ≤ k → k < a + 1 + (7 - a) → q a k = false
  | 0, i => by simp [scanI]; intro a h1 h2; omega
  | n + 1, i => by
    simp only [scanI]
    cases h : scanK (q i) (7 - i) (i + 1) with
    | some k =>
      constructor
      · intro h2; cases h2
      · intro h2
        obtain ⟨h3, h4, h5⟩ := scanK_some h
        have := h2 i (by omega) (by omega) k h3 h4
        rw [h5] at this; cases this
    | none =>
      simp only
      rw [scanI_none]
      have h6 := scanK_none.1 h
      constructor
      · intro h2 a h3 h4 k h7 h8
        by_cases e : a = i
        · subst e; exact h6 k h7 h8
        · exact h2 a (by omega) (by omega) k h7 h8
      · intro h2 a h3 h4 k h7 h8; exact h2 a (by omega) (by omega) k h7 h8
theorem scanI_some {q : Nat → Nat → Bool} : ∀ {n i a k : Nat}, scanI q n i = some (a, k) → i ≤ a ∧ a < i + n ∧ a + 1 ≤ k ∧ k < a + 1 + (7 - a) ∧ q a k = true
  | 0, i, a, k, h => by simp [scanI] at h
  | n + 1, i, a, k, h => by
    simp only [scanI] at h
    cases hk : scanK (q i) (7 - i) (i + 1) with
    | some x =>
      rw [hk] at h
      obtain ⟨rfl, rfl⟩ : i = a ∧ x = k := by simpa using h
      have := scanK_some hk
      exact ⟨by omega, by omega, this.1, this.2.1, this.2.2⟩
    | none =>
      rw [hk] at h
      have := scanI_some h
      exact ⟨by omega, by omega, this.2.2⟩
/-- Fewer movements have fewer conflicts. -/
theorem scan_less {c p p' : Nat → Bool} (hp : ∀ i, i < 8 → p' i = true → p i = true) (h : scanI (clash p c) 8 0 = none) : scanI (clash p' c) 8 0 = none := by
  rw [scanI_none] at h ⊢
  intro a h1 h2 k h3 h4
  have h5 := h a h1 h2 k h3 h4
  unfold clash at h5 ⊢
  by_cases ha : p' a = true
  · by_cases hk : p' k = true
    · rw [hp a (by omega) ha, hp k (by omega) hk] at h5
      rw [ha, hk]; exact h5
    · simp only [Bool.not_eq_true] at hk; rw [hk]; simp
  · simp only [Bool.not_eq_true] at ha; rw [ha]; simp

/-! ### The table -/
theorem meet4 : ∀ a b c d : Fin 4, a ≠ b → c ≠ d → meetF a.val b.val c.val d.val = meetF c.val d.val a.val b.val := by decide +kernel
theorem meetF_symm {a b c d : Int} (ha : 0 ≤ a ∧ a ≤ 3) (hb : 0 ≤ b ∧ b ≤ 3) (hc : 0 ≤ c ∧ c ≤ 3) (hd : 0 ≤ d ∧ d ≤ 3) (h1 : a ≠ b) (h2 : c ≠ d) : meetF a b c d = meetF c d a b := by
  have h := meet4 ⟨a.toNat, by omega⟩ ⟨b.toNat, by omega⟩ ⟨c.toNat, by omega⟩ ⟨d.toNat, by omega⟩ (fun e => h1 (by have := congrArg Fin.val e; simp at this; omega)) (fun e => h2 (by have := congrArg Fin.val e; simp at this; omega))
  simp only [show ((a.toNat : Nat) : Int) = a by omega, show ((b.toNat : Nat) : Int) = b by omega, show ((c.toNat : Nat) : Int) = c by omega, show ((d.toNat : Nat) : Int) = d by omega] at h
  exact h
theorem meetF_back {a b c d : Int} (h1 : a ≠ b) (h2 : a = d) (h3 : b = c) : meetF a b c d = false := by
  subst h2; subst h3
  unfold meetF
  rw [if_neg h1, if_neg (fun e => h1 e.symm), if_pos (.inl rfl)]
theorem meetF_to {a b c d : Int} (h1 : a ≠ c) (h2 : b = d) : meetF a b c d = true := by
  unfold meetF; rw [if_neg h1, if_pos h2]
theorem meetF_from {a b c d : Int} (h1 : a = c) : meetF a b c d = false := by
  unfold meetF; rw [if_pos h1]
abbrev mvT (f g : Nat → Int) (cN : Nat) : Nat → Bool := cellF (fun i k => meetF (f i) (g i) (f k) (g k)) cN cN 0
theorem mvT_at {f g : Nat → Int} {cN i k : Nat} (hk : k < 8) : mvT f g cN (i * 8 + k) = (decide (k < cN) && decide (i < cN) && meetF (f i) (g i) (f k) (g k)) := by
  have e1 : (i * 8 + k) % 8 = k := by omega
  have e2 : (i * 8 + k) / 8 = i := by omega
  unfold mvT cellF
  rw [e1, e2]
  simp
theorem mvT_ok {f g : Nat → Int} {cN : Nat} (hb : ∀ i, i < cN → (0 ≤ f i ∧ f i ≤ 3) ∧ (0 ≤ g i ∧ g i ≤ 3) ∧ f i ≠ g i) : tabOk (mvT f g cN) = true := by
  unfold tabOk
  rw [okK_all]
  intro i _ hi
  rw [okK_all]
  intro k _ hk
  unfold tOk
  rw [mvT_at (by omega), mvT_at (by omega)]
  by_cases h1 : i < cN
  · by_cases h2 : k < cN
    · rw [decide_eq_true h1, decide_eq_true h2]
      obtain ⟨a1, a2, a3⟩ := hb i h1
      obtain ⟨b1, b2, b3⟩ := hb k h2
      rw [meetF_symm a1 a2 b1 b2 a3 b3]
      by_cases e : i = k
      · subst e; rw [meetF_from rfl]; simp
      · simp [e]
    · rw [decide_eq_false h2]; simp
  · rw [decide_eq_false h1]; simp

theorem phase_back {p : Nat → Bool} (M : Mem) : Pure Try.prog 67 [.int .i64 ((numP p 8 : Nat) : Int)] M (.tuple [.agg (tab 8 fun i => .bool (p i)).toArray, .int .i64 0].toArray) := by
  have h := iPhaseOf ((numP p 8 : Nat) : Int) M
  have hl := numP_le p (i := 8) (by omega)
  unfold phaseOfV at h
  rw [if_pos ⟨by omega, by omega⟩] at h
  have e : bools 8 (phP ((numP p 8 : Nat) : Int)) = tab 8 fun i => .bool (p i) := tab_congr fun i hi => by
    rw [phP_nat hl hi, nP, numP_testBit, decide_eq_true hi, Bool.true_and]
  rw [e] at h
  exact h
section
variable (a : Option Addr) (n cp : Nat) (cd : Nat → Int)
abbrev mF (i : Nat) : Int := mvA (mvF n cd (pkS n cd (0, 0) 9)) (mvC n cd (0, 0)) i
abbrev mG (i : Nat) : Int := mvA (mvG n cd (pkS n cd (0, 0) 9)) (mvC n cd (0, 0)) i
theorem sP6Moves (hcd : ∀ q, 0 ≤ cd q ∧ cd q ≤ 255) (hn : n ≤ 1048576) (M : Mem) (hS : SlAt M a n (tab n fun q => .int .u8 (cd q))) :
    Pure Try.prog 59 [.slice a n cp] M (.tuple [.agg (tab 8 fun i => .int .i64 (mF n cd i)).toArray, .agg (tab 8 fun i => .int .i64 (mG n cd i)).toArray, .int .i64 (mvC n cd (0, 0))].toArray) := by
  refine pure_of Try.func59 Try.ntmps59 rfl rfl (by repeat' (first | exact Flat.bool _ | exact Flat.int _ _ | exact Flat.float _ _ | exact Flat.string _ | exact flat_nil | exact flat_tabL (fun _ => Flat.bool _) | exact flat_tabL (fun _ => Flat.int _ _) | exact flat_tabL (fun _ => Flat.float _ _) | refine flat_tuple ?_ | refine flat_agg ?_ | refine flat_cons ?_ ?_ | refine flat_append ?_ ?_)) ?_
  have hp := fun j M' h1 h2 => smoving a n cp cd hcd hn (0, 0) j M' (by simp) h1 h2
  simp only [envOf, Nat.zero_add, Nat.reduceAdd]
  repeat' (first | (refine d_AOs (h := ?_) ; first | refine o_move (h := ?_) | refine o_assign (h := ?_) | refine AOs.nil (h := ?_)  | refine o_callA (hc := (sfrom a n cp _)) (h := ?_) | refine o_callM (hc := (hp _ _ (by first | (simp only [mem_tail, mem_tail0, List.getElem?_cons_zero, List.getElem?_cons_succ]; first | done | rfl) | exact mem_head (by assumption) | assumption | (simp only [mem_tailS, mem_tailS0, List.getElem?_cons_zero, List.getElem?_cons_succ]; first | done | rfl) | exact mem_set1 (by assumption) | exact mem_set0 (by assumption) | exact mem_setN1 (by assumption) (by assumption) | exact mem_setN (by assumption) (by assumption)) (by first | exact hS | exact hS.append))) (h := ?_) | refine o_at (h := ?_) | refine o_store (h := ?_) | refine o_alloc (h := ?_) | refine o_extract (h := ?_) ) | (refine d_AW (h := ?_) ; first | refine AW.seq (h := ?_) | refine AW.region (h := ?_) | (refine AW.cond (ht := (fun hc => ?_)) (hf := (fun hc => ?_)) <;> (try (with_reducible first | exact absurd hc Bool.false_ne_true | exact absurd hc.symm Bool.false_ne_true)) <;> (try simp only [decide_eq_true_eq, decide_eq_false_iff_not, Int.ofNat_inj, Bool.not_eq_true', Bool.not_eq_false', Int.not_lt, Int.not_le] at hc) <;> (try (exfalso; omega)) <;> (try (exact absurd hc (by decide)))) | refine AW.block (h := ?_) | refine AW.ret (h := ?_) | refine AW.skip (h := ?_) | refine AW.exit (h := ?_) ) | (first | refine t_normal ?_ | refine t_ret ?_ | refine t_exit ?_ | refine b_normal ?_ | refine b_exit ?_ | refine b_exit' (by decide) ?_ | refine b_ret ?_) | (refine d_post (h := ?_) ; first | refine p_ret3 rfl (h := ?_) ))
  all_goals rfl
end
end Go.Proofs.Ytehmdidkhbmkmaa
