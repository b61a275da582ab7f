/- What is true of the greatest and of the fewest phases. -/
import Derived.Test.YtehmdidkhbmkmaaFw2
import Derived.Test.YtehmdidkhbmkmaaCf
namespace Go.Proofs.Ytehmdidkhbmkmaa
open Go.RowKit
attribute [local irreducible] AW AOs AO AQ AQW thenA inBlockA postA ACalls Pure
set_option linter.unusedSimpArgs false

def subP (p q : Nat → Bool) : Prop := ∀ i, i < 8 → p i = true → q i = true
theorem clr_none {c p : Nat → Bool} : clr c p = false ↔ scanI (clash p c) 8 0 = none := by
  unfold clr
  cases scanI (clash p c) 8 0 <;> simp
theorem clr_less {c p p' : Nat → Bool} (h : subP p' p) (hc : clr c p = false) : clr c p' = false := clr_none.2 (scan_less h (clr_none.1 hc))
theorem clr_more {c p p' : Nat → Bool} (h : subP p' p) (hc : clr c p' = true) : clr c p = true := by
  cases hp : clr c p
  · rw [clr_less h hp] at hc; cases hc
  · rfl
theorem clr_congr {c p q : Nat → Bool} (h : ∀ i, i < 8 → p i = q i) : clr c p = clr c q := by
  cases hq : clr c q
  · exact clr_less (fun i hi hp => by rw [← h i hi]; exact hp) hq
  · exact clr_more (fun i hi hp => by rw [h i hi]; exact hp) hq
abbrev addP (p : Nat → Bool) (k : Nat) : Nat → Bool := fun j => if j = k then true else p j
/-- The phase, and all that can be added to it, one after the other. -/
def extP (c p : Nat → Bool) : Nat → Nat → Bool
  | 0 => p
  | k + 1 => if clr c (addP (extP c p k) k) = true then extP c p k else addP (extP c p k) k
theorem sub_add (p : Nat → Bool) (k : Nat) : subP p (addP p k) := fun i _ h => by
  unfold addP; split
  · rfl
  · exact h
theorem ext_step (c p : Nat → Bool) (k : Nat) : subP (extP c p k) (extP c p (k + 1)) := by
  show subP _ (if _ then _ else _)
  split
  · exact fun i _ h => h
  · exact sub_add _ _
theorem ext_sub (c p : Nat → Bool) : ∀ k, subP p (extP c p k)
  | 0 => fun i _ h => h
  | k + 1 => fun i hi h => ext_step c p k i hi (ext_sub c p k i hi h)
theorem ext_clear {c p : Nat → Bool} (h : clr c p = false) : ∀ k, clr c (extP c p k) = false
  | 0 => h
  | k + 1 => by
    show clr c (if _ then _ else _) = false
    split
    · exact ext_clear h k
    · rename_i hc; simpa using hc
theorem ext_full {c p : Nat → Bool} : ∀ k i, i < k → k ≤ 8 → extP c p k i = true ∨ clr c (addP (extP c p k) i) = true
  | 0, i, hi, _ => by omega
  | k + 1, i, hi, hk => by
    by_cases e : i = k
    · subst e
      show (if _ then _ else _ : Nat → Bool) i = true ∨ clr c (addP (if _ then _ else _) i) = true
      split
      · rename_i hc; exact .inr hc
      · exact .inl (if_pos rfl)
    · rcases ext_full k i (by omega) (by omega) with h | h
      · exact .inl (ext_step c p k i (by omega) h)
      · refine .inr (clr_more (fun j hj hp => ?_) h)
        unfold addP at hp ⊢
        by_cases ej : j = i
        · rw [if_pos ej]
        · rw [if_neg ej] at hp ⊢
          exact ext_step c p k j hj hp
theorem gr_iff {c : Nat → Bool} {n : Nat} : gr c n = true ↔ clr c (nP n) = false ∧ ∀ i, i < 8 → nP n i = true ∨ clr c (nP (n ||| 2 ^ i)) = true := by
  unfold gr
  rw [Bool.and_eq_true, okK_all]
  constructor
  · rintro ⟨h1, h2⟩
    refine ⟨by simpa using h1, fun i hi => ?_⟩
    have := h2 i (by omega) (by omega)
    simpa using this
  · rintro ⟨h1, h2⟩
    refine ⟨by simpa using h1, fun i _ hi => ?_⟩
    have := h2 i (by omega)
    simpa using this
theorem greatest_over {c p : Nat → Bool} (hp : clr c p = false) : ∃ g, g < 256 ∧ gr c g = true ∧ subP p (nP g) := by
  have hg : ∀ i, i < 8 → nP (numP (extP c p 8) 8) i = extP c p 8 i := fun i hi => by rw [nP, numP_testBit, decide_eq_true hi, Bool.true_and]
  refine ⟨numP (extP c p 8) 8, numP_le _ (by omega), gr_iff.2 ⟨?_, fun i hi => ?_⟩, fun i hi h => ?_⟩
  · rw [clr_congr hg]; exact ext_clear hp 8
  · rw [hg i hi]
    rcases ext_full (c := c) (p := p) 8 i hi (Nat.le_refl 8) with h | h
    · exact .inl h
    · refine .inr ?_
      rw [← h]
      refine clr_congr fun j hj => ?_
      rw [nP_or]
      unfold addP
      split
      · rfl
      · exact hg j hj
  · rw [hg i hi]; exact ext_sub c p 8 i hi h
theorem gF_of {c : Nat → Bool} {g : Nat} (h1 : g < 256) (h2 : gr c g = true) : ∃ q, q < (gL c 256).length ∧ gF c q = g := by
  have hm : g ∈ gL c 256 := List.mem_filter.2 ⟨List.mem_range.2 h1, h2⟩
  obtain ⟨q, hq, e⟩ := List.mem_iff_getElem.1 hm
  refine ⟨q, hq, ?_⟩
  unfold gF
  rw [List.getD_eq_getElem?_getD, List.getElem?_eq_getElem hq]
  exact e
theorem gF_gr {c : Nat → Bool} {q : Nat} (hq : q < (gL c 256).length) : gr c (gF c q) = true := by
  have h : gF c q ∈ gL c 256 := by
    unfold gF
    rw [List.getD_eq_getElem?_getD, List.getElem?_eq_getElem hq]; exact List.getElem_mem hq
  exact (List.mem_filter.1 h).2
/-- Nothing of the first is missing in the second. -/
theorem sub_num {p q : Nat → Bool} : numP (fun i => p i && !q i) 8 = 0 ↔ subP p q := by
  rw [numP_zero]
  constructor
  · intro h i hi hp
    have := h i hi
    rw [hp] at this
    simpa using this
  · intro h i hi
    cases hp : p i
    · rfl
    · rw [h i hi hp]; rfl
/-- A phase is clear just if it lies in one of the greatest. -/
theorem clear_in {c p : Nat → Bool} : clr c p = false ↔ ∃ q, q < (gL c 256).length ∧ subP p (nP (gF c q)) := by
  constructor
  · intro h
    obtain ⟨g, h1, h2, h3⟩ := greatest_over h
    obtain ⟨q, hq, rfl⟩ := gF_of h1 h2
    exact ⟨q, hq, h3⟩
  · rintro ⟨q, hq, h⟩
    exact clr_less h (gr_iff.1 (gF_gr hq)).1

/-! ### Covers -/
theorem nP_andN {w n i : Nat} (hi : i < 8) : nP (andN w n) i = (nP w i && !nP n i) := by
  unfold andN; rw [nP, numP_testBit, decide_eq_true hi, Bool.true_and]
theorem ciL_cover {g : Nat → Nat → Option (List Nat)} {f : Nat → Nat} {N : Nat} (hg : ∀ ln w r, g ln w = some r → ∀ i, i < 8 → nP w i = true → ∃ x, x ∈ r ∧ nP x i = true) {w : Nat} : ∀ {ln : Nat} {r : List Nat}, ciL g f N w ln = some r → ∀ i, i < 8 → nP w i = true → ∃ x, x ∈ r ∧ nP x i = true
  | 0, r, h => by simp [ciL] at h
  | ln + 1, r, h => by
    simp only [ciL] at h
    cases hc : g ln (andN w (f (N - (ln + 1)))) with
    | none => rw [hc] at h; exact ciL_cover hg h
    | some r' =>
      rw [hc] at h
      obtain rfl : f (N - (ln + 1)) :: r' = r := by simpa using h
      intro i hi hw
      cases hf : nP (f (N - (ln + 1))) i
      · obtain ⟨x, hx, hxi⟩ := hg ln _ r' hc i hi (by rw [nP_andN hi, hw, hf]; rfl)
        exact ⟨x, List.mem_cons_of_mem _ hx, hxi⟩
      · exact ⟨_, List.mem_cons_self, hf⟩
theorem csF_cover (f : Nat → Nat) (N : Nat) : ∀ k ln w r, csF f N k ln w = some r → ∀ i, i < 8 → nP w i = true → ∃ x, x ∈ r ∧ nP x i = true
  | 0, ln, w, r, h => by
    simp only [csF] at h
    split at h
    · rename_i hw; subst hw; intro i _ hi; simp [nP] at hi
    · cases h
  | k + 1, ln, w, r, h => by
    simp only [csF] at h
    split at h
    · rename_i hw; subst hw; intro i _ hi; simp [nP] at hi
    · exact ciL_cover (csF_cover f N k) h
theorem ciL_one {f : Nat → Nat} {N w : Nat} : ∀ {ln : Nat}, ln ≤ N → (∃ q, N - ln ≤ q ∧ q < N ∧ andN w (f q) = 0) → ciL (csF f N 0) f N w ln ≠ none
  | 0, _, ⟨q, h1, h2, _⟩ => by omega
  | ln + 1, hl, ⟨q, h1, h2, h3⟩ => by
    simp only [ciL, csF]
    by_cases e : q = N - (ln + 1)
    · subst e; rw [if_pos h3]; simp
    · by_cases h0 : andN w (f (N - (ln + 1))) = 0
      · rw [if_pos h0]; simp
      · rw [if_neg h0]
        exact ciL_one (by omega) ⟨q, by omega, h2, h3⟩
theorem eq_zero8 {w : Nat} (hw : w < 256) (h : ∀ i, i < 8 → nP w i = false) : w = 0 := by
  rw [← numP_nP hw]
  exact numP_zero.2 h
theorem andN_zero {p : Nat → Bool} {g : Nat} : andN (numP p 8) g = 0 ↔ subP p (nP g) := by
  have e : andN (numP p 8) g = numP (fun i => p i && !nP g i) 8 := by
    unfold andN
    exact numP_congr 8 fun i hi => by rw [nP, numP_testBit, decide_eq_true hi, Bool.true_and]
  rw [e, sub_num]
section
variable {c p : Nat → Bool} {r : List Nat}
theorem few_cover (h : fewS c p = some r) : ∀ i, i < 8 → p i = true → ∃ x, x ∈ r ∧ nP x i = true := by
  refine few_mem (Q := fun r => ∀ i, i < 8 → p i = true → ∃ x, x ∈ r ∧ nP x i = true) (fun k r hk _ i hi hp => ?_) 5 0 r (by omega) h
  exact csF_cover _ _ k _ _ r hk i hi (by rw [nP, numP_testBit, decide_eq_true hi, hp]; rfl)
theorem few_in (h : fewS c p = some r) : ∀ x, x ∈ r → ∃ q, q < (gL c 256).length ∧ x = gF c q := by
  refine few_mem (Q := fun r => ∀ x, x ∈ r → ∃ q, q < (gL c 256).length ∧ x = gF c q) (fun k r hk _ => ?_) 5 0 r (by omega) h
  exact (csF_mem _ _ k _ _ r (Nat.le_refl _) hk).2
theorem few_nil (h : fewS c p = some r) : r.length = 0 ↔ numP p 8 = 0 := by
  constructor
  · intro hl
    obtain rfl := List.eq_nil_of_length_eq_zero hl
    refine numP_zero.2 fun i hi => ?_
    cases hp : p i
    · rfl
    · obtain ⟨x, hx, _⟩ := few_cover h i hi hp; simp at hx
  · intro hw
    unfold fewS at h
    simp only [fewR, csF, hw, if_true] at h
    obtain rfl : [] = r := by simpa using h
    rfl
theorem few_one (h : fewS c p = some r) (hl : r.length = 1) : clr c p = false := by
  match r, hl with
  | [g], _ =>
    obtain ⟨q, hq, rfl⟩ := few_in h g (by simp)
    refine clear_in.2 ⟨q, hq, fun i hi hp => ?_⟩
    obtain ⟨x, hx, hxi⟩ := few_cover h i hi hp
    obtain rfl : x = gF c q := by simpa using hx
    exact hxi
theorem few_two (h : fewS c p = some r) (hl : r.length = 2) : clr c p = true := by
  cases hc : clr c p
  · exfalso
    obtain ⟨q, hq, hs⟩ := clear_in.1 hc
    have hw : numP p 8 ≠ 0 := fun e => by have := (few_nil h).2 e; omega
    have h1 : csF (gF c) (gL c 256).length 0 (gL c 256).length (numP p 8) = none := by simp [csF, hw]
    have h2 := ciL_one (f := gF c) (N := (gL c 256).length) (w := numP p 8) (Nat.le_refl _) ⟨q, by omega, hq, andN_zero.2 hs⟩
    have e3 : csF (gF c) (gL c 256).length 1 (gL c 256).length (numP p 8) = ciL (csF (gF c) (gL c 256).length 0) (gF c) (gL c 256).length (numP p 8) (gL c 256).length := by
      show (if _ then _ else _) = _
      rw [if_neg hw]
    obtain ⟨r1, hr1⟩ : ∃ r1, csF (gF c) (gL c 256).length 1 (gL c 256).length (numP p 8) = some r1 := by
      rw [e3]
      cases hx : ciL (csF (gF c) (gL c 256).length 0) (gF c) (gL c 256).length (numP p 8) (gL c 256).length with
      | none => exact (h2 hx).elim
      | some r1 => exact ⟨r1, rfl⟩
    have hle := (csF_mem _ _ 1 _ _ r1 (Nat.le_refl _) hr1).1
    have h5 : fewS c p = some r1 := by
      show fewR (fun k => csF (gF c) (gL c 256).length k (gL c 256).length (numP p 8)) 5 0 = some r1
      simp only [fewR]
      rw [h1]
      simp only [Nat.zero_add]
      rw [hr1]
    rw [h5] at h
    obtain rfl : r1 = r := by simpa using h
    omega
  · rfl
end
/-- All that the phases of a list give green. -/
def orL (r : List Nat) (k : Nat) (i : Nat) : Bool := decide (∃ q, q < k ∧ nP (r.getD q 0) i = true)
end Go.Proofs.Ytehmdidkhbmkmaa
