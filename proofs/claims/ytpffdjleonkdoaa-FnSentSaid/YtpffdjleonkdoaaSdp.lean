/- What is sent, queues and jams: plain facts. -/
import Derived.Test.YtpffdjleonkdoaaSd
import Derived.Test.YtpffdjleonkdoaaMc
import Derived.Test.YtpffdjleonkdoaaDw
namespace Go.Proofs.Ytpffdjleonkdoaa
open Go.RowKit
attribute [local irreducible] AW AOs AO AQ AQW thenA inBlockA postA ACalls Pure
set_option linter.unusedSimpArgs false
set_option linter.unusedVariables false
set_option linter.unusedSectionVars false

theorem quN_ok {g : Nat → Bool} : ∀ k m, k + m = 16 → m ≤ quN g k m ∧ quN g k m ≤ 16 ∧ (∀ x, m ≤ x → x < quN g k m → g (15 - x) = true) ∧ (quN g k m < 16 → g (15 - quN g k m) = false)
  | 0, m, h => by
    show m ≤ m ∧ m ≤ 16 ∧ (∀ x, m ≤ x → x < m → _) ∧ (m < 16 → _)
    exact ⟨Nat.le_refl _, by omega, fun x h1 h2 => absurd h2 (by omega), fun h2 => absurd h2 (by omega)⟩
  | k + 1, m, h => by
    unfold quN
    cases hg : g (15 - m)
    · rw [if_neg (by decide)]
      exact ⟨Nat.le_refl _, by omega, fun x h1 h2 => absurd h2 (by omega), fun _ => hg⟩
    · rw [if_pos rfl]
      obtain ⟨h1, h2, h3, h4⟩ := quN_ok (g := g) k (m + 1) (by omega)
      refine ⟨by omega, h2, fun x hx1 hx2 => ?_, h4⟩
      by_cases e : x = m
      · subst e; exact hg
      · exact h3 x (by omega) hx2
def jA (L : List (Int × Int)) (q : Nat) : Int := (L.getD q (0, 0)).1
def jZ (L : List (Int × Int)) (q : Nat) : Int := (L.getD q (0, 0)).2
theorem jm_ok (g : Nat → Bool) : ∀ i, (∀ x : Nat, x < i → (g x = true ↔ ∃ q, q < (jmL g i).length ∧ jA (jmL g i) q ≤ (x : Int) ∧ (x : Int) ≤ jZ (jmL g i) q)) ∧ (∀ q, q < (jmL g i).length → jZ (jmL g i) q < (i : Int)) ∧ (jmIn g i = true → jZ (jmL g i) ((jmL g i).length - 1) = (i : Int) - 1 ∧ jA (jmL g i) ((jmL g i).length - 1) ≤ (i : Int) - 1)
  | 0 => ⟨fun x h => absurd h (by omega), fun q h => absurd h (Nat.not_lt_zero q), fun h => by cases h⟩
  | i + 1 => by
    obtain ⟨h1, h2, h3⟩ := jm_ok g i
    have hp := jm_pos g i
    have hin : jmIn g (i + 1) = g i := rfl
    rw [hin]
    generalize hL : jmL g i = L at *
    cases hg : g i
    · have e : jmL g (i + 1) = L := by show (if g i = true then _ else jmL g i) = L; rw [hg, if_neg (by decide), hL]
      rw [e]
      refine ⟨fun x hx => ?_, fun q hq => by have := h2 q hq; omega, fun h => by cases h⟩
      by_cases hxi : x = i
      · subst hxi
        rw [hg]
        exact ⟨fun h => by (cases h), fun ⟨q, q1, q2, q3⟩ => by have := h2 q q1; omega⟩
      · exact h1 x (by omega)
    · cases hj : jmIn g i
      · have e : jmL g (i + 1) = L ++ [((i : Int), (i : Int))] := by
          show (if g i = true then (if jmIn g i = true then _ else jmL g i ++ _) else _) = _
          rw [hg, hj, if_pos rfl, if_neg (by decide), hL]
        rw [e]
        have ea : ∀ q, q < L.length → jA (L ++ [((i : Int), (i : Int))]) q = jA L q ∧ jZ (L ++ [((i : Int), (i : Int))]) q = jZ L q := fun q hq => by
          unfold jA jZ
          rw [List.getD_eq_getElem?_getD, List.getElem?_append_left hq, ← List.getD_eq_getElem?_getD]; exact ⟨rfl, rfl⟩
        have eb : jA (L ++ [((i : Int), (i : Int))]) L.length = i ∧ jZ (L ++ [((i : Int), (i : Int))]) L.length = i := by
          unfold jA jZ
          rw [List.getD_eq_getElem?_getD, List.getElem?_append_right (Nat.le_refl _)]; simp
        have el : (L ++ [((i : Int), (i : Int))]).length = L.length + 1 := by simp
        rw [el]
        refine ⟨fun x hx => ?_, fun q hq => ?_, fun _ => ?_⟩
        · constructor
          · intro hgx
            by_cases hxi : x = i
            · subst hxi
              exact ⟨L.length, by omega, by rw [eb.1]; omega, by rw [eb.2]; omega⟩
            · obtain ⟨q, q1, q2, q3⟩ := (h1 x (by omega)).1 hgx
              exact ⟨q, by omega, by rw [(ea q q1).1]; exact q2, by rw [(ea q q1).2]; exact q3⟩
          · intro ⟨q, q1, q2, q3⟩
            by_cases hql : q = L.length
            · subst hql
              rw [eb.1] at q2
              obtain rfl : x = i := by omega
              exact hg
            · rw [(ea q (by omega)).1] at q2
              rw [(ea q (by omega)).2] at q3
              have := h2 q (by omega)
              exact (h1 x (by omega)).2 ⟨q, by omega, q2, q3⟩
        · by_cases hql : q = L.length
          · subst hql; rw [eb.2]; omega
          · rw [(ea q (by omega)).2]; have := h2 q (by omega); omega
        · rw [Nat.add_sub_cancel, eb.1, eb.2]; omega
      · have hp' := hp hj
        obtain ⟨h4, h5⟩ := h3 hj
        have e : jmL g (i + 1) = L.set (L.length - 1) ((L.getD (L.length - 1) (0, 0)).1, (i : Int)) := by
          show (if g i = true then (if jmIn g i = true then (jmL g i).set _ _ else _) else _) = _
          rw [hg, hj, if_pos rfl, if_pos rfl, hL]
        rw [e]
        have ea : ∀ q, q ≠ L.length - 1 → jA (L.set (L.length - 1) ((L.getD (L.length - 1) (0, 0)).1, (i : Int))) q = jA L q ∧ jZ (L.set (L.length - 1) ((L.getD (L.length - 1) (0, 0)).1, (i : Int))) q = jZ L q := fun q hq => by
          unfold jA jZ
          rw [List.getD_eq_getElem?_getD, List.getElem?_set_ne (Ne.symm hq), ← List.getD_eq_getElem?_getD]; exact ⟨rfl, rfl⟩
        have eb : jA (L.set (L.length - 1) ((L.getD (L.length - 1) (0, 0)).1, (i : Int))) (L.length - 1) = jA L (L.length - 1) ∧ jZ (L.set (L.length - 1) ((L.getD (L.length - 1) (0, 0)).1, (i : Int))) (L.length - 1) = i := by
          unfold jA jZ
          rw [List.getD_eq_getElem?_getD, List.getElem?_set_self (by omega)]; exact ⟨rfl, rfl⟩
        rw [List.length_set]
        refine ⟨fun x hx => ?_, fun q hq => ?_, fun _ => ?_⟩
        · constructor
          · intro hgx
            by_cases hxi : x = i
            · subst hxi
              exact ⟨L.length - 1, by omega, by rw [eb.1]; omega, by rw [eb.2]; omega⟩
            · obtain ⟨q, q1, q2, q3⟩ := (h1 x (by omega)).1 hgx
              by_cases hql : q = L.length - 1
              · subst hql
                exact ⟨L.length - 1, by omega, by rw [eb.1]; exact q2, by rw [eb.2]; omega⟩
              · exact ⟨q, by omega, by rw [(ea q hql).1]; exact q2, by rw [(ea q hql).2]; exact q3⟩
          · intro ⟨q, q1, q2, q3⟩
            by_cases hxi : x = i
            · subst hxi; exact hg
            · by_cases hql : q = L.length - 1
              · subst hql
                rw [eb.1] at q2
                exact (h1 x (by omega)).2 ⟨L.length - 1, by omega, q2, by omega⟩
              · rw [(ea q hql).1] at q2
                rw [(ea q hql).2] at q3
                exact (h1 x (by omega)).2 ⟨q, q1, q2, q3⟩
        · by_cases hql : q = L.length - 1
          · subst hql; rw [eb.2]; omega
          · rw [(ea q hql).2]; have := h2 q hq; omega
        · rw [eb.1, eb.2]; omega
/-- Whether a cell lies in one of the first jams. -/
def inK (L : List (Int × Int)) (x : Int) : Nat → Bool
  | 0 => false
  | k + 1 => inK L x k || (decide (jA L k ≤ x) && decide (x ≤ jZ L k))
theorem inK_iff {L : List (Int × Int)} {x : Int} : ∀ k, inK L x k = true ↔ ∃ q, q < k ∧ jA L q ≤ x ∧ x ≤ jZ L q
  | 0 => ⟨fun h => (by cases h), fun ⟨q, h, _⟩ => absurd h (Nat.not_lt_zero q)⟩
  | k + 1 => by
    unfold inK
    rw [Bool.or_eq_true, inK_iff k, Bool.and_eq_true, decide_eq_true_eq, decide_eq_true_eq]
    constructor
    · rintro (⟨q, h1, h2⟩ | ⟨h1, h2⟩)
      · exact ⟨q, by omega, h2⟩
      · exact ⟨k, by omega, h1, h2⟩
    · rintro ⟨q, h1, h2⟩
      by_cases e : q = k
      · subst e; exact .inr h2
      · exact .inl ⟨q, by omega, h2⟩
theorem inK_g (g : Nat → Bool) {i : Nat} (hi : i < 16) : inK (jmL g 16) (i : Int) (jmL g 16).length = g i := by
  have h := (jm_ok g 16).1 i hi
  rw [← inK_iff] at h
  cases h1 : inK (jmL g 16) (i : Int) (jmL g 16).length
  · cases h2 : g i
    · rfl
    · rw [h1] at h; exact absurd (h.1 h2) (by decide)
  · exact (h.2 h1).symm
theorem free_g (g : Nat → Bool) : (!decide (0 ≤ idxK g 16 0)) = decide ((((jmL g 16).length : Nat) : Int) = 0) := by
  have h0 : (0 ≤ idxK g 16 0) ↔ ∃ q, 0 ≤ q ∧ q < 0 + 16 ∧ g q = true := idxK_pos 16 0
  have hj := (jm_ok g 16).1
  by_cases h : (jmL g 16).length = 0
  · rw [decide_eq_true (show (((jmL g 16).length : Nat) : Int) = 0 by omega), decide_eq_false]; rfl
    rw [h0]
    rintro ⟨q, _, h1, h2⟩
    obtain ⟨x, h3, _⟩ := (hj q (by omega)).1 h2
    omega
  · rw [decide_eq_false (show ¬ (((jmL g 16).length : Nat) : Int) = 0 by omega), decide_eq_true]; rfl
    rw [h0]
    refine Classical.byContradiction fun hn => h ?_
    have hz : ∀ q, q < 16 → g q = false := fun q hq => by
      cases h1 : g q
      · rfl
      · exact (hn ⟨q, by omega, by omega, h1⟩).elim
    have : ∀ k, k ≤ 16 → jmL g k = [] := fun k => by
      induction k with
      | zero => intro _; rfl
      | succ k ih =>
        intro hk
        show (if g k = true then _ else jmL g k) = []
        rw [hz k (by omega), if_neg (by decide)]
        exact ih (by omega)
    rw [this 16 (by omega)]; rfl
/-! ### Words -/
theorem eps_of {x y : Nat} (hx : fin32 x = true) (hy : fin32 y = true) (h1 : fv x ≤ fv y + 2 ^ 134) (h2 : fv y ≤ fv x + 2 ^ 134) (h3 : fv x ≤ 2 ^ 160) (h4 : -(2 ^ 160) ≤ fv x) : fle .f32 (fsub .f32 x y) 953267991 = true ∧ fle .f32 (fsub .f32 y x) 953267991 = true := by
  obtain ⟨e1, _, e2, e3⟩ := eps_fv
  have r1 := rnd_sub' hx hy (by omega) (by omega)
  have r2 := rnd_sub' hy hx (by omega) (by omega)
  rw [fle_fv r1.1 e1, fle_fv r2.1 e1]
  exact ⟨decide_eq_true (r1.le_of e1 (by simp; omega)), decide_eq_true (r2.le_of e1 (by simp; omega))⟩
def snB (p b : Nat) : Bool := decide (0 < fv (bestF p b)) && decide (fv (bestF p b) < 2 ^ 149) && decide (fv (fmul .f32 b (fsub .f32 1065353216 (bestF p b))) ≤ fv (mostF2 p b) + 2 ^ 130)
theorem sn_all : ((List.range 16).all fun k => (List.range 16).all fun k' => snB (pbw k) (pbw k')) = true := by decide +kernel
theorem sn_dr {c : Nat → Nat} {p b l : Nat} (h : RdDr c p b l) : 0 < fv (bestF p b) ∧ fv (bestF p b) < U ∧ fv (fmul .f32 b (fsub .f32 1065353216 (bestF p b))) ≤ fv (mostF2 p b) + 2 ^ 130 := by
  obtain ⟨k, hk, rfl⟩ := h.pace
  obtain ⟨k', hk', rfl⟩ := h.back
  have h := sn_all
  rw [List.all_eq_true] at h
  have h2 := h k.toNat (List.mem_range.2 (by omega))
  rw [List.all_eq_true] at h2
  have h3 := h2 k'.toNat (List.mem_range.2 (by omega))
  rw [Int.toNat_of_nonneg hk.1, Int.toNat_of_nonneg hk'.1] at h3
  unfold snB at h3
  simp only [Bool.and_eq_true, decide_eq_true_eq] at h3
  exact ⟨h3.1.1, h3.1.2, h3.2⟩
section
variable {p b : Nat} (hpb : PbOk p b)
include hpb
theorem snd_near {x : Nat} (hx : nn x ∧ fv x ≤ U) (hle : fle .f32 x (bestF p b) = true) : fle .f32 (fsub .f32 (sndF p b x) (fmul .f32 p x)) 953267991 = true ∧ fle .f32 (fsub .f32 (fmul .f32 p x) (sndF p b x)) 953267991 = true := by
  obtain ⟨b1, _, b3⟩ := pb_best hpb
  rw [fle_fv hx.1.1 b1.1] at hle
  have hle := of_decide_eq_true hle
  have c1 : fv (fmul .f32 p x) ≤ fv (mostF2 p b) + 0 + 2 ^ 126 := mul_close hpb ⟨hpb.pn, hpb.p1⟩ hx ⟨b1, b3⟩ (by omega) (Int.le_refl 0)
  obtain ⟨s1, s2, _, s4⟩ := pb_snd hpb hx.1 hx.2
  obtain ⟨m1, _, m3, _⟩ := mul_sh hpb hpb.pn hpb.p1 hx.1 hx.2
  have s0 := nn_bd s1
  have hp1 := hpb.p1
  have hU := U_val
  exact eps_of s1.1 m1.1 (by omega) (by omega) (by omega) (by omega)
theorem tks_near {x : Nat} (hv : fv (fmul .f32 b (fsub .f32 1065353216 (bestF p b))) ≤ fv (mostF2 p b) + 2 ^ 130) (hx : nn x ∧ fv x ≤ U) (hge : fge .f32 x (bestF p b) = true) : fle .f32 (fsub .f32 (tksF p b x) (fmul .f32 b (fsub .f32 1065353216 x))) 953267991 = true ∧ fle .f32 (fsub .f32 (fmul .f32 b (fsub .f32 1065353216 x)) (tksF p b x)) 953267991 = true := by
  obtain ⟨b1, _, b3⟩ := pb_best hpb
  rw [fge_fv hx.1.1 b1.1] at hge
  have hge := of_decide_eq_true hge
  obtain ⟨o1, _, o3⟩ := sub_one hpb hx.1 hx.2
  obtain ⟨q1, _, q3⟩ := sub_one hpb b1 b3
  have c0 := one_close hpb (D := 0) hx ⟨b1, b3⟩ (by omega)
  have c1 := mul_close hpb (D := 2 ^ 126) ⟨hpb.bn, hpb.b1⟩ ⟨o1, o3⟩ ⟨q1, q3⟩ (by omega) (by omega)
  obtain ⟨s1, s2, s3, _⟩ := pb_tks hpb hx.1 hx.2
  obtain ⟨m1, _, m3, _⟩ := mul_sh hpb hpb.bn hpb.b1 o1 o3
  have s0 := nn_bd s1
  have hb1 := hpb.b1
  have hU := U_val
  exact eps_of s1.1 m1.1 (by omega) (by omega) (by omega) (by omega)
theorem sp_ok {c : Nat → Nat} (hc : ∀ q, q < 16 → nn (c q) ∧ fv (c q) ≤ U) {i : Nat} (hi : i < 16) : nn (spF p (c i) (spA c p b i)) ∧ fv (spF p (c i) (spA c p b i)) ≤ fv p := by
  obtain ⟨x1, x2⟩ := hc i hi
  unfold spF
  cases e : feq .f32 (c i) 0
  · rw [if_neg (by decide)]
    rw [feq_fv x1.1 nn_zero.1, fv_zero] at e
    have e := of_decide_eq_false e
    have x0 := nn_bd x1
    have hfl : nn (spA c p b i) ∧ fv (spA c p b i) ≤ fv (c i) := by
      unfold spA
      by_cases h15 : i < 15
      · rw [if_pos h15]
        obtain ⟨y1, y2⟩ := hc (i + 1) (by omega)
        obtain ⟨f1, _, _, f4⟩ := flw_fv hpb hc x1 x2 y1 y2
        exact ⟨f1, f4⟩
      · rw [if_neg h15]
        obtain ⟨s1, _, s3, _⟩ := pb_snd hpb x1 x2
        exact ⟨s1, s3⟩
    have hU := U_val
    obtain ⟨d1, _⟩ := nn_div hfl.1 x1 (by omega) (by
      have e1 := Int.mul_le_mul_of_nonneg_right hfl.2 (show (0 : Int) ≤ U by decide)
      have e2 := Int.mul_le_mul_of_nonneg_right (show U ≤ 2 ^ 170 by decide) x0
      rw [Int.mul_comm U] at e2
      omega)
    obtain ⟨l1, _, l3⟩ := less_le d1 hpb.pn
    exact ⟨l1, l3⟩
  · rw [if_pos rfl]
    exact ⟨hpb.pn, Int.le_refl _⟩
end
end Go.Proofs.Ytpffdjleonkdoaa
