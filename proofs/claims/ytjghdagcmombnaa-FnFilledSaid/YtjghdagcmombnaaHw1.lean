/- The law of fillings: plain facts. -/
import Derived.Test.YtjghdagcmombnaaHh
import Derived.Test.YtjghdagcmombnaaHk
import Derived.Test.YtjghdagcmombnaaHc
import Derived.Test.YtjghdagcmombnaaRd
import Derived.Test.YtjghdagcmombnaaGh

namespace Go.Proofs.Ytjghdagcmombnaa
open Go.RowKit
attribute [local irreducible] AW AOs AO AQ AQW thenA inBlockA postA ACalls Pure
set_option linter.unusedSimpArgs false
set_option linter.unusedVariables false
set_option linter.unusedSectionVars false

/-- The bound of what is meant by nearly. -/
theorem z5 : nn 1000593162 ∧ 2 ^ 141 ≤ fv 1000593162 ∧ fv 1000593162 ≤ 2 ^ 142 := ⟨⟨by decide +kernel, by decide⟩, by decide +kernel, by decide +kernel⟩
theorem w100 : nn 1120403456 ∧ fv 1120403456 = 100 * 2 ^ 149 := ⟨⟨by decide +kernel, by decide⟩, by decide +kernel⟩
theorem prw_fvf : ∀ v : Fin 8, fv (prw v.val) = (1 + (v.val : Int)) * 2 ^ 147 := by decide +kernel
theorem prw_fv {v : Int} (h : 0 ≤ v ∧ v < 8) : nn (prw v) ∧ fv (prw v) = (1 + v) * 2 ^ 147 := by
  refine ⟨prw_nn h, ?_⟩
  have h1 := prw_fvf ⟨v.toNat, by omega⟩
  have e : ((v.toNat : Nat) : Int) = v := Int.toNat_of_nonneg h.1
  simp only [e] at h1
  exact h1
/-- How outs take that are wide. -/
def wdF (o q : Nat) : Nat := if q < o then 1120403456 else 0
section
variable {n o : Nat} {h s t : Nat → Nat} {W : Nat → Nat → Int} {V T : Nat → Int}
theorem fd_p (hd : JnDr n o h W) : ∃ p : Nat → Int, (∀ i, i < n → nn (h (18 + i)) ∧ fv (h (18 + i)) = p i * 2 ^ 147) ∧ ∀ i, 1 ≤ p i ∧ p i ≤ 8 := by
  have key : ∀ i, ∃ x : Int, (1 ≤ x ∧ x ≤ 8) ∧ (i < n → nn (h (18 + i)) ∧ fv (h (18 + i)) = x * 2 ^ 147) := fun i => by
    by_cases hi : i < n
    · have hn := hd.hn
      have hp := hd.pri i (by omega)
      rw [if_pos hi] at hp
      obtain ⟨v, hv, e⟩ := hp
      refine ⟨1 + v, by omega, fun _ => ?_⟩
      rw [e]
      exact prw_fv hv
    · exact ⟨1, by omega, fun h => absurd h hi⟩
  exact ⟨fun i => (key i).choose, fun i hi => (key i).choose_spec.2 hi, fun i => (key i).choose_spec.1⟩
theorem fd_of (hd : JnDr n o h W) (hs : SnDr n s V) (ht : ∀ k, k < 4 → nn (t k) ∧ fv (t k) ≤ 2 ^ 156 ∧ (fv (t k) = 0 ∨ 2 ^ 145 ≤ fv (t k))) : ∃ p, Fd h s t n o W V p := by
  obtain ⟨p, h1, h2⟩ := fd_p hd
  refine ⟨p, ⟨fun i k hi hk => ?_, hd.bd, fun i k hk => hd.zero i k (.inr hk), h1, h2, fun i _ => sn_fv hs i, hs.bd, hs.zero, ht⟩⟩
  rw [dr_jA hd hi hk]
  exact shg_fv (by have := hd.bd i k; omega)
theorem t_dr (ht : SnDr o t T) (k : Nat) : (nn (t k) ∧ fv (t k) ≤ 2 ^ 156 ∧ (fv (t k) = 0 ∨ 2 ^ 145 ≤ fv (t k))) ∧ fv (t k) ≤ 2 ^ 150 := by
  obtain ⟨h1, h2⟩ := sn_fv ht k
  have h3 := ht.bd k
  refine ⟨⟨h1, by omega, ?_⟩, by omega⟩
  by_cases h0 : T k = 0
  · left; rw [h2, h0, Int.zero_mul]
  · right; omega
theorem wd_ok (k : Nat) : nn (wdF o k) ∧ fv (wdF o k) ≤ 2 ^ 156 ∧ (fv (wdF o k) = 0 ∨ 2 ^ 145 ≤ fv (wdF o k)) := by
  unfold wdF
  obtain ⟨h1, h2⟩ := w100
  split
  · exact ⟨h1, by omega, .inr (by omega)⟩
  · exact ⟨nn_zero, by rw [fv_zero]; omega, .inl fv_zero⟩
theorem wd_sn (ho : o ≤ 4) : SnOk o (wdF o) := ⟨fun q _ => nn_am (wd_ok q).1, fun q hq _ => by unfold wdF; rw [if_neg (by omega)]; exact feq_00⟩
/-- What is told of a filling. -/
structure FilOk (n o : Nat) (h s t : Nat → Nat) (F : FSt) : Prop where
  fin : ∀ q, q < 16 → fin32 (wnF F.f h q) = true
  lfin : ∀ q, q < 4 → fin32 (leF s (wnF F.f h) q) = true
  rows : ∀ i, i < 4 → fgt .f32 (rwF (wnF F.f h) i) (fadd .f32 (s i) 1000593162) = false
  cols : ∀ k, k < 4 → fgt .f32 (clF (wnF F.f h) k) (fadd .f32 (t k) 1000593162) = false
  left : ∀ i, i < 4 → fnan .f32 (fsub .f32 (leF s (wnF F.f h) i) (fsub .f32 (s i) (rwF (wnF F.f h) i))) = false ∧ fle .f32 (farG (fsub .f32 (leF s (wnF F.f h) i) (fsub .f32 (s i) (rwF (wnF F.f h) i)))) 1000593162 = true
  free : ∀ i, i < 4 → F.b i < 0 → fnan .f32 (fsub .f32 (rwF (wnF F.f h) i) (s i)) = false ∧ fle .f32 (farG (fsub .f32 (rwF (wnF F.f h) i) (s i))) 1000593162 = true
  stop : ∀ i, i < 4 → ¬ F.b i < 0 → ∃ k : Nat, k < o ∧ F.b i = (k : Int) ∧ fgt .f32 (jA h i k) 0 = true ∧ fnan .f32 (fsub .f32 (clF (wnF F.f h) k) (t k)) = false ∧ fle .f32 (farG (fsub .f32 (clF (wnF F.f h) k) (t k))) 1000593162 = true
  by_ : ∀ i, i < 4 → -1 ≤ F.b i ∧ F.b i < 4
/-- Four numbers' sum, nearly. -/
theorem sum_near {x0 x1 x2 x3 : Nat} (h0 : nn x0) (h1 : nn x1) (h2 : nn x2) (h3 : nn x3) (b0 : fv x0 ≤ 2 ^ 152) (b1 : fv x1 ≤ 2 ^ 152) (b2 : fv x2 ≤ 2 ^ 152) (b3 : fv x3 ≤ 2 ^ 152) :
    nn (fadd .f32 (fadd .f32 (fadd .f32 x0 x1) x2) x3) ∧ fv (fadd .f32 (fadd .f32 (fadd .f32 x0 x1) x2) x3) ≤ fv x0 + fv x1 + fv x2 + fv x3 + 3 * 2 ^ 132 ∧ fv x0 + fv x1 + fv x2 + fv x3 ≤ fv (fadd .f32 (fadd .f32 (fadd .f32 x0 x1) x2) x3) + 3 * 2 ^ 132 := by
  have p0 := nn_bd h0
  have p1 := nn_bd h1
  have p2 := nn_bd h2
  have p3 := nn_bd h3
  obtain ⟨a1, a2⟩ := nn_add h0 h1 (by omega)
  have an := a2.near (by decide) (e := 132) (by decide) (by simp; omega) (by simp; omega)
  simp only [Int.natCast_one, Int.mul_one] at an
  have q1 := nn_bd a1
  obtain ⟨c1, c2⟩ := nn_add a1 h2 (by omega)
  have cn := c2.near (by decide) (e := 132) (by decide) (by simp; omega) (by simp; omega)
  simp only [Int.natCast_one, Int.mul_one] at cn
  have q2 := nn_bd c1
  obtain ⟨d1, d2⟩ := nn_add c1 h3 (by omega)
  have dn := d2.near (by decide) (e := 132) (by decide) (by simp; omega) (by simp; omega)
  simp only [Int.natCast_one, Int.mul_one] at dn
  exact ⟨d1, by omega, by omega⟩
theorem fil_law (hd : JnDr n o h W) (hs : SnDr n s V) (ht : SnDr o t T) : FilOk n o h s t (filI h s t) := by
  obtain ⟨p, hF⟩ := fd_of hd hs (t := t) (fun k _ => (t_dr ht k).1)
  obtain ⟨⟨m, hv⟩, hst, hno⟩ := fil_ok hF (fun k _ => (t_dr ht k).2)
  have hg := any_no hno
  have hn := hd.hn
  generalize filI h s t = F at *
  obtain ⟨z1, z2, z3⟩ := z5
  have hm := hv.mb
  -- cells
  have cell : ∀ i k, i < 4 → k < 4 → nn (wnF F.f h (i * 4 + k)) ∧ 16 * fv (wnF F.f h (i * 4 + k)) ≤ fv (F.f i) * W i k + 16 * 2 ^ 132 ∧ fv (F.f i) * W i k ≤ 16 * fv (wnF F.f h (i * 4 + k)) + 16 * 2 ^ 132 ∧ fv (wnF F.f h (i * 4 + k)) ≤ 2 ^ 152 := fun i k hi hk => by
    obtain ⟨f1, f2⟩ := hv.f i hi
    obtain ⟨s1, s2⟩ := hF.s i hi
    obtain ⟨a1, a2⟩ := hF.a i k hi hk
    have vb := hF.v i
    have wb := hF.w i k
    have f0 := nn_bd f1
    have ew : wnF F.f h (i * 4 + k) = fmul .f32 (F.f i) (jA h i k) := by unfold wnF jA; rw [wn_div hk]
    have w0 : 0 ≤ fv (F.f i) * W i k := Int.mul_nonneg f0 wb.1
    have w1 : fv (F.f i) * W i k ≤ fv (F.f i) * 16 := Int.mul_le_mul_of_nonneg_left wb.2 f0
    have e1 : fv (F.f i) * fv (jA h i k) = fv (F.f i) * W i k * 2 ^ 145 := by rw [a2, Int.mul_assoc]
    have e149 : ((2 ^ 149 : Nat) : Int) = 2 ^ 149 := Int.natCast_pow 2 149
    obtain ⟨x1, x2⟩ := nn_mul f1 a1 (by rw [e1, U_val]; omega)
    have xn := x2.near (by decide) (e := 132) (by decide) (by rw [e1, e149]; omega) (by rw [e1, e149]; omega)
    rw [e1, e149] at xn
    rw [ew]
    refine ⟨x1, ?_, ?_, ?_⟩ <;> omega
  have row : ∀ i, i < 4 → nn (rwF (wnF F.f h) i) ∧ fv (rwF (wnF F.f h) i) ≤ fv (F.f i) + 7 * 2 ^ 132 ∧ fv (F.f i) ≤ fv (rwF (wnF F.f h) i) + 7 * 2 ^ 132 := fun i hi => by
    obtain ⟨c1, c2, c3, c4⟩ := cell i 0 hi (by omega)
    obtain ⟨d1, d2, d3, d4⟩ := cell i 1 hi (by omega)
    obtain ⟨e1, e2, e3, e4⟩ := cell i 2 hi (by omega)
    obtain ⟨g1, g2, g3, g4⟩ := cell i 3 hi (by omega)
    obtain ⟨r1, r2, r3⟩ := sum_near c1 d1 e1 g1 c4 d4 e4 g4
    have es : fv (F.f i) * W i 0 + fv (F.f i) * W i 1 + fv (F.f i) * W i 2 + fv (F.f i) * W i 3 = 16 * fv (F.f i) := by
      rw [← Int.mul_add, ← Int.mul_add, ← Int.mul_add]
      by_cases hin : i < n
      · rw [hd.sum i hin, Int.mul_comm]
      · have hz := hF.vn i (by omega)
        have hs2 := (hF.s i hi).2
        rw [hz, Int.zero_mul] at hs2
        have f0 := nn_bd (hv.f i hi).1
        have f1 := (hv.f i hi).2
        rw [show fv (F.f i) = 0 by omega, Int.zero_mul]; rfl
    show nn (fadd .f32 (fadd .f32 (fadd .f32 (wnF F.f h (i * 4 + 0)) (wnF F.f h (i * 4 + 1))) (wnF F.f h (i * 4 + 2))) (wnF F.f h (i * 4 + 3))) ∧ fv (fadd .f32 (fadd .f32 (fadd .f32 (wnF F.f h (i * 4 + 0)) (wnF F.f h (i * 4 + 1))) (wnF F.f h (i * 4 + 2))) (wnF F.f h (i * 4 + 3))) ≤ _ ∧ _ ≤ fv (fadd .f32 (fadd .f32 (fadd .f32 (wnF F.f h (i * 4 + 0)) (wnF F.f h (i * 4 + 1))) (wnF F.f h (i * 4 + 2))) (wnF F.f h (i * 4 + 3))) + _
    refine ⟨r1, ?_, ?_⟩ <;> omega
  have col : ∀ k, k < 4 → nn (clF (wnF F.f h) k) ∧ fv (clF (wnF F.f h) k) ≤ fv (F.c k) + 119 * 2 ^ 132 ∧ fv (F.c k) ≤ fv (clF (wnF F.f h) k) + 119 * 2 ^ 132 := fun k hk => by
    obtain ⟨c1, c2, c3, c4⟩ := cell 0 k (by omega) hk
    obtain ⟨d1, d2, d3, d4⟩ := cell 1 k (by omega) hk
    obtain ⟨e1, e2, e3, e4⟩ := cell 2 k (by omega) hk
    obtain ⟨g1, g2, g3, g4⟩ := cell 3 k (by omega) hk
    rw [Nat.zero_mul, Nat.zero_add] at c1 c2 c3 c4
    obtain ⟨r1, r2, r3⟩ := sum_near c1 d1 e1 g1 c4 d4 e4 g4
    have he := hv.e k hk
    unfold smW at he
    show nn (fadd .f32 (fadd .f32 (fadd .f32 (wnF F.f h k) (wnF F.f h (1 * 4 + k))) (wnF F.f h (2 * 4 + k))) (wnF F.f h (3 * 4 + k))) ∧ fv (fadd .f32 (fadd .f32 (fadd .f32 (wnF F.f h k) (wnF F.f h (1 * 4 + k))) (wnF F.f h (2 * 4 + k))) (wnF F.f h (3 * 4 + k))) ≤ _ ∧ _ ≤ fv (fadd .f32 (fadd .f32 (fadd .f32 (wnF F.f h k) (wnF F.f h (1 * 4 + k))) (wnF F.f h (2 * 4 + k))) (wnF F.f h (3 * 4 + k))) + _
    refine ⟨r1, ?_, ?_⟩ <;> omega
  have sb : ∀ i, i < 4 → nn (s i) ∧ 0 ≤ fv (s i) ∧ fv (s i) ≤ 2 ^ 150 := fun i hi => by
    obtain ⟨s1, s2⟩ := hF.s i hi
    have vb := hF.v i
    exact ⟨s1, by omega, by omega⟩
  have left : ∀ i, i < 4 → fin32 (fsub .f32 (s i) (rwF (wnF F.f h) i)) = true ∧ nn (leF s (wnF F.f h) i) ∧ fv (fsub .f32 (s i) (rwF (wnF F.f h) i)) ≤ 2 ^ 150 ∧ -(8 * 2 ^ 132) ≤ fv (fsub .f32 (s i) (rwF (wnF F.f h) i)) ∧ fv (leF s (wnF F.f h) i) = max 0 (fv (fsub .f32 (s i) (rwF (wnF F.f h) i))) := fun i hi => by
    obtain ⟨r1, r2, r3⟩ := row i hi
    obtain ⟨s1, s2, s3⟩ := sb i hi
    have f2 := (hv.f i hi).2
    have r0 := nn_bd r1
    obtain ⟨d1, d2, d3⟩ := nn_sub s1 r1 (by omega) (by omega)
    have dn := d1.near (by decide) (e := 132) (by decide) (by simp; omega) (by simp; omega)
    simp only [Int.natCast_one, Int.mul_one] at dn
    have dl : fv (fsub .f32 (s i) (rwF (wnF F.f h) i)) ≤ fv (s i) := d1.le_of s1.1 (by simp; omega)
    unfold leF grz
    rw [fgt_fv nn_zero.1 d1.1, fv_zero]
    generalize fsub .f32 (s i) (rwF (wnF F.f h) i) = d at *
    by_cases h0 : fv d < 0
    · rw [decide_eq_true h0, if_pos rfl, fv_zero]
      exact ⟨d1.1, nn_zero, by omega, by omega, by omega⟩
    · rw [decide_eq_false h0, if_neg Bool.false_ne_true]
      exact ⟨d1.1, d3 (by omega), by omega, by omega, by omega⟩
  refine ⟨fun q hq => ?_, fun q hq => (left q hq).2.1.1, fun i hi => ?_, fun k hk => ?_, fun i hi => ?_, fun i hi hb => ?_, fun i hi hb => ?_, fun i hi => ?_⟩
  · have := (cell (q / 4) (q % 4) (by omega) (by omega)).1.1
    rwa [show q / 4 * 4 + q % 4 = q by omega] at this
  · obtain ⟨r1, r2, r3⟩ := row i hi
    obtain ⟨s1, s2, s3⟩ := sb i hi
    have f2 := (hv.f i hi).2
    obtain ⟨a1, a2⟩ := nn_add s1 z1 (by omega)
    have an := a2.near (by decide) (e := 132) (by decide) (by simp; omega) (by simp; omega)
    simp only [Int.natCast_one, Int.mul_one] at an
    rw [fgt_fv r1.1 a1.1]
    exact decide_eq_false (by omega)
  · obtain ⟨r1, r2, r3⟩ := col k hk
    obtain ⟨t1, t2⟩ := t_dr ht k
    have t0 := nn_bd t1.1
    have up := hst.up k hk
    obtain ⟨a1, a2⟩ := nn_add t1.1 z1 (by omega)
    have an := a2.near (by decide) (e := 132) (by decide) (by simp; omega) (by simp; omega)
    simp only [Int.natCast_one, Int.mul_one] at an
    rw [fgt_fv r1.1 a1.1]
    exact decide_eq_false (by omega)
  · obtain ⟨l1, l2, l3, l4, l5⟩ := left i hi
    have := nn_bd l2
    exact near_fv l2.1 l1 z1.1 (by omega) (by omega) (by omega)
  · obtain ⟨r1, r2, r3⟩ := row i hi
    obtain ⟨s1, s2, s3⟩ := sb i hi
    have r0 := nn_bd r1
    have hfs : F.f i = s i := by
      rcases hst.st i hi with ⟨h1, _⟩ | ⟨_, _, h3⟩ | ⟨_, k, _, h3, _⟩
      · rw [hg i hi] at h1; cases h1
      · exact h3
      · omega
    rw [hfs] at r2 r3
    exact near_fv r1.1 s1.1 z1.1 (by omega) (by omega) (by omega)
  · rcases hst.st i hi with ⟨h1, _⟩ | ⟨_, h2, _⟩ | ⟨_, k, k4, h3, h4, h5⟩
    · rw [hg i hi] at h1; cases h1
    · omega
    · obtain ⟨r1, r2, r3⟩ := col k k4
      obtain ⟨t1, t2⟩ := t_dr ht k
      have t0 := nn_bd t1.1
      have up := hst.up k k4
      obtain ⟨a1, a2⟩ := hF.a i k hi k4
      have r0 := nn_bd r1
      obtain ⟨n1, n2⟩ := near_fv r1.1 t1.1.1 z1.1 (by omega) (by omega) (by omega)
      refine ⟨k, Nat.lt_of_not_le fun hko => ?_, h3, ?_, n1, n2⟩
      · have := hF.z i k hko; omega
      · rw [fgt_fv a1.1 nn_zero.1, fv_zero, a2]; exact decide_eq_true (by omega)
  · rcases hst.st i hi with ⟨h1, h2⟩ | ⟨_, h2, _⟩ | ⟨_, k, k4, h3, _⟩
    · omega
    · omega
    · omega
/-- Where outs are wide, all is sent. -/
theorem fil_all (hd : JnDr n o h W) (hs : SnDr n s V) : ∀ i, i < 4 → (filI h s (wdF o)).b i = -1 ∧ (filI h s (wdF o)).f i = s i := by
  obtain ⟨p, hF⟩ := fd_of hd hs (t := wdF o) (fun k _ => wd_ok k)
  refine fil_wide hF fun i k hi hk hw => ?_
  have hko : k < o := Nat.lt_of_not_le fun hko => by have := hF.z i k hko; omega
  unfold wdF
  rw [if_pos hko, w100.2]
  exact Int.le_refl _
theorem fil_wn (hd : JnDr n o h W) (hs : SnDr n s V) : ∀ q, q < 16 → wnF (filI h s (wdF o)).f h q = wnF s h q := fun q hq => by
  unfold wnF
  rw [(fil_all hd hs (q / 4) (by omega)).2]
theorem fil_same (hd : JnDr n o h W) (hs : SnDr n s V) (ht : SnDr o t T) : filR h s t n o = filI h s t := by
  obtain ⟨p, hF⟩ := fd_of hd hs (t := t) (fun k _ => (t_dr ht k).1)
  exact fil_eq hF hd.ho.2
end
end Go.Proofs.Ytjghdagcmombnaa

/- The law of fillings: a round. -/
namespace Go.Proofs.Ytjghdagcmombnaa
open Go.RowKit
attribute [local irreducible] AW AOs AO AQ AQW thenA inBlockA postA ACalls Pure
set_option linter.unusedSimpArgs false
set_option linter.unusedVariables false
set_option linter.unusedSectionVars false

section
variable {P : Program} {ops l : List Oper} {K : St → Prop} {n : Nat} {t : Env} {m : Mem} {d ty : Nat} {pos : String} {af : Array Edge}
theorem o_fsubH {xt yt : TypeId} {x y : Operand} {k : FloatKind} {a b c : Nat} (hx : evalA t x = .float k a := by (conv => (lhs; whnf)); first | done | rfl) (hy : evalA t y = .float k b := by (conv => (lhs; whnf)); first | done | rfl) (he : fsub k a b = c) (hd : Nat.blt d n = true := by rfl) (h : AOs P ops l K ⟨n, (d, .float k c) :: t, m⟩) :
    AOs P ops (⟨some d, .binOp .sub xt x y yt, ty, pos, af, none⟩ :: l) K ⟨n, t, m⟩ := o_fsub hx hy hd (by rw [he]; exact h)
end
set_option maxHeartbeats 16000000 in
theorem wR0 {Q : Exit → St → Prop} {MM : Mem} {p5 p6 p7 p14 p16 p18 p19 i kk N O : Nat} {h s t R C lf : Nat → Nat} {b : Nat → Int} (m5 : MM[p5]? = some (jnB (N : Int) (O : Int) h)) (m6 : MM[p6]? = some (foB s)) (m7 : MM[p7]? = some (foB t)) (m14 : MM[p14]? = some ⟨tab 4 fun q => .int .i64 (b q), none, true⟩) (m16 : MM[p16]? = some (foB lf)) (m18 : MM[p18]? = some (foB R)) (m19 : MM[p19]? = some (foB C)) (hO : O ≤ 4) (hi : i + kk = 4) (hi4 : i < 4)
    (f1 : fgt .f32 (R i) (fadd .f32 (s i) 1000593162) = false) (f2 : fgt .f32 (C i) (fadd .f32 (t i) 1000593162) = false) (f3 : ∀ M, Pure Try.prog 14 [.float .f32 (lf i), .float .f32 (fsub .f32 (s i) (R i)), .float .f32 1000593162] M (.bool true))
    (f4 : b i < 0 → ∀ M, Pure Try.prog 14 [.float .f32 (R i), .float .f32 (s i), .float .f32 1000593162] M (.bool true))
    (f5 : ¬ b i < 0 → ∃ k : Nat, k < O ∧ b i = (k : Int) ∧ fgt .f32 (jA h i k) 0 = true ∧ ∀ M, Pure Try.prog 14 [.float .f32 (C k), .float .f32 (t k), .float .f32 1000593162] M (.bool true)) :
    AW Try.prog (roundOf Try.f3 0) (thenA (fun s2 => ∃ k', k' < kk ∧ ∃ i : Nat, i + k' = 4 ∧ keep [5, 6, 7, 14, 16, 18, 19, 20] s2 = ⟨270, [(5, .pointer (some ⟨p5, 0, none⟩)), (6, .pointer (some ⟨p6, 0, none⟩)), (7, .pointer (some ⟨p7, 0, none⟩)), (14, .pointer (some ⟨p14, 0, none⟩)), (16, .pointer (some ⟨p16, 0, none⟩)), (18, .pointer (some ⟨p18, 0, none⟩)), (19, .pointer (some ⟨p19, 0, none⟩)), (20, .int .i64 (i : Int))], MM⟩) Q) ⟨270, [(5, .pointer (some ⟨p5, 0, none⟩)), (6, .pointer (some ⟨p6, 0, none⟩)), (7, .pointer (some ⟨p7, 0, none⟩)), (14, .pointer (some ⟨p14, 0, none⟩)), (16, .pointer (some ⟨p16, 0, none⟩)), (18, .pointer (some ⟨p18, 0, none⟩)), (19, .pointer (some ⟨p19, 0, none⟩)), (20, .int .i64 (i : Int))], MM⟩ := by
  obtain ⟨Jn, hJn⟩ : ∃ Jn, Jn = tab 22 (jnJ (N : Int) (O : Int) h) := ⟨_, rfl⟩
  have n5 : MM[p5]? = some ⟨Jn, none, true⟩ := by rw [hJn]; exact m5
  have j0 : ldA .one 0 Jn = some (.int .i64 (N : Int)) := by rw [hJn]; exact jn_ld0
  have j1 : ldA .one 1 Jn = some (.int .i64 (O : Int)) := by rw [hJn]; exact jn_ld1
  have la : ∀ k, k < 4 → ldA .one (2 + i * 4 + k) Jn = some (.float .f32 (jA h i k)) := fun k hk => by rw [hJn]; exact jn_ldA hi4 hk
  have lS : ∀ q, q < 4 → ldA .one q (tab 4 fun q => Value.float .f32 (s q)) = some (.float .f32 (s q)) := fun q hq => ld_tab hq rfl
  have lT : ∀ q, q < 4 → ldA .one q (tab 4 fun q => Value.float .f32 (t q)) = some (.float .f32 (t q)) := fun q hq => ld_tab hq rfl
  have lR : ∀ q, q < 4 → ldA .one q (tab 4 fun q => Value.float .f32 (R q)) = some (.float .f32 (R q)) := fun q hq => ld_tab hq rfl
  have lC : ∀ q, q < 4 → ldA .one q (tab 4 fun q => Value.float .f32 (C q)) = some (.float .f32 (C q)) := fun q hq => ld_tab hq rfl
  have lL : ldA .one i (tab 4 fun q => Value.float .f32 (lf q)) = some (.float .f32 (lf i)) := ld_tab hi4 rfl
  have lB : ldA .one i (tab 4 fun q => Value.int .i64 (b q)) = some (.int .i64 (b i)) := ld_tab hi4 rfl
  have n6 : MM[p6]? = some ⟨tab 4 fun q => Value.float .f32 (s q), none, true⟩ := m6
  have n7 : MM[p7]? = some ⟨tab 4 fun q => Value.float .f32 (t q), none, true⟩ := m7
  have n16 : MM[p16]? = some ⟨tab 4 fun q => Value.float .f32 (lf q), none, true⟩ := m16
  have n18 : MM[p18]? = some ⟨tab 4 fun q => Value.float .f32 (R q), none, true⟩ := m18
  have n19 : MM[p19]? = some ⟨tab 4 fun q => Value.float .f32 (C q), none, true⟩ := m19
  clear m6 m7 m16 m18 m19
  generalize (tab 4 fun q => Value.float .f32 (s q)) = TS at *
  generalize (tab 4 fun q => Value.float .f32 (t q)) = TT at *
  generalize (tab 4 fun q => Value.float .f32 (R q)) = TR at *
  generalize (tab 4 fun q => Value.float .f32 (C q)) = TC at *
  generalize (tab 4 fun q => Value.float .f32 (lf q)) = TL at *
  generalize (tab 4 fun q => Value.int .i64 (b q)) = TB at *
  have s1 := lS i hi4
  have t1 := lT i hi4
  have r1 := lR i hi4
  have c1 := lC i hi4
  obtain ⟨sz, hsz⟩ : ∃ z, fadd .f32 (s i) 1000593162 = z := ⟨_, rfl⟩
  obtain ⟨tz, htz⟩ : ∃ z, fadd .f32 (t i) 1000593162 = z := ⟨_, rfl⟩
  obtain ⟨d, hd⟩ : ∃ z, fsub .f32 (s i) (R i) = z := ⟨_, rfl⟩
  rw [hsz] at f1
  rw [htz] at f2
  rw [hd] at f3
  clear hJn m5
  by_cases hb : b i < 0
  · have g4 := f4 hb
    clear f4 f5 la lS lT lR lC
    generalize s i = si at *
    generalize t i = ti at *
    generalize R i = ri at *
    generalize C i = ci at *
    generalize lf i = li at *
    generalize b i = bi at *
    by_cases hN : i < N
    · unfold roundOf
      repeat' (first | (refine d_AOs (h := ?_) ; first | refine o_move (h := ?_) | refine o_assign (h := ?_) | refine AOs.nil (h := ?_) | (refine d_bin (h := ?_) ; first | refine o_addS (h := ?_) | refine o_lss (h := ?_)) | refine o_load (hv := lB) (h := ?_) | refine o_at (h := ?_)) | (refine d_AW (h := ?_) ; first | refine AW.seq (h := ?_) | refine AW.region (h := ?_) | refine AW.open_ (h := ?_) | (refine AW.cond (ht := (fun hc => ?_)) (hf := (fun hc => ?_)) <;> (try (with_reducible first | exact absurd hc Bool.false_ne_true | exact absurd hc.symm Bool.false_ne_true)) <;> (try simp only [decide_eq_true_eq, decide_eq_false_iff_not, Int.ofNat_inj, Bool.not_eq_true', Bool.not_eq_false', Int.not_lt, Int.not_le] at hc) <;> (try (exfalso; omega)) <;> (try (exact absurd hc (by decide)))) | refine AW.block (h := ?_) | refine AW.skip (h := ?_) | refine AW.exit (h := ?_)) | (first | refine t_normal ?_ | refine t_exit ?_ | refine b_exit ?_) | (refine d_AQ (h := ?_) ; first | refine q_step (h1 := by (refine d_AOs ?_; first| (refine d_bin (h := ?_) ; first | refine o_fneS (h := ?_) | refine o_fneC (h := ?_) | refine o_feqC (h := ?_) | refine o_fltC (h := ?_) | refine o_fgtC (h := ?_) | refine o_fleC (h := ?_) | refine o_fgeC (h := ?_) | refine o_faddH (he := hsz) (h := ?_) | refine o_faddH (he := htz) (h := ?_) | refine o_fsubH (he := hd) (h := ?_) )) <;> exact AOs.nil rfl) (h2 := ?_) | refine q_yes (h1 := by (refine d_AOs ?_; first| (refine d_bin (h := ?_) ; first | refine o_fneS (h := ?_) | refine o_fneC (h := ?_) | refine o_feqC (h := ?_) | refine o_fltC (h := ?_) | refine o_fgtC (h := ?_) | refine o_fleC (h := ?_) | refine o_fgeC (h := ?_) | refine o_faddH (he := hsz) (h := ?_) | refine o_faddH (he := htz) (h := ?_) | refine o_fsubH (he := hd) (h := ?_) )) <;> exact AOs.nil rfl) (h2 := ?_) | refine q_nil (h := ?_) | refine q_step (h2 := ?_) | refine q_yes (h2 := ?_) | (refine q_true (h2 := (fun hg => ?_)) (h0 := (fun hg => ?_)) <;> (try rw [hg]) <;> (try simp only [decide_eq_true_eq, decide_eq_false_iff_not, Int.ofNat_inj, Bool.not_eq_true', Bool.not_eq_false', Int.not_lt, Int.not_le] at hg) <;> (try (exfalso; omega)) <;> (try (exact absurd hg (by decide)))) | refine q_step (h1 := by (refine d_AOs ?_; first | refine o_call (hc := (f3 _)) (h := ?_) | refine o_call (hc := (g4 _)) (h := ?_) | refine o_load (hv := j0) (h := ?_) | refine o_load (hv := s1) (h := ?_) | refine o_load (hv := t1) (h := ?_) | refine o_load (hv := r1) (h := ?_) | refine o_load (hv := c1) (h := ?_) | refine o_load (hv := lL) (h := ?_) | refine o_load (hv := lB) (h := ?_)) <;> exact AOs.nil rfl) (h2 := ?_) | refine q_yes (h1 := by (refine d_AOs ?_; first | refine o_call (hc := (f3 _)) (h := ?_) | refine o_call (hc := (g4 _)) (h := ?_) | refine o_load (hv := j0) (h := ?_) | refine o_load (hv := s1) (h := ?_) | refine o_load (hv := t1) (h := ?_) | refine o_load (hv := r1) (h := ?_) | refine o_load (hv := c1) (h := ?_) | refine o_load (hv := lL) (h := ?_) | refine o_load (hv := lB) (h := ?_)) <;> exact AOs.nil rfl) (h2 := ?_)) | fail)
      all_goals first | exact ⟨kk - 1, by omega, i + 1, by omega, rfl⟩ | (exfalso; first | omega | (simp_all; done))
    · unfold roundOf
      repeat' (first | (refine d_AOs (h := ?_) ; first | refine o_move (h := ?_) | refine o_assign (h := ?_) | refine AOs.nil (h := ?_) | (refine d_bin (h := ?_) ; first | refine o_addS (h := ?_) | refine o_lss (h := ?_)) | refine o_load (hv := lB) (h := ?_) | refine o_at (h := ?_)) | (refine d_AW (h := ?_) ; first | refine AW.seq (h := ?_) | refine AW.region (h := ?_) | refine AW.open_ (h := ?_) | (refine AW.cond (ht := (fun hc => ?_)) (hf := (fun hc => ?_)) <;> (try (with_reducible first | exact absurd hc Bool.false_ne_true | exact absurd hc.symm Bool.false_ne_true)) <;> (try simp only [decide_eq_true_eq, decide_eq_false_iff_not, Int.ofNat_inj, Bool.not_eq_true', Bool.not_eq_false', Int.not_lt, Int.not_le] at hc) <;> (try (exfalso; omega)) <;> (try (exact absurd hc (by decide)))) | refine AW.block (h := ?_) | refine AW.skip (h := ?_) | refine AW.exit (h := ?_)) | (first | refine t_normal ?_ | refine t_exit ?_ | refine b_exit ?_) | (refine d_AQ (h := ?_) ; first | refine q_step (h1 := by (refine d_AOs ?_; first| (refine d_bin (h := ?_) ; first | refine o_fneS (h := ?_) | refine o_fneC (h := ?_) | refine o_feqC (h := ?_) | refine o_fltC (h := ?_) | refine o_fgtC (h := ?_) | refine o_fleC (h := ?_) | refine o_fgeC (h := ?_) | refine o_faddH (he := hsz) (h := ?_) | refine o_faddH (he := htz) (h := ?_) | refine o_fsubH (he := hd) (h := ?_) )) <;> exact AOs.nil rfl) (h2 := ?_) | refine q_yes (h1 := by (refine d_AOs ?_; first| (refine d_bin (h := ?_) ; first | refine o_fneS (h := ?_) | refine o_fneC (h := ?_) | refine o_feqC (h := ?_) | refine o_fltC (h := ?_) | refine o_fgtC (h := ?_) | refine o_fleC (h := ?_) | refine o_fgeC (h := ?_) | refine o_faddH (he := hsz) (h := ?_) | refine o_faddH (he := htz) (h := ?_) | refine o_fsubH (he := hd) (h := ?_) )) <;> exact AOs.nil rfl) (h2 := ?_) | refine q_nil (h := ?_) | refine q_step (h2 := ?_) | refine q_yes (h2 := ?_) | refine q_no (h2 := ?_) | (refine q_true (h2 := (fun hg => ?_)) (h0 := (fun hg => ?_)) <;> (try rw [hg]) <;> (try simp only [decide_eq_true_eq, decide_eq_false_iff_not, Int.ofNat_inj, Bool.not_eq_true', Bool.not_eq_false', Int.not_lt, Int.not_le] at hg) <;> (try (exfalso; omega)) <;> (try (exact absurd hg (by decide)))) | refine q_step (h1 := by (refine d_AOs ?_; first | refine o_call (hc := (f3 _)) (h := ?_) | refine o_call (hc := (g4 _)) (h := ?_) | refine o_load (hv := j0) (h := ?_) | refine o_load (hv := s1) (h := ?_) | refine o_load (hv := t1) (h := ?_) | refine o_load (hv := r1) (h := ?_) | refine o_load (hv := c1) (h := ?_) | refine o_load (hv := lL) (h := ?_) | refine o_load (hv := lB) (h := ?_)) <;> exact AOs.nil rfl) (h2 := ?_) | refine q_yes (h1 := by (refine d_AOs ?_; first | refine o_call (hc := (f3 _)) (h := ?_) | refine o_call (hc := (g4 _)) (h := ?_) | refine o_load (hv := j0) (h := ?_) | refine o_load (hv := s1) (h := ?_) | refine o_load (hv := t1) (h := ?_) | refine o_load (hv := r1) (h := ?_) | refine o_load (hv := c1) (h := ?_) | refine o_load (hv := lL) (h := ?_) | refine o_load (hv := lB) (h := ?_)) <;> exact AOs.nil rfl) (h2 := ?_)) | fail)
      all_goals first | exact ⟨kk - 1, by omega, i + 1, by omega, rfl⟩ | (exfalso; first | omega | (simp_all; done))
  · obtain ⟨k, k1, k2, k3, k4⟩ := f5 hb
    have s2 := lS k (by omega)
    have t2 := lT k (by omega)
    have c2 := lC k (by omega)
    have a2 := la k (by omega)
    rw [k2] at lB
    clear f4 f5 la lS lT lR lC hb k2
    generalize s i = si at *
    generalize R i = ri at *
    generalize lf i = li at *
    generalize hti : t i = ti at *
    generalize hci : C i = ci at *
    clear hti hci
    generalize t k = tk at *
    generalize C k = ck at *
    unfold roundOf
    repeat' (first | (refine d_AOs (h := ?_) ; first | refine o_move (h := ?_) | refine o_assign (h := ?_) | refine AOs.nil (h := ?_) | (refine d_bin (h := ?_) ; first | refine o_addS (h := ?_) | refine o_lss (h := ?_)) | refine o_load (hv := lB) (h := ?_) | refine o_at (h := ?_)) | (refine d_AW (h := ?_) ; first | refine AW.seq (h := ?_) | refine AW.region (h := ?_) | refine AW.open_ (h := ?_) | (refine AW.cond (ht := (fun hc => ?_)) (hf := (fun hc => ?_)) <;> (try (with_reducible first | exact absurd hc Bool.false_ne_true | exact absurd hc.symm Bool.false_ne_true)) <;> (try simp only [decide_eq_true_eq, decide_eq_false_iff_not, Int.ofNat_inj, Bool.not_eq_true', Bool.not_eq_false', Int.not_lt, Int.not_le] at hc) <;> (try (exfalso; omega)) <;> (try (exact absurd hc (by decide)))) | refine AW.block (h := ?_) | refine AW.skip (h := ?_)) | (first | refine t_normal ?_ | refine b_normal ?_) | (refine d_AQ (h := ?_) ; first | refine q_step (h1 := by (refine d_AOs ?_; first| (refine d_bin (h := ?_) ; first | refine o_fneS (h := ?_) | refine o_fneC (h := ?_) | refine o_feqC (h := ?_) | refine o_fltC (h := ?_) | refine o_fgtC (h := ?_) | refine o_fleC (h := ?_) | refine o_fgeC (h := ?_) | refine o_faddH (he := hsz) (h := ?_) | refine o_faddH (he := htz) (h := ?_) | refine o_fsubH (he := hd) (h := ?_) )) <;> exact AOs.nil rfl) (h2 := ?_) | refine q_yes (h1 := by (refine d_AOs ?_; first| (refine d_bin (h := ?_) ; first | refine o_fneS (h := ?_) | refine o_fneC (h := ?_) | refine o_feqC (h := ?_) | refine o_fltC (h := ?_) | refine o_fgtC (h := ?_) | refine o_fleC (h := ?_) | refine o_fgeC (h := ?_) | refine o_faddH (he := hsz) (h := ?_) | refine o_faddH (he := htz) (h := ?_) | refine o_fsubH (he := hd) (h := ?_) )) <;> exact AOs.nil rfl) (h2 := ?_) | refine q_nil (h := ?_) | refine q_step (h2 := ?_) | refine q_yes (h2 := ?_) | refine q_no (h2 := ?_) | (refine q_false (h2 := (fun hg => ?_)) (h0 := (fun hg => ?_)) <;> (try rw [hg]) <;> (try simp only [decide_eq_true_eq, decide_eq_false_iff_not, Int.ofNat_inj, Bool.not_eq_true', Bool.not_eq_false', Int.not_lt, Int.not_le] at hg) <;> (try (exfalso; omega)) <;> (try (exact absurd hg (by decide)))) | refine q_step (h1 := by (refine d_AOs ?_; first | refine o_call (hc := (f3 _)) (h := ?_) | refine o_call (hc := (k4 _)) (h := ?_) | refine o_load (hv := j0) (h := ?_) | refine o_load (hv := j1) (h := ?_) | refine o_load (hv := a2) (h := ?_) | refine o_load (hv := c2) (h := ?_) | refine o_load (hv := t2) (h := ?_) | refine o_load (hv := s1) (h := ?_) | refine o_load (hv := t1) (h := ?_) | refine o_load (hv := r1) (h := ?_) | refine o_load (hv := c1) (h := ?_) | refine o_load (hv := lL) (h := ?_) | refine o_load (hv := lB) (h := ?_)) <;> exact AOs.nil rfl) (h2 := ?_) | refine q_yes (h1 := by (refine d_AOs ?_; first | refine o_call (hc := (f3 _)) (h := ?_) | refine o_call (hc := (k4 _)) (h := ?_) | refine o_load (hv := j0) (h := ?_) | refine o_load (hv := j1) (h := ?_) | refine o_load (hv := a2) (h := ?_) | refine o_load (hv := c2) (h := ?_) | refine o_load (hv := t2) (h := ?_) | refine o_load (hv := s1) (h := ?_) | refine o_load (hv := t1) (h := ?_) | refine o_load (hv := r1) (h := ?_) | refine o_load (hv := c1) (h := ?_) | refine o_load (hv := lL) (h := ?_) | refine o_load (hv := lB) (h := ?_)) <;> exact AOs.nil rfl) (h2 := ?_)) | fail)
    all_goals first | exact ⟨kk - 1, by omega, i + 1, by omega, rfl⟩ | (exfalso; first | omega | (simp_all; done))
end Go.Proofs.Ytjghdagcmombnaa
