/- Quotients of amounts lie above minus one. No program in sight. -/
import Derived.Test.YtddmclkijheicaaDoorB3
namespace Go.Proofs.YtddmclkijheicaaDoor
open Go.RowKit Ieee

/-- Not below nothing: a number or the infinity, with the sign of what is above. -/
def posD : Datum → Prop
  | .number s _ _ => s = false
  | .infinity s => s = false
  | .nan _ _ => False
theorem posD_word {k : FloatKind} {q : Nat} (h : q ≤ k.format.infRung) : posD (k.decode (k.format.word false q)) := by
  rw [read_word h]
  split
  · rfl
  · split <;> rfl
theorem posD_write {k : FloatKind} {d : Datum} (h : posD d) : posD (k.decode (k.format.write d)) := by
  cases d with
  | number s m e =>
    cases (show s = false from h)
    obtain ⟨q, hq, hl⟩ := nearest_word k.format false m e
    show posD (k.decode (k.format.nearest false m e))
    rw [hq]; exact posD_word hl
  | infinity s =>
    cases (show s = false from h)
    exact posD_word (Nat.le_refl _)
  | nan s f => exact h.elim
theorem posD_gt {d : Datum} {m : Nat} {e : Int} (hm : m ≠ 0) (h : posD d) : d.order (.number true m e) = some .gt := by
  cases d with
  | number s x y =>
    cases (show s = false from h)
    show some (compare (signed false x (y - min y e).toNat) (signed true m (e - min y e).toNat)) = _
    unfold signed
    simp only [Bool.false_eq_true, if_false, if_true]
    congr 1
    refine Int.compare_eq_gt.2 ?_
    have h1 : 0 < m <<< (e - min y e).toNat := by
      rw [Nat.shiftLeft_eq]
      exact Nat.mul_pos (by omega) (Nat.two_pow_pos _)
    generalize m <<< (e - min y e).toNat = u at *
    generalize x <<< (y - min y e).toNat = v
    omega
  | infinity s => cases (show s = false from h); rfl
  | nan s f => exact h.elim
theorem ofInt_pos : ∀ t : Fin 512, ∃ m e, FloatKind.f32.decode (fofInt .f32 (t.val + 1)) = .number false m e ∧ m ≠ 0 := by
  have key : ∀ t : Fin 512, (match FloatKind.f32.decode (fofInt .f32 (t.val + 1)) with | .number s m _ => !s && m != 0 | _ => false) = true := by decide +kernel
  intro t
  have := key t
  split at this
  · rename_i s m e h
    rw [h]
    simp only [Bool.and_eq_true, Bool.not_eq_true', bne_iff_ne] at this
    obtain ⟨rfl, h2⟩ := this
    exact ⟨m, e, rfl, h2⟩
  · cases this
theorem am_num {a : Nat} (h : isAm a = true) : ∃ m e, FloatKind.f32.decode a = .number false m e := by
  unfold isAm at h
  simp only [Bool.and_eq_true, Bool.or_eq_true, decide_eq_true_eq] at h
  obtain ⟨h1, h2⟩ := h
  cases hd : FloatKind.f32.decode a with
  | nan s f => unfold ffin at h1; rw [hd] at h1; cases h1
  | infinity s => unfold ffin at h1; rw [hd] at h1; cases h1
  | number s mg e =>
    cases s with
    | false => exact ⟨mg, e, rfl⟩
    | true =>
      exfalso
      rcases h2 with h2 | h2
      · obtain ⟨n, ho⟩ := order_zero hd
        unfold fgt at h2
        rw [ho] at h2
        have h3 : compare (signed true mg n) 0 = .gt := by simpa using h2
        have h4 := Int.compare_eq_gt.1 h3
        obtain ⟨z, hz⟩ : ∃ z : Nat, signed true mg n = -(z : Int) := ⟨mg <<< n, rfl⟩
        omega
      · have h0 : a = 0 := by omega
        subst h0
        have : FloatKind.f32.decode 0 = .number false 0 FloatKind.f32.format.leastPlace := rfl
        rw [this] at hd
        cases hd
theorem div_gt {a : Nat} {t : Int} (h : isAm a = true) (h1 : 1 ≤ t) (h2 : t ≤ 512) : fgt .f32 (fdiv .f32 a (fofInt .f32 t)) 3212836864 = true := by
  obtain ⟨m, e, hd⟩ := am_num h
  obtain ⟨n, j, hd2, hn⟩ := ofInt_pos ⟨(t - 1).toNat, by omega⟩
  rw [show (((t - 1).toNat : Nat) : Int) + 1 = t by omega] at hd2
  have hq : FloatKind.f32.format.div a (fofInt .f32 t) = ((FloatKind.f32.decode a).quotient (FloatKind.f32.format.fractionBits + 2) (FloatKind.f32.decode (fofInt .f32 t))).map FloatKind.f32.format.write := rfl
  rw [hd, hd2] at hq
  obtain ⟨x, y, hxy⟩ : ∃ x y, (Datum.number false m e).quotient (FloatKind.f32.format.fractionBits + 2) (.number false n j) = some (.number false x y) := by
    unfold Datum.quotient
    dsimp only
    rw [if_neg hn]
    exact ⟨_, _, rfl⟩
  rw [hxy] at hq
  have hw : posD (FloatKind.f32.decode (FloatKind.f32.format.write (.number false x y))) := posD_write rfl
  have hm1 : ∃ m e, FloatKind.f32.decode 3212836864 = .number true m e ∧ m ≠ 0 := ⟨8388608, -23, by decide +kernel, by decide⟩
  obtain ⟨m1, e1, hd1, hm1⟩ := hm1
  have ho : FloatKind.f32.format.order (cf .f32 (FloatKind.f32.format.write (.number false x y))) 3212836864 = some .gt := by
    have := order_cf (k := .f32) (a := FloatKind.f32.format.write (.number false x y)) (b := 3212836864)
    rw [show cf .f32 3212836864 = 3212836864 by decide +kernel] at this
    rw [this]
    show (FloatKind.f32.decode _).order (FloatKind.f32.decode 3212836864) = _
    rw [hd1]
    exact posD_gt hm1 hw
  unfold fgt fdiv
  rw [hq]
  show (FloatKind.f32.format.order (cf .f32 _) 3212836864 == some .gt) = true
  rw [ho]; rfl
end Go.Proofs.YtddmclkijheicaaDoor
