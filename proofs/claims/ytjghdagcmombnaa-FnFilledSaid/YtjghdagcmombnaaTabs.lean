/- Tables of cells, and what a type is, as classes. No program in sight. -/
import Derived.Test.YtjghdagcmombnaaRules

namespace Go.Proofs.Ytjghdagcmombnaa
open Go.RowKit

/-- n cells, cell i holds f i. -/
def tab (n : Nat) (f : Nat → Value) : List Value := (List.range n).map f

theorem tab_len (n : Nat) (f : Nat → Value) : (tab n f).length = n := by simp [tab]
theorem tab_get {n i : Nat} {f : Nat → Value} (h : i < n) : (tab n f)[i]? = some (f i) := by simp [tab, h]
theorem tab_one {n : Nat} {f : Nat → Value} (h : ∀ i, one (f i) = true) : (tab n f).all one = true := by
  simp [tab, h]
theorem tab_congr {n : Nat} {f g : Nat → Value} (h : ∀ i, i < n → f i = g i) : tab n f = tab n g := by
  unfold tab; exact List.map_congr_left fun i hi => h i (List.mem_range.1 hi)
/-- A part of a table, from o on. -/
theorem tab_part {n o k : Nat} {f : Nat → Value} (h : o + k ≤ n) : ((tab n f).drop o).take k = tab k (fun i => f (o + i)) := by
  apply List.ext_getElem?
  intro i
  rw [List.getElem?_take]
  split
  · rename_i hi
    rw [List.getElem?_drop, tab_get (by omega), tab_get hi]
  · have : (tab k fun i => f (o + i))[i]? = none := by simp [tab_len]; omega
    rw [this]
/-- One cell written. -/
theorem tab_put {n o : Nat} {f : Nat → Value} {v : Value} (h : o < n) : (tab n f).take o ++ [v] ++ (tab n f).drop (o + 1) = tab n (fun i => if i = o then v else f i) := by
  apply List.ext_getElem?
  intro i
  have hl : ((tab n f).take o).length = o := by rw [List.length_take, tab_len]; omega
  by_cases hi : i < n
  · rw [tab_get hi]
    by_cases h1 : i < o
    · rw [List.append_assoc, List.getElem?_append_left (by omega), List.getElem?_take, if_pos h1, tab_get hi, if_neg (by omega)]
    · rw [List.append_assoc, List.getElem?_append_right (by omega), hl]
      by_cases h2 : i = o
      · subst h2; simp
      · rw [List.getElem?_append_right (by simp; omega), List.getElem?_drop, if_neg h2]
        simp only [List.length_singleton]
        rw [show o + 1 + (i - o - 1) = i by omega, tab_get hi]
  · have e1 : (tab n fun i => if i = o then v else f i)[i]? = none := by simp [tab_len]; omega
    rw [e1, List.getElem?_eq_none]
    simp [tab_len]; omega
/-- A part written. -/
theorem tab_putk {n o k : Nat} {f g : Nat → Value} (h : o + k ≤ n) : (tab n f).take o ++ tab k g ++ (tab n f).drop (o + k) = tab n (fun i => if o ≤ i ∧ i < o + k then g (i - o) else f i) := by
  apply List.ext_getElem?
  intro i
  have hl : ((tab n f).take o).length = o := by rw [List.length_take, tab_len]; omega
  by_cases hi : i < n
  · rw [tab_get hi]
    by_cases h1 : i < o
    · rw [List.append_assoc, List.getElem?_append_left (by omega), List.getElem?_take, if_pos h1, tab_get hi, if_neg (by omega)]
    · rw [List.append_assoc, List.getElem?_append_right (by omega), hl]
      by_cases h2 : i < o + k
      · rw [List.getElem?_append_left (by rw [tab_len]; omega), tab_get (by omega), if_pos (by omega)]
      · rw [List.getElem?_append_right (by rw [tab_len]; omega), List.getElem?_drop, if_neg (by omega), tab_len]
        rw [show o + k + (i - o - k) = i by omega, tab_get hi]
  · have e1 : (tab n fun i => if o ≤ i ∧ i < o + k then g (i - o) else f i)[i]? = none := by simp [tab_len]; omega
    rw [e1, List.getElem?_eq_none]
    simp [tab_len]; omega

theorem mem_tail {M T : Mem} {k : Nat} : (M ++ T)[M.length + k]? = T[k]? := by
  rw [List.getElem?_append_right (Nat.le_add_right _ _), Nat.add_sub_cancel_left]
theorem mem_tail0 {M T : Mem} : (M ++ T)[M.length]? = T[0]? := by
  rw [List.getElem?_append_right (Nat.le_refl _), Nat.sub_self]
theorem mem_head {M T : Mem} {j : Nat} {b : Blk} (h : M[j]? = some b) : (M ++ T)[j]? = some b := by
  rw [List.getElem?_append_left (List.getElem?_eq_some_iff.1 h).1]; exact h
theorem set_tail {M T : Mem} {k : Nat} {b : Blk} : (M ++ T).set (M.length + k) b = M ++ T.set k b := by
  rw [List.set_append_right _ _ (by omega)]; simp
theorem set_tail0 {M T : Mem} {b : Blk} : (M ++ T).set M.length b = M ++ T.set 0 b := by
  rw [List.set_append_right _ _ (by omega)]; simp

/-! A memory of which one block is another one. -/
theorem mem_tailS {M T : Mem} {j k : Nat} {X : Blk} : (M.set j X ++ T)[M.length + k]? = T[k]? := by
  rw [List.getElem?_append_right (by rw [List.length_set]; omega), List.length_set, Nat.add_sub_cancel_left]
theorem mem_tailS0 {M T : Mem} {j : Nat} {X : Blk} : (M.set j X ++ T)[M.length]? = T[0]? := by
  rw [List.getElem?_append_right (by rw [List.length_set]; omega), List.length_set, Nat.sub_self]
theorem set_tailS {M T : Mem} {j k : Nat} {X b : Blk} : (M.set j X ++ T).set (M.length + k) b = M.set j X ++ T.set k b := by
  rw [List.set_append_right _ _ (by rw [List.length_set]; omega), List.length_set]; simp
theorem set_tailS0 {M T : Mem} {j : Nat} {X b : Blk} : (M.set j X ++ T).set M.length b = M.set j X ++ T.set 0 b := by
  rw [List.set_append_right _ _ (by rw [List.length_set]; omega), List.length_set]; simp
theorem mem_set0 {M : Mem} {j : Nat} {X : Blk} (h : j < M.length) : (M.set j X)[j]? = some X := by
  rw [List.getElem?_set, if_pos rfl, if_pos h]
theorem mem_set1 {M T : Mem} {j : Nat} {X : Blk} (h : j < M.length) : (M.set j X ++ T)[j]? = some X := mem_head (mem_set0 h)
theorem mem_setN {M : Mem} {j i : Nat} {X b : Blk} (hn : j ≠ i) (h : M[i]? = some b) : (M.set j X)[i]? = some b := by
  rw [List.getElem?_set, if_neg hn]; exact h
theorem mem_setN1 {M T : Mem} {j i : Nat} {X b : Blk} (hn : j ≠ i) (h : M[i]? = some b) : (M.set j X ++ T)[i]? = some b := mem_head (mem_setN hn h)
theorem set_head1 {M T : Mem} {j : Nat} {X Y : Blk} (h : j < M.length) : (M.set j X ++ T).set j Y = M.set j Y ++ T := by
  rw [List.set_append_left _ _ (by rw [List.length_set]; exact h), List.set_set]
theorem set_head0 {M T : Mem} {j : Nat} {Y : Blk} (h : j < M.length) : (M ++ T).set j Y = M.set j Y ++ T := List.set_append_left _ _ h
theorem set_same {M : Mem} {j : Nat} {X : Blk} (h : M[j]? = some X) : M.set j X = M := by
  apply List.ext_getElem?
  intro x
  rw [List.getElem?_set]
  split
  · rename_i e; subst e; rw [h]; simp [(List.getElem?_eq_some_iff.1 h).1]
  · rfl

class TyB (P : Program) (t : TypeId) : Prop where
  out : P.underlying t = some .bool
class TyF (P : Program) (t : TypeId) (k : outParam FloatKind) : Prop where
  out : P.underlying t = some (.float k)
class TyStr (P : Program) (t : TypeId) : Prop where
  out : P.underlying t = some .string

section
variable {P : Program} {ops l : List Oper} {K : St → Prop} {n : Nat} {t : Env} {m : Mem} {d ty : Nat} {pos : String} {af : Array Edge}
theorem o_eqB {xt yt : TypeId} [ht : TyB P xt] {x y : Operand} {a b : Bool} (hx : evalA t x = .bool a := by (conv => (lhs; whnf)); first | done | rfl) (hy : evalA t y = .bool b := by (conv => (lhs; whnf)); first | done | rfl) (hd : Nat.blt d n = true := by rfl) (h : AOs P ops l K ⟨n, (d, .bool (a == b)) :: t, m⟩) :
    AOs P ops (⟨some d, .binOp .eql xt x y yt, ty, pos, af, none⟩ :: l) K ⟨n, t, m⟩ := o_eqb ht.out hx hy hd h
theorem o_neB {xt yt : TypeId} [ht : TyB P xt] {x y : Operand} {a b : Bool} (hx : evalA t x = .bool a := by (conv => (lhs; whnf)); first | done | rfl) (hy : evalA t y = .bool b := by (conv => (lhs; whnf)); first | done | rfl) (hd : Nat.blt d n = true := by rfl) (h : AOs P ops l K ⟨n, (d, .bool (a != b)) :: t, m⟩) :
    AOs P ops (⟨some d, .binOp .neq xt x y yt, ty, pos, af, none⟩ :: l) K ⟨n, t, m⟩ := o_neb ht.out hx hy hd h
end
end Go.Proofs.Ytjghdagcmombnaa
