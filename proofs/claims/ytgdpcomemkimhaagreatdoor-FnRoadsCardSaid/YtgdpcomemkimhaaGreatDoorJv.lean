/- append to a slice that is full; the greater and the lesser one of numbers. No program in sight. -/
import Derived.Test.YtgdpcomemkimhaaGreatDoorJn
import Derived.Test.YtgdpcomemkimhaaGreatDoorFloat

namespace Go.Proofs.YtgdpcomemkimhaaGreatDoor
open Go.RowKit
set_option linter.unusedSimpArgs false
set_option linter.unusedVariables false

section
variable {P : Program} {ops l : List Oper} {K : St → Prop} {n : Nat} {t : Env} {m : Mem} {d ty : Nat} {pos : String} {af : Array Edge}
theorem o_appF {st k b e : Nat} [ha : SlT P st k b e] {z : Value} [hz : TyZ P e z] {x y : Operand} {jx ox p : Nat} {b1 : Blk} {xs : List Value} {j' o' q cp' : Nat} {tg' : Option Nat} {b' : Blk} {ys : List Value} {m' : Mem} {j : Nat}
    (hx : evalA t x = .slice (some ⟨jx, ox, none⟩) p p := by (conv => (lhs; whnf)); first | done | rfl) (hy : evalA t y = .slice (some ⟨j', o', tg'⟩) q cp' := by (conv => (lhs; whnf)); first | done | rfl)
    (hb1 : m[jx]? = some b1 := by first | (simp only [mem_tail, mem_tail0, List.getElem?_cons_zero, List.getElem?_cons_succ]; first | done | rfl) | exact mem_head (by assumption) | assumption | (simp only [mem_tailS, mem_tailS0, List.getElem?_cons_zero, List.getElem?_cons_succ]; first | done | rfl) | exact mem_set1 (by assumption) | exact mem_set0 (by assumption) | exact mem_setN1 (by assumption) (by assumption) | exact mem_setN (by assumption) (by assumption)) (ht1 : b1.tag = none := by rfl) (hxs : (b1.cells.drop ox).take (p * k) = xs := by first | (simp only [List.drop_zero]; first | rfl | (refine List.take_of_length_le ?_; first | (simp only [cellsA, List.length_cons, List.length_nil, tab_len]; omega) | omega)) | rfl)
    (hb' : m[j']? = some b' := by first | (simp only [mem_tail, mem_tail0, List.getElem?_cons_zero, List.getElem?_cons_succ]; first | done | rfl) | exact mem_head (by assumption) | assumption | (simp only [mem_tailS, mem_tailS0, List.getElem?_cons_zero, List.getElem?_cons_succ]; first | done | rfl) | exact mem_set1 (by assumption) | exact mem_set0 (by assumption) | exact mem_setN1 (by assumption) (by assumption) | exact mem_setN (by assumption) (by assumption)) (htg : b'.tag = tg' := by rfl) (hys : (b'.cells.drop o').take (q * k) = ys := by first | (simp only [List.drop_zero]; first | rfl | (refine List.take_of_length_le ?_; first | (simp only [cellsA, List.length_cons, List.length_nil, tab_len]; omega) | omega)) | rfl)
    (hk : (cellsA z).length = k := by first | rfl | (simp only [cellsA, tab_len, List.length_cons, List.length_nil, List.length_append]; done))
    (hlx : xs.length = p * k := by first | rfl | assumption | (simp only [cellsA, tab_len, List.length_cons, List.length_nil, List.length_append]; first | done | omega) | (simp only [List.length_append, List.length_cons, List.length_nil, *]; first | done | omega)) (hly : ys.length = q * k := by first | rfl | assumption | (simp only [cellsA, tab_len, List.length_cons, List.length_nil, List.length_append]; first | done | omega) | (simp only [List.length_append, List.length_cons, List.length_nil, *]; first | done | omega)) (hq : 0 < q := by omega) (hbig : (p + q) * b ≤ 140737488355328 ∧ p + q ≤ 9223372036854775807 := by omega)
    (hm : m ++ [⟨xs ++ ys, some (p + q), true⟩] = m' := by first | (simp only [List.append_assoc, cellsA, List.cons_append, List.nil_append]; rfl) | rfl) (hj : m.length = j := by first | (simp only [List.length_append, List.length_set, List.length_cons, List.length_nil, Nat.reduceAdd, Nat.zero_add]; first | done | rfl) | rfl) (hd : Nat.blt d n = true := by rfl)
    (h : AOs P ops l K ⟨n, (d, .slice (some ⟨j, 0, some (p + q)⟩) (p + q) (p + q)) :: t, m'⟩) :
    AOs P ops (⟨some d, .call { callee := .builtin .append, args := #[x, y], argTypes := #[st, st] }, ty, pos, af, none⟩ :: l) K ⟨n, t, m⟩ :=
  AOs.gen (v := .slice (some ⟨j, 0, some (p + q)⟩) (p + q) (p + q)) (m' := m') rfl hd (fun B0 w0 r ac w hs => by
    have hx1 := hs.eval x
    have hy1 := hs.eval y
    rw [hx] at hx1
    rw [hy] at hy1
    obtain ⟨hu, inf, hinf, hsz, hbt⟩ := sl_facts (P := P) (st := st)
    have hz1 := hz.out
    rw [hinf] at hz1
    have hz3 : inf.zero = some z := hz1
    obtain ⟨c1, z1, mx, hex, hrx, hcap⟩ := hx1.slice_inv
    have hmx : mx = p := by
      rcases hcap with ⟨_, h⟩ | ⟨h, _⟩
      · exact h
      · cases h
    subst hmx
    obtain ⟨c2, z2, my, hey, hry, _⟩ := hy1.slice_inv
    simp only at hrx hry
    obtain ⟨us1, hus1, hvu1⟩ := hs.sim.part hb1 (by rw [ht1]; exact hrx) hxs
    rw [ht1] at hus1
    have hul1 : us1.length = mx * k := by rw [← hvu1.1, hlx]
    obtain ⟨us, hus, hvu⟩ := hs.sim.part hb' (by rw [htg]; exact hry) hys
    rw [htg] at hus
    have hul : us.length = q * k := by rw [← hvu.1, hly]
    have hzk : z.cells.size = k := by
      rw [← hk]
      have hc := VR.const r hz.ok
      cases z <;> first
        | (obtain ⟨ws, he, hl⟩ := hc.agg_inv; rfl)
        | rfl
    have hex' : ac.eval x = .slice (some ⟨c1, zo none z1 + ox, none⟩) mx mx := hex
    have hey' : ac.eval y = .slice (some ⟨c2, zo tg' z2 + o', none⟩) q my := hey
    have hfy : (Builtin.firstCells inf.size q (.slice (some ⟨c2, zo tg' z2 + o', none⟩) q my)).run P w.drew = .ok us.toArray w.drew :=
      run_firstCells_some w.drew inf.size q _ q my us (by rw [hsz]; exact hul) (fun i v hv => hus i v hv)
    have hfx : (Builtin.firstCells inf.size mx (.slice (some ⟨c1, zo none z1 + ox, none⟩) mx mx)).run P w.drew = .ok us1.toArray w.drew :=
      run_firstCells_some w.drew inf.size mx _ mx mx us1 (by rw [hsz]; exact hul1) (fun i v hv => hus1 i v hv)
    have hroom : ¬ mx + q ≤ mx := by omega
    have hnfit := growslice_fits (need := mx + q) (old := mx) (bytes := inf.bytes) (by omega) (by rw [hbt]; exact hbig.1)
    generalize hncap : grownCap w (mx + q) mx e = ncap at *
    have hge : mx + q ≤ ncap := by rw [← hncap]; exact grownCap_ge _ _ _ _
    have hrun : (Builtin.append_ #[st, st] ty #[ac.eval x, ac.eval y]).run P w = .ok (.slice (some ⟨w.heap.size, 0, none⟩) (mx + q) ncap)
        (w.drew.alloc (.cells (us1 ++ us ++ (Builtin.zeroCells z.cells (ncap - (mx + q))).toList).toArray e)) := by
      rw [hex', hey']
      have h63' : ¬ (9223372036854775807 < ((mx : Int) + (q : Int))) := by omega
      have h48' : ¬ (281474976710656 < Builtin.nextslicecap (mx + q) mx * inf.bytes) := by omega
      subst hncap
      simp [Builtin.append_, run_underlying hu, sizeOf, typeInfo, zeroValue, hinf, hz3, Builtin.lenOf, hroom, h63', h48', Question.forced, hfy, hfx, newRow, grownCap]
      try (congr 2; apply Array.ext'; simp [List.append_assoc])
    have hs' := hs.sim.drew'
    have e1 : (us1 ++ us ++ (Builtin.zeroCells z.cells (ncap - (mx + q))).toList).length = ncap * k := by
      simp only [List.length_append, Array.length_toList, size_zeroCells, hzk, hul, hul1]
      rw [← Nat.add_mul, ← Nat.add_mul]
      congr 1; omega
    obtain ⟨hE, hS⟩ := hs'.pushT (xs := xs ++ ys) (ys := us1 ++ us ++ (Builtin.zeroCells z.cells (ncap - (mx + q))).toList) (fun i u v hu' hv' => by
      have hi : i < (xs ++ ys).length := (List.getElem?_eq_some_iff.1 hu').1
      rw [List.length_append] at hi
      rw [List.getElem?_append_left (by rw [List.length_append]; omega)] at hv'
      exact (hvu1.append hvu).2 i u v hu' hv') (mx + q) ncap
      (by
        refine ⟨?_, ?_, fun h => absurd h (by omega)⟩
        · rw [e1, List.length_append, hlx, hly, ← Nat.add_mul]; exact Nat.mul_le_mul_right _ hge
        · rw [e1, List.length_append, hlx, hly, ← Nat.add_mul, Nat.mul_assoc, Nat.mul_comm k]) e
    refine ⟨.slice (some ⟨w.heap.size, 0, none⟩) (mx + q) ncap, _, _, ?_, hE, hm ▸ hS, .base ⟨w.heap.size, ncap, ncap, by simp [zo], by show addT _ _ _ _ _ _ _ = _; unfold addT; rw [if_pos ⟨hj.symm, rfl⟩]; rfl, .inr ⟨rfl, hge, Nat.le_refl _⟩⟩⟩
    simp only [execOp, resolve, invoke, builtin]
    simp [hrun]) h
end

/-! ### max and min of floats -/
def fmaxF (k : FloatKind) (a b : Nat) : Nat := if flt k a b = true then b else if fgt k a b = true then a else if (k.decode a).neg = true then b else a
def fminF (k : FloatKind) (a b : Nat) : Nat := if flt k a b = true then a else if fgt k a b = true then b else if (k.decode a).neg = true then a else b
theorem order_some {k : FloatKind} {a b : Nat} (ha : fnan k a = false) (hb : fnan k b = false) : ∃ o, k.format.order a b = some o := by
  unfold fnan at ha hb
  show ∃ o, (k.decode a).order (k.decode b) = some o
  cases h1 : k.decode a with
  | nan s f => rw [h1] at ha; cases ha
  | number s m e =>
    cases h2 : k.decode b with
    | nan s f => rw [h2] at hb; cases hb
    | number t n j => exact ⟨_, rfl⟩
    | infinity t => exact ⟨_, rfl⟩
  | infinity s =>
    cases h2 : k.decode b with
    | nan s f => rw [h2] at hb; cases hb
    | number t n j => exact ⟨_, rfl⟩
    | infinity t => exact ⟨_, rfl⟩
theorem VR.float_same {r : Ren} {k : FloatKind} {a : Nat} {y : Value} (h : VR r (.float k a) y) (ha : fnan k a = false) : y = .float k a := by
  obtain ⟨b, e, c, _⟩ := h.float_inv
  have : fnan k b = false := by rw [← fnan_cf, c]; exact ha
  rw [cf_of_not this] at c
  rw [e, c]
theorem run_max {P : Program} {k : FloatKind} {a b : Nat} (ha : fnan k a = false) (hb : fnan k b = false) (w : World) : (Builtin.max2 (.float k a) (.float k b)).run P w = .ok (.float k (fmaxF k a b)) w := by
  obtain ⟨o, ho⟩ := order_some ha hb
  unfold Builtin.max2 fmaxF flt fgt
  simp only [ho]
  cases o <;> rfl
theorem run_min {P : Program} {k : FloatKind} {a b : Nat} (ha : fnan k a = false) (hb : fnan k b = false) (w : World) : (Builtin.min2 (.float k a) (.float k b)).run P w = .ok (.float k (fminF k a b)) w := by
  obtain ⟨o, ho⟩ := order_some ha hb
  unfold Builtin.min2 fminF flt fgt
  simp only [ho]
  cases o <;> rfl
theorem fmax_nn {k : FloatKind} {a b : Nat} (ha : fnan k a = false) (hb : fnan k b = false) : fnan k (fmaxF k a b) = false := by
  unfold fmaxF; split
  · exact hb
  · split
    · exact ha
    · split <;> assumption
theorem fmin_nn {k : FloatKind} {a b : Nat} (ha : fnan k a = false) (hb : fnan k b = false) : fnan k (fminF k a b) = false := by
  unfold fminF; split
  · exact ha
  · split
    · exact hb
    · split <;> assumption
theorem cf_lt_max {k : FloatKind} {r : Ren} {a : Nat} {y : Value} (h : VR r (.float k a) y) (ha : fnan k a = false) : a < fmax k := by
  obtain ⟨b, e, c, l⟩ := h.float_inv
  have : fnan k b = false := by rw [← fnan_cf, c]; exact ha
  rw [cf_of_not this] at c
  rw [← c]; exact l
section
variable {P : Program} {ops l : List Oper} {K : St → Prop} {n : Nat} {t : Env} {m : Mem} {d ty : Nat} {pos : String} {af : Array Edge}
theorem VR.flt_same (r : Ren) {k : FloatKind} {a : Nat} (ha : fnan k a = false) (h : a < fmax k) : VR r (.float k a) (.float k a) := .base ⟨a, rfl, cf_of_not ha, h⟩
theorem fmax_lt {k : FloatKind} {a b : Nat} (ha : a < fmax k) (hb : b < fmax k) : fmaxF k a b < fmax k := by
  unfold fmaxF; split
  · exact hb
  · split
    · exact ha
    · split <;> assumption
theorem fmin_lt {k : FloatKind} {a b : Nat} (ha : a < fmax k) (hb : b < fmax k) : fminF k a b < fmax k := by
  unfold fminF; split
  · exact ha
  · split
    · exact hb
    · split <;> assumption
theorem o_fmax {x y : Operand} {k : FloatKind} {a b : Nat} {ats : Array TypeId} (hx : evalA t x = .float k a := by (conv => (lhs; whnf)); first | done | rfl) (hy : evalA t y = .float k b := by (conv => (lhs; whnf)); first | done | rfl) (ha : fnan k a = false := by assumption) (hb : fnan k b = false := by assumption) (hd : Nat.blt d n = true := by rfl)
    (h : AOs P ops l K ⟨n, (d, .float k (fmaxF k a b)) :: t, m⟩) : AOs P ops (⟨some d, .call { callee := .builtin .max, args := #[x, y], argTypes := ats }, ty, pos, af, none⟩ :: l) K ⟨n, t, m⟩ :=
  AOs.val (v := .float k (fmaxF k a b)) rfl hd (fun _ w r ac _ hs => by
    have hx1 := hs.eval x
    have hy1 := hs.eval y
    rw [hx] at hx1
    rw [hy] at hy1
    refine ⟨.float k (fmaxF k a b), ?_, VR.flt_same r (fmax_nn ha hb) (fmax_lt (cf_lt_max hx1 ha) (cf_lt_max hy1 hb))⟩
    simp [execOp, resolve, hx1.float_same ha, hy1.float_same hb, invoke, builtin, Builtin.max_, run_max ha hb]) h
theorem o_fmin {x y : Operand} {k : FloatKind} {a b : Nat} {ats : Array TypeId} (hx : evalA t x = .float k a := by (conv => (lhs; whnf)); first | done | rfl) (hy : evalA t y = .float k b := by (conv => (lhs; whnf)); first | done | rfl) (ha : fnan k a = false := by assumption) (hb : fnan k b = false := by assumption) (hd : Nat.blt d n = true := by rfl)
    (h : AOs P ops l K ⟨n, (d, .float k (fminF k a b)) :: t, m⟩) : AOs P ops (⟨some d, .call { callee := .builtin .min, args := #[x, y], argTypes := ats }, ty, pos, af, none⟩ :: l) K ⟨n, t, m⟩ :=
  AOs.val (v := .float k (fminF k a b)) rfl hd (fun _ w r ac _ hs => by
    have hx1 := hs.eval x
    have hy1 := hs.eval y
    rw [hx] at hx1
    rw [hy] at hy1
    refine ⟨.float k (fminF k a b), ?_, VR.flt_same r (fmin_nn ha hb) (fmin_lt (cf_lt_max hx1 ha) (cf_lt_max hy1 hb))⟩
    simp [execOp, resolve, hx1.float_same ha, hy1.float_same hb, invoke, builtin, Builtin.min_, run_min ha hb]) h
end
end Go.Proofs.YtgdpcomemkimhaaGreatDoor

/- Comparisons whose outcome is known; results of five. No program in sight. -/
namespace Go.Proofs.YtgdpcomemkimhaaGreatDoor
open Go.RowKit
set_option linter.unusedSimpArgs false
set_option linter.unusedVariables false

section
variable {P : Program} {ops l : List Oper} {K : St → Prop} {n : Nat} {t : Env} {m : Mem} {d ty : Nat} {pos : String} {af : Array Edge}
theorem o_fneS {xt yt : TypeId} {x y : Operand} {k : FloatKind} {a : Nat} (hx : evalA t x = .float k a := by (conv => (lhs; whnf)); first | done | rfl) (hy : evalA t y = .float k a := by (conv => (lhs; whnf)); first | done | rfl) (hn : fnan k a = false := by assumption) (hd : Nat.blt d n = true := by rfl) (h : AOs P ops l K ⟨n, (d, .bool false) :: t, m⟩) :
    AOs P ops (⟨some d, .binOp .neq xt x y yt, ty, pos, af, none⟩ :: l) K ⟨n, t, m⟩ := o_fisnan hx hy hd (by rw [hn]; exact h)
theorem o_fneC {xt yt : TypeId} {x y : Operand} {k : FloatKind} {a b : Nat} {c : Bool} (hx : evalA t x = .float k a := by (conv => (lhs; whnf)); first | done | rfl) (hy : evalA t y = .float k b := by (conv => (lhs; whnf)); first | done | rfl) (hc : feq k a b = c := by assumption) (hd : Nat.blt d n = true := by rfl) (h : AOs P ops l K ⟨n, (d, .bool (!c)) :: t, m⟩) :
    AOs P ops (⟨some d, .binOp .neq xt x y yt, ty, pos, af, none⟩ :: l) K ⟨n, t, m⟩ := o_fne hx hy hd (by rw [hc]; exact h)
theorem o_feqC {xt yt : TypeId} {x y : Operand} {k : FloatKind} {a b : Nat} {c : Bool} (hx : evalA t x = .float k a := by (conv => (lhs; whnf)); first | done | rfl) (hy : evalA t y = .float k b := by (conv => (lhs; whnf)); first | done | rfl) (hc : feq k a b = c := by assumption) (hd : Nat.blt d n = true := by rfl) (h : AOs P ops l K ⟨n, (d, .bool c) :: t, m⟩) :
    AOs P ops (⟨some d, .binOp .eql xt x y yt, ty, pos, af, none⟩ :: l) K ⟨n, t, m⟩ := o_feq hx hy hd (by rw [hc]; exact h)
theorem o_fltC {xt yt : TypeId} {x y : Operand} {k : FloatKind} {a b : Nat} {c : Bool} (hx : evalA t x = .float k a := by (conv => (lhs; whnf)); first | done | rfl) (hy : evalA t y = .float k b := by (conv => (lhs; whnf)); first | done | rfl) (hc : flt k a b = c := by assumption) (hd : Nat.blt d n = true := by rfl) (h : AOs P ops l K ⟨n, (d, .bool c) :: t, m⟩) :
    AOs P ops (⟨some d, .binOp .lss xt x y yt, ty, pos, af, none⟩ :: l) K ⟨n, t, m⟩ := o_flt hx hy hd (by rw [hc]; exact h)
theorem o_fgtC {xt yt : TypeId} {x y : Operand} {k : FloatKind} {a b : Nat} {c : Bool} (hx : evalA t x = .float k a := by (conv => (lhs; whnf)); first | done | rfl) (hy : evalA t y = .float k b := by (conv => (lhs; whnf)); first | done | rfl) (hc : fgt k a b = c := by assumption) (hd : Nat.blt d n = true := by rfl) (h : AOs P ops l K ⟨n, (d, .bool c) :: t, m⟩) :
    AOs P ops (⟨some d, .binOp .gtr xt x y yt, ty, pos, af, none⟩ :: l) K ⟨n, t, m⟩ := o_fgt hx hy hd (by rw [hc]; exact h)
theorem o_fleC {xt yt : TypeId} {x y : Operand} {k : FloatKind} {a b : Nat} {c : Bool} (hx : evalA t x = .float k a := by (conv => (lhs; whnf)); first | done | rfl) (hy : evalA t y = .float k b := by (conv => (lhs; whnf)); first | done | rfl) (hc : fle k a b = c := by assumption) (hd : Nat.blt d n = true := by rfl) (h : AOs P ops l K ⟨n, (d, .bool c) :: t, m⟩) :
    AOs P ops (⟨some d, .binOp .leq xt x y yt, ty, pos, af, none⟩ :: l) K ⟨n, t, m⟩ := o_fle hx hy hd (by rw [hc]; exact h)
theorem o_fgeC {xt yt : TypeId} {x y : Operand} {k : FloatKind} {a b : Nat} {c : Bool} (hx : evalA t x = .float k a := by (conv => (lhs; whnf)); first | done | rfl) (hy : evalA t y = .float k b := by (conv => (lhs; whnf)); first | done | rfl) (hc : fge k a b = c := by assumption) (hd : Nat.blt d n = true := by rfl) (h : AOs P ops l K ⟨n, (d, .bool c) :: t, m⟩) :
    AOs P ops (⟨some d, .binOp .geq xt x y yt, ty, pos, af, none⟩ :: l) K ⟨n, t, m⟩ := o_fge hx hy hd (by rw [hc]; exact h)
end
section
variable {P : Program} {fn : Func} {s : St} {x1 x2 x3 x4 x5 : ResultVar} {v1 v2 v3 v4 v5 v0 : Value} {M T : Mem}
end
end Go.Proofs.YtgdpcomemkimhaaGreatDoor

/- Junctions that are valid. -/
namespace Go.Proofs.YtgdpcomemkimhaaGreatDoor
open Go.RowKit
attribute [local irreducible] AW AOs AO AQ AQW thenA inBlockA postA ACalls Pure
set_option linter.unusedSimpArgs false
set_option linter.unusedVariables false
set_option linter.unusedSectionVars false

/-! ### Plain -/
def jA (h : Nat → Nat) (i k : Nat) : Nat := h (2 + (i * 4 + k))
def jSum (g : Nat → Nat) : Nat → Nat
  | 0 => g 0
  | k + 1 => fadd .f32 (jSum g k) (g (k + 1))
def jS (h : Nat → Nat) (i : Nat) : Nat → Nat
  | 0 => 0
  | k + 1 => jSum (jA h i) k
def jC (ins outs : Int) (h : Nat → Nat) (i k : Nat) : Bool := isSh (jA h i k) && (!(decide (ins ≤ (i : Int)) || decide (outs ≤ (k : Int))) || feq .f32 (jA h i k) 0)
def prB (p : Nat) : Bool := isAm p && (fge .f32 p 1015021568 && fle .f32 p 1115684864)
def noB (p : Nat) : Bool := isAm p && feq .f32 p 0
def jE (ins : Int) (h : Nat → Nat) (i : Nat) : Bool := if (i : Int) < ins then (fge .f32 (jS h i 4) 1065336439 && fle .f32 (jS h i 4) 1065361605) && prB (h (18 + i)) else noB (h (18 + i))
def jnP (ins outs : Int) (h : Nat → Nat) : Prop := (1 ≤ ins ∧ ins ≤ 4) ∧ (1 ≤ outs ∧ outs ≤ 4) ∧ ∀ i : Nat, i < 4 → (∀ k : Nat, k < 4 → jC ins outs h i k = true) ∧ jE ins h i = true
instance (ins outs : Int) (h : Nat → Nat) : Decidable (jnP ins outs h) := inferInstanceAs (Decidable (_ ∧ _ ∧ _))
section
variable {ins outs : Int} {h : Nat → Nat}
end
/-! ### The functions -/
section
variable (ins outs : Int) (h : Nat → Nat)
end
end Go.Proofs.YtgdpcomemkimhaaGreatDoor
