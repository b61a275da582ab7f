/- append to a slice that is full; the greater and the lesser one of numbers. No program in sight. -/
import Derived.Test.YtjghdagcmombnaaDr2
import Derived.Test.YtjghdagcmombnaaFloat

namespace Go.Proofs.Ytjghdagcmombnaa
open Go.RowKit
set_option linter.unusedSimpArgs false
set_option linter.unusedVariables false

section
variable {P : Program} {ops l : List Oper} {K : St → Prop} {n : Nat} {t : Env} {m : Mem} {d ty : Nat} {pos : String} {af : Array Edge}
theorem o_appF {st k b e : Nat} [ha : SlT P st k b e] {z : Value} [hz : TyZ P e z] {x y : Operand} {jx ox p : Nat} {b1 : Blk} {xs : List Value} {j' o' q cp' : Nat} {tg' : Option Nat} {b' : Blk} {ys : List Value} {m' : Mem} {j : Nat}
    (hx : evalA t x = .slice (some ⟨jx, ox, none⟩) p p := by (conv => (lhs; whnf)); first | done | rfl) (hy : evalA t y = .slice (some ⟨j', o', tg'⟩) q cp' := by (conv => (lhs; whnf)); first | done | rfl)
    (hb1 : m[jx]? = some b1 := by first | (simp only [mem_tail, mem_tail0, List.getElem?_cons_zero, List.getElem?_cons_succ]; first | done | rfl) | exact mem_head (by assumption) | assumption | (simp only [mem_tailS, mem_tailS0, List.getElem?_cons_zero, List.getElem?_cons_succ]; first | done | rfl) | exact mem_set1 (by assumption) | exact mem_set0 (by assumption) | exact mem_setN1 (by assumption) (by assumption) | exact mem_setN (by assumption) (by assumption)) (ht1 : b1.tag = none := by rfl) (hxs : (b1.cells.drop ox).take (p * k) = xs := by first | (simp only [List.drop_zero]; first | rfl | (refine List.take_of_length_le ?_; first | (simp only [cellsA, List.length_cons, List.length_nil, tab_len]; omega) | omega)) | rfl)
    (hb' : m[j']? = some b' := by first | (simp only [mem_tail, mem_tail0, List.getElem?_cons_zero, List.getElem?_cons_succ]; first | done | rfl) | exact mem_head (by assumption) | assumption | (simp only [mem_tailS, mem_tailS0, List.getElem?_cons_zero, List.getElem?_cons_succ]; first | done | rfl) | exact mem_set1 (by assumption) | exact mem_set0 (by assumption) | exact mem_setN1 (by assumption) (by assumption) | exact mem_setN (by assumption) (by assumption)) (htg : b'.tag = tg' := by rfl) (hys : (b'.cells.drop o').take (q * k) = ys := by first | (simp only [List.drop_zero]; first | rfl | (refine List.take_of_length_le ?_; first | (simp only [cellsA, List.length_cons, List.length_nil, tab_len]; omega) | omega)) | rfl)
    (hk : (cellsA z).length = k := by first | rfl | (simp only [cellsA, tab_len, List.length_cons, List.length_nil, List.length_append]; done))
    (hlx : xs.length = p * k := by first | rfl | assumption | (simp only [cellsA, tab_len, List.length_cons, List.length_nil, List.length_append]; first | done | omega) | (simp only [List.length_append, List.length_cons, List.length_nil, *]; first | done | omega)) (hly : ys.length = q * k := by first | rfl | assumption | (simp only [cellsA, tab_len, List.length_cons, List.length_nil, List.length_append]; first | done | omega) | (simp only [List.length_append, List.length_cons, List.length_nil, *]; first | done | omega)) (hq : 0 < q := by omega) (hbig : (p + q) * b ≤ 140737488355328 ∧ p + q ≤ 9223372036854775807 := by omega)
    (hm : m ++ [⟨xs ++ ys, some (p + q), true⟩] = m' := by first | (simp only [List.append_assoc, cellsA, List.cons_append, List.nil_append]; rfl) | rfl) (hj : m.length = j := by first | (simp only [List.length_append, List.length_set, List.length_cons, List.length_nil, Nat.reduceAdd, Nat.zero_add]; first | done | rfl) | rfl) (hd : Nat.blt d n = true := by rfl)
    (h : AOs P ops l K ⟨n, (d, .slice (some ⟨j, 0, some (p + q)⟩) (p + q) (p + q)) :: t, m'⟩) :
    AOs P ops (⟨some d, .call { callee := .builtin .append, args := #[x, y], argTypes := #[st, st] }, ty, pos, af, none⟩ :: l) K ⟨n, t, m⟩ :=
  AOs.gen (v := .slice (some ⟨j, 0, some (p + q)⟩) (p + q) (p + q)) (m' := m') rfl hd (fun B0 w0 r ac w hs => by
    have hx1 := hs.eval x
    have hy1 := hs.eval y
    rw [hx] at hx1
    rw [hy] at hy1
    obtain ⟨hu, inf, hinf, hsz, hbt⟩ := sl_facts (P := P) (st := st)
    have hz1 := hz.out
    rw [hinf] at hz1
    have hz3 : inf.zero = some z := hz1
    obtain ⟨c1, z1, mx, hex, hrx, hcap⟩ := hx1.slice_inv
    have hmx : mx = p := by
      rcases hcap with ⟨_, h⟩ | ⟨h, _⟩
      · exact h
      · cases h
    subst hmx
    obtain ⟨c2, z2, my, hey, hry, _⟩ := hy1.slice_inv
    simp only at hrx hry
    obtain ⟨us1, hus1, hvu1⟩ := hs.sim.part hb1 (by rw [ht1]; exact hrx) hxs
    rw [ht1] at hus1
    have hul1 : us1.length = mx * k := by rw [← hvu1.1, hlx]
    obtain ⟨us, hus, hvu⟩ := hs.sim.part hb' (by rw [htg]; exact hry) hys
    rw [htg] at hus
    have hul : us.length = q * k := by rw [← hvu.1, hly]
    have hzk : z.cells.size = k := by
      rw [← hk]
      have hc := VR.const r hz.ok
      cases z <;> first
        | (obtain ⟨ws, he, hl⟩ := hc.agg_inv; rfl)
        | rfl
    have hex' : ac.eval x = .slice (some ⟨c1, zo none z1 + ox, none⟩) mx mx := hex
    have hey' : ac.eval y = .slice (some ⟨c2, zo tg' z2 + o', none⟩) q my := hey
    have hfy : (Builtin.firstCells inf.size q (.slice (some ⟨c2, zo tg' z2 + o', none⟩) q my)).run P w.drew = .ok us.toArray w.drew :=
      run_firstCells_some w.drew inf.size q _ q my us (by rw [hsz]; exact hul) (fun i v hv => hus i v hv)
    have hfx : (Builtin.firstCells inf.size mx (.slice (some ⟨c1, zo none z1 + ox, none⟩) mx mx)).run P w.drew = .ok us1.toArray w.drew :=
      run_firstCells_some w.drew inf.size mx _ mx mx us1 (by rw [hsz]; exact hul1) (fun i v hv => hus1 i v hv)
    have hroom : ¬ mx + q ≤ mx := by omega
    have hnfit := growslice_fits (need := mx + q) (old := mx) (bytes := inf.bytes) (by omega) (by rw [hbt]; exact hbig.1)
    generalize hncap : grownCap w (mx + q) mx e = ncap at *
    have hge : mx + q ≤ ncap := by rw [← hncap]; exact grownCap_ge _ _ _ _
    have hrun : (Builtin.append_ #[st, st] ty #[ac.eval x, ac.eval y]).run P w = .ok (.slice (some ⟨w.heap.size, 0, none⟩) (mx + q) ncap)
        (w.drew.alloc (.cells (us1 ++ us ++ (Builtin.zeroCells z.cells (ncap - (mx + q))).toList).toArray e)) := by
      rw [hex', hey']
      have h63' : ¬ (9223372036854775807 < ((mx : Int) + (q : Int))) := by omega
      have h48' : ¬ (281474976710656 < Builtin.nextslicecap (mx + q) mx * inf.bytes) := by omega
      subst hncap
      simp [Builtin.append_, run_underlying hu, sizeOf, typeInfo, zeroValue, hinf, hz3, Builtin.lenOf, hroom, h63', h48', Question.forced, hfy, hfx, newRow, grownCap]
      try (congr 2; apply Array.ext'; simp [List.append_assoc])
    have hs' := hs.sim.drew'
    have e1 : (us1 ++ us ++ (Builtin.zeroCells z.cells (ncap - (mx + q))).toList).length = ncap * k := by
      simp only [List.length_append, Array.length_toList, size_zeroCells, hzk, hul, hul1]
      rw [← Nat.add_mul, ← Nat.add_mul]
      congr 1; omega
    obtain ⟨hE, hS⟩ := hs'.pushT (xs := xs ++ ys) (ys := us1 ++ us ++ (Builtin.zeroCells z.cells (ncap - (mx + q))).toList) (fun i u v hu' hv' => by
      have hi : i < (xs ++ ys).length := (List.getElem?_eq_some_iff.1 hu').1
      rw [List.length_append] at hi
      rw [List.getElem?_append_left (by rw [List.length_append]; omega)] at hv'
      exact (hvu1.append hvu).2 i u v hu' hv') (mx + q) ncap
      (by
        refine ⟨?_, ?_, fun h => absurd h (by omega)⟩
        · rw [e1, List.length_append, hlx, hly, ← Nat.add_mul]; exact Nat.mul_le_mul_right _ hge
        · rw [e1, List.length_append, hlx, hly, ← Nat.add_mul, Nat.mul_assoc, Nat.mul_comm k]) e
    refine ⟨.slice (some ⟨w.heap.size, 0, none⟩) (mx + q) ncap, _, _, ?_, hE, hm ▸ hS, .base ⟨w.heap.size, ncap, ncap, by simp [zo], by show addT _ _ _ _ _ _ _ = _; unfold addT; rw [if_pos ⟨hj.symm, rfl⟩]; rfl, .inr ⟨rfl, hge, Nat.le_refl _⟩⟩⟩
    simp only [execOp, resolve, invoke, builtin]
    simp [hrun]) h
/-- append of a list of nothing. -/
theorem o_appZ {st k b e : Nat} [ha : SlT P st k b e] {x y : Operand} {v : Value} {p cp cq : Nat} {a a' : Option Addr} (hx : evalA t x = v := by (conv => (lhs; whnf)); first | done | rfl) (hv : v = .slice a p cp := by rfl) (hp : p ≤ cp := by omega) (hy : evalA t y = .slice a' 0 cq := by (conv => (lhs; whnf)); first | done | rfl) (hd : Nat.blt d n = true := by rfl)
    (h : AOs P ops l K ⟨n, (d, v) :: t, m⟩) :
    AOs P ops (⟨some d, .call { callee := .builtin .append, args := #[x, y], argTypes := #[st, st] }, ty, pos, af, none⟩ :: l) K ⟨n, t, m⟩ :=
  AOs.val (v := v) rfl hd (fun B0 w0 r ac w hs => by
    have hx1 := hs.eval x
    have hy1 := hs.eval y
    rw [hx] at hx1
    rw [hy] at hy1
    obtain ⟨hu, inf, hinf, hsz, hbt⟩ := sl_facts (P := P) (st := st)
    obtain ⟨a2, cq2, hye⟩ := hy1.slen
    have hfy : (Builtin.firstCells inf.size 0 (.slice a2 0 cq2)).run P w = .ok #[] w := by
      cases a2 with
      | none => exact run_firstCells_none _ _ _ _ _
      | some a => exact run_firstCells_some w inf.size 0 a 0 cq2 [] (by simp) (by simp)
    subst hv
    obtain ⟨a', cp', hxe⟩ := hx1.slen
    have hcp : p ≤ cp' := by
      have hx2 := hx1
      rw [hxe] at hx2
      cases a with
      | some a =>
        obtain ⟨c, z, m', hy, _, hm⟩ := hx2.slice_inv
        cases hy
        rcases hm with ⟨_, h⟩ | ⟨_, h, _⟩
        · omega
        · omega
      | none => cases hx2 with | base h => obtain ⟨h, _⟩ := h; omega
    refine ⟨ac.eval x, ?_, hx1⟩
    simp only [execOp, resolve, invoke, builtin]
    have hrun : (Builtin.append_ #[st, st] ty #[ac.eval x, ac.eval y]).run P w = .ok (ac.eval x) w := by
      rw [hxe, hye]
      cases a' <;> simp [Builtin.append_, run_underlying hu, sizeOf, typeInfo, hinf, Builtin.lenOf, hcp, hfy, storeCells]
    simp [hrun]) h
end

/-! ### max and min of floats -/
section
variable {P : Program} {ops l : List Oper} {K : St → Prop} {n : Nat} {t : Env} {m : Mem} {d ty : Nat} {pos : String} {af : Array Edge}
end
end Go.Proofs.Ytjghdagcmombnaa

/- Comparisons whose outcome is known; results of five. No program in sight. -/
namespace Go.Proofs.Ytjghdagcmombnaa
open Go.RowKit
set_option linter.unusedSimpArgs false
set_option linter.unusedVariables false

section
variable {P : Program} {ops l : List Oper} {K : St → Prop} {n : Nat} {t : Env} {m : Mem} {d ty : Nat} {pos : String} {af : Array Edge}
theorem o_fneS {xt yt : TypeId} {x y : Operand} {k : FloatKind} {a : Nat} (hx : evalA t x = .float k a := by (conv => (lhs; whnf)); first | done | rfl) (hy : evalA t y = .float k a := by (conv => (lhs; whnf)); first | done | rfl) (hn : fnan k a = false := by assumption) (hd : Nat.blt d n = true := by rfl) (h : AOs P ops l K ⟨n, (d, .bool false) :: t, m⟩) :
    AOs P ops (⟨some d, .binOp .neq xt x y yt, ty, pos, af, none⟩ :: l) K ⟨n, t, m⟩ := o_fisnan hx hy hd (by rw [hn]; exact h)
theorem o_fneC {xt yt : TypeId} {x y : Operand} {k : FloatKind} {a b : Nat} {c : Bool} (hx : evalA t x = .float k a := by (conv => (lhs; whnf)); first | done | rfl) (hy : evalA t y = .float k b := by (conv => (lhs; whnf)); first | done | rfl) (hc : feq k a b = c := by assumption) (hd : Nat.blt d n = true := by rfl) (h : AOs P ops l K ⟨n, (d, .bool (!c)) :: t, m⟩) :
    AOs P ops (⟨some d, .binOp .neq xt x y yt, ty, pos, af, none⟩ :: l) K ⟨n, t, m⟩ := o_fne hx hy hd (by rw [hc]; exact h)
theorem o_feqC {xt yt : TypeId} {x y : Operand} {k : FloatKind} {a b : Nat} {c : Bool} (hx : evalA t x = .float k a := by (conv => (lhs; whnf)); first | done | rfl) (hy : evalA t y = .float k b := by (conv => (lhs; whnf)); first | done | rfl) (hc : feq k a b = c := by assumption) (hd : Nat.blt d n = true := by rfl) (h : AOs P ops l K ⟨n, (d, .bool c) :: t, m⟩) :
    AOs P ops (⟨some d, .binOp .eql xt x y yt, ty, pos, af, none⟩ :: l) K ⟨n, t, m⟩ := o_feq hx hy hd (by rw [hc]; exact h)
theorem o_fltC {xt yt : TypeId} {x y : Operand} {k : FloatKind} {a b : Nat} {c : Bool} (hx : evalA t x = .float k a := by (conv => (lhs; whnf)); first | done | rfl) (hy : evalA t y = .float k b := by (conv => (lhs; whnf)); first | done | rfl) (hc : flt k a b = c := by assumption) (hd : Nat.blt d n = true := by rfl) (h : AOs P ops l K ⟨n, (d, .bool c) :: t, m⟩) :
    AOs P ops (⟨some d, .binOp .lss xt x y yt, ty, pos, af, none⟩ :: l) K ⟨n, t, m⟩ := o_flt hx hy hd (by rw [hc]; exact h)
theorem o_fgtC {xt yt : TypeId} {x y : Operand} {k : FloatKind} {a b : Nat} {c : Bool} (hx : evalA t x = .float k a := by (conv => (lhs; whnf)); first | done | rfl) (hy : evalA t y = .float k b := by (conv => (lhs; whnf)); first | done | rfl) (hc : fgt k a b = c := by assumption) (hd : Nat.blt d n = true := by rfl) (h : AOs P ops l K ⟨n, (d, .bool c) :: t, m⟩) :
    AOs P ops (⟨some d, .binOp .gtr xt x y yt, ty, pos, af, none⟩ :: l) K ⟨n, t, m⟩ := o_fgt hx hy hd (by rw [hc]; exact h)
theorem o_fleC {xt yt : TypeId} {x y : Operand} {k : FloatKind} {a b : Nat} {c : Bool} (hx : evalA t x = .float k a := by (conv => (lhs; whnf)); first | done | rfl) (hy : evalA t y = .float k b := by (conv => (lhs; whnf)); first | done | rfl) (hc : fle k a b = c := by assumption) (hd : Nat.blt d n = true := by rfl) (h : AOs P ops l K ⟨n, (d, .bool c) :: t, m⟩) :
    AOs P ops (⟨some d, .binOp .leq xt x y yt, ty, pos, af, none⟩ :: l) K ⟨n, t, m⟩ := o_fle hx hy hd (by rw [hc]; exact h)
theorem o_fgeC {xt yt : TypeId} {x y : Operand} {k : FloatKind} {a b : Nat} {c : Bool} (hx : evalA t x = .float k a := by (conv => (lhs; whnf)); first | done | rfl) (hy : evalA t y = .float k b := by (conv => (lhs; whnf)); first | done | rfl) (hc : fge k a b = c := by assumption) (hd : Nat.blt d n = true := by rfl) (h : AOs P ops l K ⟨n, (d, .bool c) :: t, m⟩) :
    AOs P ops (⟨some d, .binOp .geq xt x y yt, ty, pos, af, none⟩ :: l) K ⟨n, t, m⟩ := o_fge hx hy hd (by rw [hc]; exact h)
end
section
variable {P : Program} {fn : Func} {s : St} {x1 x2 x3 x4 x5 : ResultVar} {v1 v2 v3 v4 v5 v0 : Value} {M T : Mem}
end
end Go.Proofs.Ytjghdagcmombnaa
