/- copy, max, and slices of one element that can grow. -/
import Derived.Test.YtddmclkijheicaaGreatDoorAf

namespace Go.Proofs.YtddmclkijheicaaGreatDoor
open Go.RowKit
set_option linter.unusedSimpArgs false
set_option linter.unusedVariables false

section
variable {P : Program} {ops l : List Oper} {K : St → Prop} {n : Nat} {t : Env} {m : Mem} {d ty : Nat} {pos : String} {af : Array Edge}
/-- copy -/
theorem o_copy {st k b e : Nat} [ha : SlT P st k b e] {x y : Operand} {j o ln cp j' o' q cp' : Nat} {tg tg' : Option Nat} {b1 b2 : Blk} {c : Nat} {ys cs : List Value} {m' : Mem}
    (hx : evalA t x = .slice (some ⟨j, o, tg⟩) ln cp := by (conv => (lhs; whnf)); first | done | rfl) (hy : evalA t y = .slice (some ⟨j', o', tg'⟩) q cp' := by (conv => (lhs; whnf)); first | done | rfl)
    (hb : m[j]? = some b1 := by first | (simp only [mem_tail, mem_tail0, List.getElem?_cons_zero, List.getElem?_cons_succ]; first | done | rfl) | exact mem_head (by assumption) | assumption | (simp only [mem_tailS, mem_tailS0, List.getElem?_cons_zero, List.getElem?_cons_succ]; first | done | rfl) | exact mem_set1 (by assumption) | exact mem_set0 (by assumption) | exact mem_setN1 (by assumption) (by assumption) | exact mem_setN (by assumption) (by assumption)) (htg : b1.tag = tg := by rfl) (hrw : b1.rw = true := by rfl) (hb' : m[j']? = some b2 := by first | (simp only [mem_tail, mem_tail0, List.getElem?_cons_zero, List.getElem?_cons_succ]; first | done | rfl) | exact mem_head (by assumption) | assumption | (simp only [mem_tailS, mem_tailS0, List.getElem?_cons_zero, List.getElem?_cons_succ]; first | done | rfl) | exact mem_set1 (by assumption) | exact mem_set0 (by assumption) | exact mem_setN1 (by assumption) (by assumption) | exact mem_setN (by assumption) (by assumption)) (htg' : b2.tag = tg' := by rfl)
    (hcn : Nat.min q ln = c) (hys : (b2.cells.drop o').take (c * k) = ys) (hly : ys.length = c * k) (hone : ys.all one = true) (ho : o + ys.length ≤ b1.cells.length)
    (hcs : b1.cells.take o ++ ys ++ b1.cells.drop (o + ys.length) = cs) (hm : m.set j { b1 with cells := cs } = m' := by first | exact set_head1 (by assumption) | exact List.set_set .. | exact set_head0 (by assumption) | (simp only [set_tail, set_tail0, set_tailS, set_tailS0, List.set_cons_zero, List.set_cons_succ, cellsA, List.length_cons, List.length_nil, Nat.reduceAdd]; first | done | rfl) | rfl) (hd : Nat.blt d n = true := by rfl)
    (h : AOs P ops l K ⟨n, (d, .int .i64 (c : Int)) :: t, m'⟩) : AOs P ops (⟨some d, .call { callee := .builtin .copy, args := #[x, y], argTypes := #[st, st] }, ty, pos, af, none⟩ :: l) K ⟨n, t, m⟩ :=
  AOs.gen (v := .int .i64 (c : Int)) (m' := m') rfl hd (fun B0 w0 r ac w hs => by
    have hx1 := hs.eval x
    have hy1 := hs.eval y
    rw [hx] at hx1
    rw [hy] at hy1
    obtain ⟨hu, inf, hinf, hsz, hbt⟩ := sl_facts (P := P) (st := st)
    obtain ⟨c1, z1, mx, hex, hrx, _⟩ := hx1.slice_inv
    obtain ⟨c2, z2, my, hey, hry, _⟩ := hy1.slice_inv
    simp only at hrx hry
    obtain ⟨us, hus, hvu⟩ := hs.sim.part hb' (by rw [htg']; exact hry) hys
    rw [htg'] at hus
    have hul : us.length = c * k := by rw [← hvu.1, hly]
    have hone' := hvu.ones hone
    subst htg
    obtain ⟨hz0, w', hrun, hs'⟩ := hs.sim.set hb hrw hrx hvu ho hone' P
    rw [hcs, hm] at hs'
    have hzo : zo b1.tag z1 = 0 := hz0
    have hxe : ac.eval x = .slice (some ⟨c1, o, none⟩) ln mx := by simpa [hzo] using hex
    have hey' : ac.eval y = .slice (some ⟨c2, zo tg' z2 + o', none⟩) q my := hey
    have hfy : (Builtin.firstCells inf.size c (.slice (some ⟨c2, zo tg' z2 + o', none⟩) q my)).run P w = .ok us.toArray w :=
      run_firstCells_some w inf.size c _ q my us (by rw [hsz]; exact hul) (fun i v hv => hus i v hv)
    have hcn' : q.min ln = c := hcn
    refine ⟨.int .i64 (c : Int), w', r, ?_, Ext.refl r, hs', VR.int r _ _⟩
    simp [execOp, resolve, invoke, builtin, Builtin.copy_, run_underlying hu, sizeOf, typeInfo, hinf, Builtin.lenOf, hxe, hey', hcn', hfy, hrun, goInt]) h

end
end Go.Proofs.YtddmclkijheicaaGreatDoor
