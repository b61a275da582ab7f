/- The clean rules for variables in memory, for calls, and for results. No program in sight. -/
import Derived.Test.YtjghdagcmombnaaMem

namespace Go.Proofs.Ytjghdagcmombnaa
open Go.RowKit

/-- What lies in cells, read as a variable of some make. -/
def ldA : TK → Nat → List Value → Option Value
  | .one, o, cs => cs[o]?
  | .agg k, o, cs => if o + k ≤ cs.length then some (.agg ((cs.drop o).take k).toArray) else none

def TK.size : TK → Nat
  | .one => 1
  | .agg k => k

theorem run_isAgg {P : Program} {t : TypeId} {k : TK} (h : tk P t = some k) (w : World) : (isAgg t).run P w = .ok (match k with | .one => false | .agg _ => true) w := by
  unfold tk at h
  cases hu : P.underlying t with
  | none => rw [hu] at h; simp at h
  | some d =>
    unfold isAgg
    rw [Sem.run_bind, run_underlying hu w]
    rw [hu] at h
    cases hi : P.info? t with
    | none => rw [hi] at h; cases d <;> simp at h
    | some i => rw [hi] at h; cases d <;> simp at h <;> subst h <;> rfl

theorem tk_size {P : Program} {t : TypeId} {k : Nat} (h : tk P t = some (.agg k)) (w : World) : (sizeOf t).run P w = .ok k w := by
  unfold tk at h
  cases hi : P.info? t with
  | none => rw [hi] at h; cases hu : P.underlying t with
    | none => rw [hu] at h; simp at h
    | some d => rw [hu] at h; cases d <;> simp at h
  | some i =>
    rw [hi] at h
    have : i.size = k := by
      cases hu : P.underlying t with
      | none => rw [hu] at h; simp at h
      | some d => rw [hu] at h; cases d <;> simp at h <;> exact h
    simp [sizeOf, typeInfo, hi, this]

section
variable {P : Program} {ops l : List Oper} {K : St → Prop} {n : Nat} {t : Env} {m : Mem} {d ty : Nat} {pos : String} {af : Array Edge}

theorem AOs.gen {o : Oper} {v : Value} {s : St} {m' : Mem} (hg : o.guard = none) (hd : dlt o.dst s.n = true)
    (hrun : ∀ B0 w0 r a w, SimSt B0 w0 r s a w → ∃ d w' r', (execOp a.eval o).run P w = .ok (.value d) w' ∧ Ext r r' ∧ Sim B0 w0 r' m' w' ∧ VR r' v d)
    (h : AOs P ops l K (({ s with m := m' } : St).put o.dst v)) : AOs P ops (o :: l) K s := by
  refine AOs.of_AO hg fun B0 w0 r a w Q' hs => ?_
  obtain ⟨x, w', r', hx, he, hs', hv⟩ := hrun B0 w0 r a w hs
  unfold Oper.wp
  rw [hx]
  exact ⟨r', _, he, hs.put he hs' hd hv, h⟩

theorem run_newVar (P : Program) (t : TypeId) (v : Value) (w : World) : (newVar t v).run P w = .ok ⟨w.heap.size, 0, none⟩ (w.alloc (.cells v.cells t)) := rfl
theorem run_typeInfo' {P : Program} {t : TypeId} {i : TypeInfo} (h : P.info? t = some i) (w : World) : (typeInfo t).run P w = .ok i w := by
  simp [typeInfo, h]

theorem o_box {et : TypeId} {x : Operand} {v : Value} {m' : Mem} {j : Nat} (hv : evalA t x = v := by (conv => (lhs; whnf)); first | done | rfl) (hw : whole v = true := by first | exact whole_tab (fun _ => rfl) | exact whole_tabR (fun _ => rfl) rfl | rfl | simp [whole, tab_one, one]) (hm : m ++ [⟨cellsA v, none, true⟩] = m' := by first | (simp only [List.append_assoc, cellsA, List.cons_append, List.nil_append]; rfl) | rfl) (hj : m.length = j := by first | (simp only [List.length_append, List.length_set, List.length_cons, List.length_nil, Nat.reduceAdd, Nat.zero_add]; first | done | rfl) | rfl) (hd : Nat.blt d n = true := by rfl)
    (h : AOs P ops l K ⟨n, (d, .pointer (some ⟨j, 0, none⟩)) :: t, m'⟩) : AOs P ops (⟨some d, .box et x, ty, pos, af, none⟩ :: l) K ⟨n, t, m⟩ :=
  AOs.gen (v := .pointer (some ⟨j, 0, none⟩)) (m' := m') rfl hd (fun B0 w0 r a w hs => by
    have h1 := hs.eval x
    rw [hv] at h1
    have h2 := (h1.whole_inv hw).1
    have h3 := hs.sim.push h2 none (.inl rfl) et
    refine ⟨.pointer (some ⟨w.heap.size, 0, none⟩), _, _, rfl, hs.sim.ext_new none w.heap.size, hm ▸ h3, .base ⟨w.heap.size, 0, rfl, ?_⟩⟩
    show addR r m.length none w.heap.size j none = _
    unfold addR; rw [if_pos ⟨hj.symm, rfl⟩]) h

theorem o_alloc {et : TypeId} {z : Value} [hz : TyZ P et z] {m' : Mem} {j : Nat} (hm : m ++ [⟨cellsA z, none, true⟩] = m' := by first | (simp only [List.append_assoc, cellsA, List.cons_append, List.nil_append]; rfl) | rfl) (hj : m.length = j := by first | (simp only [List.length_append, List.length_set, List.length_cons, List.length_nil, Nat.reduceAdd, Nat.zero_add]; first | done | rfl) | rfl) (hd : Nat.blt d n = true := by rfl)
    (h : AOs P ops l K ⟨n, (d, .pointer (some ⟨j, 0, none⟩)) :: t, m'⟩) : AOs P ops (⟨some d, .alloc et, ty, pos, af, none⟩ :: l) K ⟨n, t, m⟩ :=
  AOs.gen (v := .pointer (some ⟨j, 0, none⟩)) (m' := m') rfl hd (fun B0 w0 r a w hs => by
    have hz1 := hz.out
    have hz2 := hz.ok
    have h2 : VRs r (cellsA z) z.cells.toList := by
      have hc := VR.const r hz2
      cases z <;> first
        | (obtain ⟨ys, he, hl⟩ := hc.agg_inv; cases he; exact hl)
        | exact VRs.cons hc (VRs.nil r)
    have h3 := hs.sim.push h2 none (.inl rfl) et
    refine ⟨.pointer (some ⟨w.heap.size, 0, none⟩), _, _, ?_, hs.sim.ext_new none w.heap.size, hm ▸ h3, .base ⟨w.heap.size, 0, rfl, ?_⟩⟩
    · cases hi : P.info? et with
      | none => rw [hi] at hz1; cases hz1
      | some i =>
        rw [hi] at hz1
        have hz3 : i.zero = some z := hz1
        simp only [execOp, Instr.alloc, zeroValue, Sem.run_bind, run_typeInfo' hi, Result.andThen_ok, hz3, run_newVar, Sem.run_pure]
    · show addR r m.length none w.heap.size j none = _
      unfold addR; rw [if_pos ⟨hj.symm, rfl⟩]) h

theorem run_load_cell {P : Program} {w : World} {a : Addr} {v : Value} (h : w.cell? a = some v) : (load a).run P w = .ok v w := by
  rw [run_load, h]

theorem Sim.ld {B0 : Nat} {w0 : World} {r : Ren} {M : Mem} {w : World} (hs : Sim B0 w0 r M w) {j o : Nat} {tg : Option Nat} {b : Blk} {k : TK} {lt : TypeId} (hk : tk P lt = some k)
    (hb : M[j]? = some b) (htg : b.tag = tg) {v : Value} (hv : ldA k o b.cells = some v) {c z : Nat} (hr : r j tg = some (c, z)) :
    ∃ y, (loadVar lt ⟨c, zo tg z + o, none⟩).run P w = .ok y w ∧ VR r v y := by
  subst htg
  unfold loadVar
  rw [Sem.run_bind, run_isAgg hk]
  cases k with
  | one =>
    obtain ⟨y, hy, hvy⟩ := hs.cell hb hr hv
    exact ⟨y, run_load_cell hy, hvy⟩
  | agg k =>
    simp only [ldA] at hv
    split at hv
    · rename_i hl
      cases hv
      obtain ⟨ys, h1, h2⟩ := hs.cells hb hr (o := o) (xs := (b.cells.drop o).take k) (fun i x hx => by
        rw [List.getElem?_take] at hx
        split at hx
        · rwa [List.getElem?_drop] at hx
        · cases hx)
      refine ⟨.agg ys.toArray, ?_, VR.agg_mk h2⟩
      have hlen : ys.length = k := by rw [← h2.1]; simp; omega
      have hl := run_loadCells_list (P := P) w ⟨c, zo b.tag z + o, none⟩ ys (fun i y hy => by rw [addr_add]; exact h1 i y hy)
      rw [hlen] at hl
      simp [Sem.run_bind, tk_size hk, hl]
    · cases hv

theorem o_load {lt : TypeId} {k : TK} [hk : TyK P lt k] {x : Operand} {j o : Nat} {tg : Option Nat} {b : Blk} {v : Value} (hx : evalA t x = .pointer (some ⟨j, o, tg⟩) := by (conv => (lhs; whnf)); first | done | rfl)
    (hb : m[j]? = some b := by first | (simp only [mem_tail, mem_tail0, List.getElem?_cons_zero, List.getElem?_cons_succ]; first | done | rfl) | exact mem_head (by assumption) | assumption | (simp only [mem_tailS, mem_tailS0, List.getElem?_cons_zero, List.getElem?_cons_succ]; first | done | rfl) | exact mem_set1 (by assumption) | exact mem_set0 (by assumption) | exact mem_setN1 (by assumption) (by assumption) | exact mem_setN (by assumption) (by assumption)) (htg : b.tag = tg := by rfl) (hv : ldA k o b.cells = some v := by first | (refine ld_tab ?_ rfl; omega) | (refine ld_all ?_; (first | rfl | (simp only [tab_len]; done))) | (refine ld_part ?_; omega) | (refine ld_row ?_ ?_ rfl; omega; (intro q _; first | rfl | (split <;> rfl))) | (refine ld_cell ?_ ?_ ?_ rfl; omega; (intro q _; first | rfl | (split <;> rfl)); omega) | (refine ld_cell0 ?_ ?_ ?_ rfl; omega; (intro q _; first | rfl | (split <;> rfl)); omega) | (refine ld_row00 ?_ ?_ rfl; omega; (intro q _; first | rfl | (split <;> rfl))) | (refine ld_cell00 ?_ rfl; omega) | exact ld_tabL | exact ld_tabR | (refine ld_tabI ?_ rfl; omega) | (refine ld_rowL ?_ ?_ rfl; omega; (intro q _; first | rfl | (split <;> rfl))) | rfl) (hd : Nat.blt d n = true := by rfl) (h : AOs P ops l K ⟨n, (d, v) :: t, m⟩) :
    AOs P ops (⟨some d, .load lt x, ty, pos, af, none⟩ :: l) K ⟨n, t, m⟩ :=
  AOs.val (v := v) rfl hd (fun B0 w0 r a w hs => by
    have h1 := hs.eval x
    rw [hx] at h1
    obtain ⟨c, z, he, hr⟩ := h1.ptr_inv
    obtain ⟨y, hy, hvy⟩ := hs.sim.ld hk.out hb htg hv hr
    refine ⟨y, ?_, hvy⟩
    simp [execOp, he, Instr.loadAt, Instr.sureAddr, hy]) h

/-- A type whose variables have as many cells as its make tells. -/
class TyS (P : Program) (t : TypeId) (k : outParam Nat) : Prop where
  out : (P.info? t).map (·.size) = some k

theorem o_store {lt : TypeId} {k : Nat} [hk : TyS P lt k] {x y : Operand} {j o : Nat} {tg : Option Nat} {b : Blk} {v : Value} {m' : Mem} (hx : evalA t x = .pointer (some ⟨j, o, tg⟩) := by (conv => (lhs; whnf)); first | done | rfl) (hy : evalA t y = v := by (conv => (lhs; whnf)); first | done | rfl)
    (hb : m[j]? = some b := by first | (simp only [mem_tail, mem_tail0, List.getElem?_cons_zero, List.getElem?_cons_succ]; first | done | rfl) | exact mem_head (by assumption) | assumption | (simp only [mem_tailS, mem_tailS0, List.getElem?_cons_zero, List.getElem?_cons_succ]; first | done | rfl) | exact mem_set1 (by assumption) | exact mem_set0 (by assumption) | exact mem_setN1 (by assumption) (by assumption) | exact mem_setN (by assumption) (by assumption)) (htg : b.tag = tg := by rfl) (hrw : b.rw = true := by rfl) (hw : whole v = true := by first | exact whole_tab (fun _ => rfl) | exact whole_tabR (fun _ => rfl) rfl | rfl | simp [whole, tab_one, one]) (hl : (cellsA v).length = k := by first | rfl | simp only [cellsA, tab_len, List.length_cons, List.length_nil]) (ho : o + (cellsA v).length ≤ b.cells.length := by first | (simp only [cellsA, tab_len, List.length_cons, List.length_nil]; omega) | (simp only [cellsA, tab_len, List.length_append, List.length_cons, List.length_nil]; omega) | (refine rows_le ?_ ?_ ?_; omega; (intro q _; first | rfl | (split <;> rfl)); simp [cellsA, tab_len]; done) | (refine rows_le0 ?_ ?_ ?_; omega; (intro q _; first | rfl | (split <;> rfl)); simp [cellsA, tab_len]; done))
    {cs : List Value} (hcs : b.cells.take o ++ cellsA v ++ b.cells.drop (o + (cellsA v).length) = cs := by first | (with_reducible refine st_all ?_; (first | rfl | (simp only [cellsA, tab_len, List.length_cons, List.length_nil]; done))) | (refine st_tab1 ?_; omega) | (refine st_tabk ?_; omega) | exact st_tabL | exact st_tabR | (refine st_tabI ?_; omega) | (refine st_row ?_ ?_ ?_; omega; (intro q _; first | rfl | (split <;> rfl)); rfl) | (refine st_cell ?_ ?_ ?_; omega; (intro q _; first | rfl | (split <;> rfl)); omega) | (refine st_cell0 ?_ ?_ ?_; omega; (intro q _; first | rfl | (split <;> rfl)); omega) | (simp only [cellsA, List.take_succ_cons, List.take_zero, List.drop_succ_cons, List.drop_zero, List.length_cons, List.length_nil, Nat.reduceAdd, Nat.reduceMul, Nat.zero_mul, Nat.mul_one, List.cons_append, List.nil_append, List.append_nil, List.append_assoc]; rfl)) (hm : m.set j { b with cells := cs } = m' := by first | exact set_head1 (by assumption) | exact List.set_set .. | exact set_head0 (by assumption) | (simp only [set_tail, set_tail0, set_tailS, set_tailS0, List.set_cons_zero, List.set_cons_succ, cellsA, List.length_cons, List.length_nil, Nat.reduceAdd]; first | done | rfl) | rfl)
    (h : AOs P ops l K ⟨n, t, m'⟩) : AOs P ops (⟨none, .store lt x y, ty, pos, af, none⟩ :: l) K ⟨n, t, m⟩ := by
  subst hcs
  refine AOs.of_AO rfl fun B0 w0 r a w Q' hs => ?_
  have h1 := hs.eval x
  have h2 := hs.eval y
  rw [hx] at h1
  rw [hy] at h2
  obtain ⟨c, z, he, hr⟩ := h1.ptr_inv
  obtain ⟨hcs, hone⟩ := h2.whole_inv hw
  subst htg
  obtain ⟨hz0, w', hrun, hs'⟩ := hs.sim.set hb hrw hr hcs ho hone P
  simp only [hz0, Nat.zero_add] at he
  have hsz : (sizeOf lt).run P w = .ok k w := by
    have := hk.out
    cases hi : P.info? lt with
    | none => rw [hi] at this; cases this
    | some i => rw [hi] at this; simp at this; simp [sizeOf, typeInfo, hi, this]
  have hcl : (a.eval y).cells.size = k := by rw [← hl, hcs.1]; simp
  have hrun' : (execOp a.eval ⟨none, .store lt x y, ty, pos, af, none⟩).run P w = .ok .skip w' := by
    simp [execOp, he, Instr.storeAt, Instr.sureAddr, storeVar, Sem.run_bind, hsz, hcl, hrun]
  unfold Oper.wp
  rw [hrun']
  exact ⟨r, ⟨n, t, m'⟩, Ext.refl r, ⟨hs.defers, hs.size, hs.vals, by rw [← hm]; exact hs'⟩, h⟩

theorem o_field {st f off : Nat} [hf : FldAt P st f off] {x : Operand} {j o o' : Nat} {tg : Option Nat} (hx : evalA t x = .pointer (some ⟨j, o, tg⟩) := by (conv => (lhs; whnf)); first | done | rfl) (ho : o + off = o' := by first | (simp only [Int.toNat_natCast, Nat.zero_add, Nat.mul_one, Nat.reduceMul, Nat.reduceAdd, Int.reduceToNat]; rfl) | rfl) (hd : Nat.blt d n = true := by rfl)
    (h : AOs P ops l K ⟨n, (d, .pointer (some ⟨j, o', tg⟩)) :: t, m⟩) : AOs P ops (⟨some d, .fieldAddr st x f, ty, pos, af, none⟩ :: l) K ⟨n, t, m⟩ :=
  AOs.val (v := .pointer (some ⟨j, o', tg⟩)) rfl hd (fun B0 w0 r a w hs => by
    have h1 := hs.eval x
    rw [hx] at h1
    obtain ⟨c, z, he, hr⟩ := h1.ptr_inv
    refine ⟨.pointer (some ⟨c, zo tg z + o', none⟩), ?_, .base ⟨c, z, rfl, hr⟩⟩
    have hf := hf.out
    unfold fldAt at hf
    cases hu : P.underlying st with
    | none => rw [hu] at hf; simp at hf
    | some ds =>
      rw [hu] at hf
      cases ds <;> simp at hf
      rename_i fs
      cases hff : fs[f]? with
      | none => rw [hff] at hf; simp at hf
      | some fl =>
        rw [hff] at hf
        simp at hf
        cases hi : P.info? fl.type with
        | none => rw [hi] at hf; simp at hf
        | some i =>
          rw [hi] at hf
          simp at hf
          obtain ⟨hz, hoff⟩ := hf
          have e : zo tg z + o' = zo tg z + o + off := by omega
          simp [execOp, he, Instr.fieldAt, run_underlying hu, hff, Instr.sureAddr, fieldPlace, sizeOf, typeInfo, hi, hz, addr_add, hoff, e]) h

theorem arr_facts {at_ len k e : Nat} [ha : ArrT P at_ len k e] : P.underlying at_ = some (.array len e) ∧ ∀ w, (sizeOf e).run P w = .ok k w := by
  have h := ha.out
  unfold arrAt at h
  cases hu : P.underlying at_ with
  | none => rw [hu] at h; simp at h
  | some ds =>
    rw [hu] at h
    cases ds <;> simp at h
    rename_i len' e'
    cases hi : P.info? e' with
    | none => rw [hi] at h; simp at h
    | some i =>
      rw [hi] at h
      simp at h
      obtain ⟨rfl, hk, rfl⟩ := h
      exact ⟨rfl, fun w => by simp [sizeOf, typeInfo, hi, hk]⟩

theorem o_at {at_ len k e : Nat} [ha : ArrT P at_ len k e] {x ix : Operand} {j o o' : Nat} {tg : Option Nat} {ik : IntKind} {i : Int} (hx : evalA t x = .pointer (some ⟨j, o, tg⟩) := by (conv => (lhs; whnf)); first | done | rfl) (hi : evalA t ix = .int ik i := by (conv => (lhs; whnf)); first | done | rfl)
    (h0 : 0 ≤ i := by omega) (h1 : i < (len : Int) := by omega) (ho : o + i.toNat * k = o' := by first | (simp only [Int.toNat_natCast, Nat.zero_add, Nat.mul_one, Nat.reduceMul, Nat.reduceAdd, Int.reduceToNat]; rfl) | rfl) (hd : Nat.blt d n = true := by rfl)
    (h : AOs P ops l K ⟨n, (d, .pointer (some ⟨j, o', tg⟩)) :: t, m⟩) : AOs P ops (⟨some d, .indexAddr at_ x ix, ty, pos, af, none⟩ :: l) K ⟨n, t, m⟩ :=
  AOs.val (v := .pointer (some ⟨j, o', tg⟩)) rfl hd (fun B0 w0 r a w hs => by
    have hx1 := hs.eval x
    have hi1 := hs.eval ix
    rw [hx] at hx1
    rw [hi] at hi1
    obtain ⟨c, z, he, hr⟩ := hx1.ptr_inv
    have hi2 := hi1.int_inv
    refine ⟨.pointer (some ⟨c, zo tg z + o', none⟩), ?_, .base ⟨c, z, rfl, hr⟩⟩
    obtain ⟨hu, hsz⟩ := arr_facts (P := P) (at_ := at_)
    have e : zo tg z + o' = zo tg z + o + i.toNat * k := by omega
    simp [execOp, he, hi2, Instr.indexAt, asIntOf, run_underlying hu, Instr.sureAddr, h0, h1, hsz, addr_add, e]) h

theorem o_nil {x : Operand} {j o : Nat} {tg : Option Nat} (hx : evalA t x = .pointer (some ⟨j, o, tg⟩) := by (conv => (lhs; whnf)); first | done | rfl) (hd : Nat.blt d n = true := by rfl)
    (h : AOs P ops l K ⟨n, (d, .pointer (some ⟨j, o, tg⟩)) :: t, m⟩) : AOs P ops (⟨some d, .nilCheck x, ty, pos, af, none⟩ :: l) K ⟨n, t, m⟩ :=
  AOs.val (v := .pointer (some ⟨j, o, tg⟩)) rfl hd (fun B0 w0 r a w hs => by
    have hx1 := hs.eval x
    rw [hx] at hx1
    obtain ⟨c, z, he, hr⟩ := hx1.ptr_inv
    exact ⟨.pointer (some ⟨c, zo tg z + o, none⟩), by simp [execOp, he], .base ⟨c, z, rfl, hr⟩⟩) h

/-- An element of an array that is a value. -/
theorem o_ix {at_ len k e : Nat} {kk : TK} [ha : ArrT P at_ len k e] [hk : TyK P e kk] {x ix : Operand} {cs : List Value} {ik : IntKind} {i : Int} {v : Value} (hx : evalA t x = .agg cs.toArray := by (conv => (lhs; whnf)); first | done | rfl) (hi : evalA t ix = .int ik i := by (conv => (lhs; whnf)); first | done | rfl)
    (h0 : 0 ≤ i := by omega) (h1 : i < (len : Int) := by omega) {q : Nat} (hq : i.toNat * k = q := by first | (simp only [Int.toNat_natCast, Nat.zero_add, Nat.mul_one, Nat.reduceMul, Nat.reduceAdd, Int.reduceToNat]; rfl) | rfl) (hv : ldA kk q cs = some v := by first | (refine ld_tab ?_ rfl; omega) | (refine ld_all ?_; (first | rfl | (simp only [tab_len]; done))) | (refine ld_part ?_; omega) | (refine ld_row ?_ ?_ rfl; omega; (intro q _; first | rfl | (split <;> rfl))) | (refine ld_cell ?_ ?_ ?_ rfl; omega; (intro q _; first | rfl | (split <;> rfl)); omega) | (refine ld_cell0 ?_ ?_ ?_ rfl; omega; (intro q _; first | rfl | (split <;> rfl)); omega) | (refine ld_row00 ?_ ?_ rfl; omega; (intro q _; first | rfl | (split <;> rfl))) | (refine ld_cell00 ?_ rfl; omega) | exact ld_tabL | exact ld_tabR | (refine ld_tabI ?_ rfl; omega) | (refine ld_rowL ?_ ?_ rfl; omega; (intro q _; first | rfl | (split <;> rfl))) | rfl) (hd : Nat.blt d n = true := by rfl)
    (h : AOs P ops l K ⟨n, (d, v) :: t, m⟩) : AOs P ops (⟨some d, .index at_ x ix, ty, pos, af, none⟩ :: l) K ⟨n, t, m⟩ := by
  subst hq
  exact AOs.val (v := v) rfl hd (fun B0 w0 r a w hs => by
    have hx1 := hs.eval x
    have hi1 := hs.eval ix
    rw [hx] at hx1
    rw [hi] at hi1
    obtain ⟨ys, he, hl, hys⟩ := hx1.agg_inv
    have hi2 := hi1.int_inv
    obtain ⟨hu, hsz⟩ := arr_facts (P := P) (at_ := at_)
    have hl' : cs.length = ys.length := by simpa using hl
    cases kk with
    | one =>
      have hv' : cs[i.toNat * k]? = some v := hv
      have hlt : i.toNat * k < ys.length := by rw [← hl']; exact (List.getElem?_eq_some_iff.1 hv').1
      have hget : ys[i.toNat * k]? = some ys[i.toNat * k] := List.getElem?_eq_getElem hlt
      refine ⟨ys[i.toNat * k], ?_, hys _ _ _ (by simpa using hv') hget⟩
      simp [execOp, he, hi2, Instr.index, asIntOf, run_underlying hu, h0, h1, hsz, part, run_isAgg hk.out, hlt]
    | agg q =>
      simp only [ldA] at hv
      split at hv
      · rename_i hle
        cases hv
        have hkq : k = q := by have a1 := hsz w; rw [tk_size hk.out] at a1; cases a1; rfl
        subst hkq
        refine ⟨.agg ((ys.drop (i.toNat * k)).take k).toArray, ?_, ?_⟩
        · have e2 : ys.toArray.extract (i.toNat * k) (i.toNat * k + k) = ((ys.drop (i.toNat * k)).take k).toArray := by
            rw [List.extract_toArray, List.extract_eq_take_drop, Nat.add_sub_cancel_left]
          simp only [execOp, he, hi2, Instr.index, asIntOf, Sem.run_bind, run_underlying hu, Sem.run_pure, Result.andThen_ok, h0, h1, hsz, part, run_isAgg hk.out, and_self, if_true, e2]
        · refine VR.agg_mk ⟨by simp [hl'], fun u a b ha hb => ?_⟩
          rw [List.getElem?_take] at ha hb
          split at ha
          · rw [List.getElem?_drop] at ha hb
            rename_i hu2
            rw [if_pos hu2] at hb
            exact hys _ _ _ (by simpa using ha) hb
          · cases ha
      · cases hv) h

class FnT (P : Program) (f : FuncId) : Prop where
  out : ∀ args w, (callFunc f args).run P w = .ok (.enter f args) w

theorem FnT.mk' {P : Program} {f : FuncId} {fn : Func} (hf : P.funcs[f]? = some fn) (hn : (fn.name == "runtime.NumGoroutine") = false) (hb : fn.body.isNone = false) : FnT P f :=
  ⟨fun args w => by
    have h1 : fn.name ≠ "runtime.NumGoroutine" := by simpa using hn
    have h2 : fn.body ≠ none := by intro h; rw [h] at hb; cases hb
    simp [callFunc, hf, h1, h2]⟩

theorem o_callR {f : FuncId} [hf : FnT P f] {xs : List Operand} {ats : Array TypeId} {args : List Value} {R : Value → Mem → Prop} (hargs : xs.map (evalA t) = args := by first | (simp only [List.map_cons, List.map_nil, evalA, look, cond_true, cond_false, Nat.reduceBEq, constOk, constOk1]; done) | (simp only [List.map_cons, List.map_nil, evalA, look, cond_true, cond_false, Nat.reduceBEq, constOk, constOk1]; rfl) | rfl) (hc : ACalls P f args m R) (hd : Nat.blt d n = true := by rfl)
    (h : ∀ v m', R v m' → AOs P ops l K ⟨n, (d, v) :: t, m'⟩) :
    AOs P ops (⟨some d, .call { callee := .value (.func f), args := xs.toArray, argTypes := ats }, ty, pos, af, none⟩ :: l) K ⟨n, t, m⟩ := by
  refine AOs.of_AO rfl fun B0 w0 r a w Q' hs => ?_
  have h1 := hs.evals xs
  rw [hargs] at h1
  have hrun : (execOp a.eval ⟨some d, .call { callee := .value (.func f), args := xs.toArray, argTypes := ats }, ty, pos, af, none⟩).run P w = .ok (.enter f (xs.map a.eval).toArray) w := by
    simp [execOp, resolve, Act.eval, Deferred.ofValue, invoke, hf.out]
  unfold Oper.wp
  rw [hrun]
  refine Calls.mono (hc B0 w0 r w _ hs.sim h1) fun e w' ⟨y, v, m', r', he, hR, hex, hs', hv⟩ => ?_
  subst he
  exact ⟨r', _, hex, SimSt.put (s := ⟨n, t, m⟩) hs hex hs' (d := some d) hd hv, h v m' hR⟩

theorem o_call {f : FuncId} [hf : FnT P f] {xs : List Operand} {ats : Array TypeId} {args : List Value} {v : Value} (hargs : xs.map (evalA t) = args := by first | (simp only [List.map_cons, List.map_nil, evalA, look, cond_true, cond_false, Nat.reduceBEq, constOk, constOk1]; done) | (simp only [List.map_cons, List.map_nil, evalA, look, cond_true, cond_false, Nat.reduceBEq, constOk, constOk1]; rfl) | rfl) (hc : Pure P f args m v) (hd : Nat.blt d n = true := by rfl)
    (h : AOs P ops l K ⟨n, (d, v) :: t, m⟩) :
    AOs P ops (⟨some d, .call { callee := .value (.func f), args := xs.toArray, argTypes := ats }, ty, pos, af, none⟩ :: l) K ⟨n, t, m⟩ :=
  o_callR hargs hc hd fun _ _ ⟨h1, h2⟩ => by subst h1; subst h2; exact h

theorem o_not {ut : TypeId} {x : Operand} {b : Bool} (hx : evalA t x = .bool b := by (conv => (lhs; whnf)); first | done | rfl) (hd : Nat.blt d n = true := by rfl) (h : AOs P ops l K ⟨n, (d, .bool (!b)) :: t, m⟩) :
    AOs P ops (⟨some d, .unOp .not ut x, ty, pos, af, none⟩ :: l) K ⟨n, t, m⟩ :=
  AOs.val (v := .bool (!b)) rfl hd (fun _ _ r a w hs => by
    have h1 := hs.eval x
    rw [hx] at h1
    exact ⟨.bool (!b), by simp [execOp, h1.bool_inv, Op.unary], VR.bool r _⟩) h

theorem run_equal_bool {P : Program} {t : TypeId} (ht : P.underlying t = some .bool) (a b : Bool) (w : World) : (Op.equal t (.bool a) (.bool b)).run P w = .ok (a == b) w := by
  have h : ∀ d, (Op.equalIn (d + 1) t (.bool a) (.bool b)).run P w = .ok (a == b) w := fun d => by
    unfold Op.equalIn
    rw [Sem.run_bind, run_underlying ht]
    rfl
  exact h 9999
theorem o_eqb {xt yt : TypeId} {x y : Operand} {a b : Bool} (ht : P.underlying xt = some .bool) (hx : evalA t x = .bool a) (hy : evalA t y = .bool b) (hd : Nat.blt d n = true) (h : AOs P ops l K ⟨n, (d, .bool (a == b)) :: t, m⟩) :
    AOs P ops (⟨some d, .binOp .eql xt x y yt, ty, pos, af, none⟩ :: l) K ⟨n, t, m⟩ :=
  o_bin hx hy (rig_bool a) (rig_bool b) (fun w => by
    show (do pure (.bool (← Op.equal xt (.bool a) (.bool b))) : Sem Value).run P w = _
    rw [Sem.run_bind, run_equal_bool ht]; rfl) (fun r => VR.bool r _) hd h
theorem o_neb {xt yt : TypeId} {x y : Operand} {a b : Bool} (ht : P.underlying xt = some .bool) (hx : evalA t x = .bool a) (hy : evalA t y = .bool b) (hd : Nat.blt d n = true) (h : AOs P ops l K ⟨n, (d, .bool (a != b)) :: t, m⟩) :
    AOs P ops (⟨some d, .binOp .neq xt x y yt, ty, pos, af, none⟩ :: l) K ⟨n, t, m⟩ :=
  o_bin hx hy (rig_bool a) (rig_bool b) (fun w => by
    show (do pure (.bool (!(← Op.equal xt (.bool a) (.bool b)))) : Sem Value).run P w = _
    rw [Sem.run_bind, run_equal_bool ht]; rfl) (fun r => VR.bool r _) hd h

/-- An integer type. -/
class TyI (P : Program) (t : TypeId) (k : outParam IntKind) : Prop where
  out : P.underlying t = some (.int k)

theorem o_conv {src dst : TypeId} {k k' : IntKind} [hd1 : TyI P src k'] [hd2 : TyI P dst k] {x : Operand} {q : IntKind} {a : Int} (hx : evalA t x = .int q a := by (conv => (lhs; whnf)); first | done | rfl) (hd : Nat.blt d n = true := by rfl) (h : AOs P ops l K ⟨n, (d, .int k (k.wrap a)) :: t, m⟩) :
    AOs P ops (⟨some d, .convert src dst x, ty, pos, af, none⟩ :: l) K ⟨n, t, m⟩ :=
  AOs.val (v := .int k (k.wrap a)) rfl hd (fun _ _ r ac w hs => by
    have h1 := hs.eval x
    rw [hx] at h1
    exact ⟨.int k (k.wrap a), by simp [execOp, h1.int_inv, convert, run_underlying hd1.out, run_underlying hd2.out, Conv.intToInt], VR.int r _ _⟩) h

theorem o_extract {x : Operand} {i : Nat} {vs : List Value} {v : Value} (hx : evalA t x = .tuple vs.toArray := by (conv => (lhs; whnf)); first | done | rfl) (hv : vs[i]? = some v := by rfl) (hd : Nat.blt d n = true := by rfl) (h : AOs P ops l K ⟨n, (d, v) :: t, m⟩) :
    AOs P ops (⟨some d, .extract x i, ty, pos, af, none⟩ :: l) K ⟨n, t, m⟩ :=
  AOs.val (v := v) rfl hd (fun _ _ r ac w hs => by
    have h1 := hs.eval x
    rw [hx] at h1
    obtain ⟨ys, he, hl, hys⟩ := h1.tuple_inv
    have hl' : vs.length = ys.length := by simpa using hl
    have hi : i < ys.length := by rw [← hl']; exact (List.getElem?_eq_some_iff.1 hv).1
    have hget : ys[i]? = some ys[i] := List.getElem?_eq_getElem hi
    exact ⟨ys[i], by simp [execOp, he, Instr.extract, hi], hys i v _ (by simpa using hv) hget⟩) h

/-! A struct or an array that is put together. -/
def plcAt (P : Program) (t : Nat) : Option (List (Nat × Nat)) :=
  match P.underlying t with
  | some (.struct fs) => fs.toList.mapM fun f => (P.info? f.type).map fun i => (f.offset, i.size)
  | some (.array n e) => (P.info? e).map fun i => (List.range n).map fun q => (q * i.size, i.size)
  | _ => none
class TyP (P : Program) (t : Nat) (ps : outParam (List (Nat × Nat))) : Prop where
  out : plcAt P t = some ps

def fillA (places : List (Nat × Nat)) : List Value → List (Nat × Value) → Option (List Value)
  | cells, [] => some cells
  | cells, (i, v) :: rest =>
    match places[i]? with
    | none => none
    | some (off, size) => if (cellsA v).length = size ∧ off + size ≤ cells.length ∧ whole v = true then fillA places (cells.take off ++ cellsA v ++ cells.drop (off + size)) rest else none

theorem fill_nil {ps : List (Nat × Nat)} {cs : List Value} : fillA ps cs [] = some cs := rfl
theorem fill_cons {ps : List (Nat × Nat)} {cells cs : List Value} {i off size : Nat} {v : Value} {rest : List (Nat × Value)} {r : Option (List Value)} (hp : ps[i]? = some (off, size)) (hl : (cellsA v).length = size)
    (ho : off + size ≤ cells.length) (hw : whole v = true) (hs : cells.take off ++ cellsA v ++ cells.drop (off + size) = cs) (hr : fillA ps cs rest = r) : fillA ps cells ((i, v) :: rest) = r := by
  subst hs hr
  conv => lhs; unfold fillA
  simp only [hp]
  rw [if_pos ⟨hl, ho, hw⟩]

theorem fold_set (off : Nat) : ∀ (vs : List Value) (k : Nat) (cs : Array Value), off + k + vs.length ≤ cs.size →
    (vs.zipIdx k).foldl (fun cs (x : Value × Nat) => cs.setIfInBounds (off + x.2) x.1) cs = (cs.toList.take (off + k) ++ vs ++ cs.toList.drop (off + k + vs.length)).toArray := by
  intro vs
  induction vs with
  | nil => intro k cs _; simp
  | cons v vs ih =>
    intro k cs h
    simp only [List.length_cons] at h
    rw [List.zipIdx_cons, List.foldl_cons, ih (k + 1) _ (by simp; omega)]
    apply Array.ext'
    simp only [Array.toList_setIfInBounds]
    apply List.ext_getElem?
    intro i
    have hk : off + k < cs.toList.length := by simp; omega
    simp only [List.append_assoc, List.length_cons]
    by_cases h1 : i < off + k
    · rw [List.getElem?_append_left (by rw [List.length_take, List.length_set]; omega), List.getElem?_take, if_pos (by omega), List.getElem?_set, if_neg (by omega),
        List.getElem?_append_left (by rw [List.length_take]; omega), List.getElem?_take, if_pos h1]
    · by_cases h2 : i = off + k
      · subst h2
        rw [List.getElem?_append_left (by rw [List.length_take, List.length_set]; omega), List.getElem?_take, if_pos (by omega), List.getElem?_set, if_pos rfl, if_pos hk,
          List.getElem?_append_right (by rw [List.length_take]; omega), List.length_take, Nat.min_eq_left (by omega), Nat.sub_self]
        rfl
      · have hL : ((cs.toList.set (off + k) v).take (off + (k + 1)) ++ (vs ++ (cs.toList.set (off + k) v).drop (off + (k + 1) + vs.length)))[i]? = (vs ++ (cs.toList.set (off + k) v).drop (off + (k + 1) + vs.length))[i - (off + (k + 1))]? := by
          rw [List.getElem?_append_right (by rw [List.length_take, List.length_set]; omega), List.length_take, List.length_set, Nat.min_eq_left (by omega)]
        have hR : (cs.toList.take (off + k) ++ (v :: vs ++ cs.toList.drop (off + k + (vs.length + 1))))[i]? = (vs ++ cs.toList.drop (off + k + (vs.length + 1)))[i - (off + (k + 1))]? := by
          rw [List.getElem?_append_right (by rw [List.length_take]; omega), List.length_take, Nat.min_eq_left (by omega), List.cons_append, show i - (off + k) = (i - (off + (k + 1))) + 1 by omega, List.getElem?_cons_succ]
        rw [hL, hR]
        by_cases h3 : i - (off + (k + 1)) < vs.length
        · rw [List.getElem?_append_left h3, List.getElem?_append_left h3]
        · rw [List.getElem?_append_right (by omega), List.getElem?_append_right (by omega), List.getElem?_drop, List.getElem?_drop, List.getElem?_set, if_neg (by omega)]
          congr 1; omega

theorem fill_sound {r : Ren} {places : List (Nat × Nat)} {pf : Nat → Option (Nat × Nat)} (hpf : ∀ i q, places[i]? = some q → pf i = some q) :
    ∀ (ps : List (Nat × Value)) (cs : List Value) (out : List Value) (qs : List (Nat × Value)) (ds : Array Value), fillA places cs ps = some out → VRs r cs ds.toList →
      qs.map (·.1) = ps.map (·.1) → VRs r (ps.map (·.2)) (qs.map (·.2)) → ∃ fs : Array Value, Instr.fill pf ds qs = some fs ∧ VRs r out fs.toList := by
  intro ps
  induction ps with
  | nil =>
    intro cs out qs ds h hv hq _
    cases qs with
    | nil => cases h; exact ⟨ds, rfl, hv⟩
    | cons => cases hq
  | cons p ps ih =>
    intro cs out qs ds h hv hq hw
    obtain ⟨i, v⟩ := p
    cases qs with
    | nil => cases hq
    | cons q qs =>
      obtain ⟨i', y⟩ := q
      simp only [List.map_cons, List.cons.injEq] at hq
      obtain ⟨rfl, hq⟩ := hq
      have hvy : VR r v y := hw.2 0 v y rfl rfl
      have hrest : VRs r (ps.map (·.2)) (qs.map (·.2)) := ⟨by have := hw.1; simpa using this, fun k a b ha hb => hw.2 (k + 1) a b (by simpa using ha) (by simpa using hb)⟩
      unfold fillA at h
      cases hp : places[i']? with
      | none => rw [hp] at h; cases h
      | some os =>
        obtain ⟨off, size⟩ := os
        rw [hp] at h
        simp only at h
        split at h
        · rename_i hc
          obtain ⟨hlen, hle, hwh⟩ := hc
          obtain ⟨hcs, _⟩ := hvy.whole_inv hwh
          have hysz : y.cells.size = size := by rw [← hlen, hcs.1]; simp
          have hdl : cs.length = ds.size := by have := hv.1; simpa using this
          have hfold := fold_set off y.cells.toList 0 ds (by simp; omega)
          have hset : y.cells.zipIdx.foldl (fun cs (x : Value × Nat) => cs.setIfInBounds (off + x.2) x.1) ds = (ds.toList.take off ++ y.cells.toList ++ ds.toList.drop (off + y.cells.toList.length)).toArray := by
            rw [← Array.foldl_toList, Array.toList_zipIdx]; exact hfold
          have hnew : VRs r (cs.take off ++ cellsA v ++ cs.drop (off + size)) (ds.toList.take off ++ y.cells.toList ++ ds.toList.drop (off + y.cells.toList.length)).toArray.toList := by
            refine ⟨by simp [hdl, hlen, hysz], fun k a b ha hb => ?_⟩
            simp only [List.append_assoc] at ha hb
            have hyl : y.cells.toList.length = size := by simpa using hysz
            by_cases k1 : k < off
            · rw [List.getElem?_append_left (by rw [List.length_take]; omega), List.getElem?_take, if_pos k1] at ha
              rw [List.getElem?_append_left (by rw [List.length_take]; simp; omega), List.getElem?_take, if_pos k1] at hb
              exact hv.2 _ _ _ ha hb
            · rw [List.getElem?_append_right (by rw [List.length_take]; omega), List.length_take, Nat.min_eq_left (by omega)] at ha
              rw [List.getElem?_append_right (by rw [List.length_take]; simp; omega), List.length_take, Nat.min_eq_left (by simp; omega)] at hb
              by_cases k2 : k - off < size
              · rw [List.getElem?_append_left (by omega)] at ha
                rw [List.getElem?_append_left (by omega)] at hb
                exact hcs.2 _ _ _ ha hb
              · rw [List.getElem?_append_right (by omega), List.getElem?_drop, hlen] at ha
                rw [List.getElem?_append_right (by omega), List.getElem?_drop, hyl] at hb
                exact hv.2 _ _ _ ha hb
          obtain ⟨fs, h1, h2⟩ := ih _ out qs (ds.toList.take off ++ y.cells.toList ++ ds.toList.drop (off + y.cells.toList.length)).toArray h hnew hq hrest
          refine ⟨fs, ?_, h2⟩
          unfold Instr.fill
          rw [hpf _ _ hp]
          simp only
          rw [if_neg (by simp [hysz]; omega)]
          rw [← hset] at h1
          exact h1
        · cases h

theorem mapM_sizes {P : Program} {w : World} : ∀ (fs : List Field) (ps : List (Nat × Nat)), (fs.mapM fun f => (P.info? f.type).map fun i => (f.offset, i.size)) = some ps →
    (fs.mapM (fun f => do pure (f.offset, ← sizeOf f.type) : Field → Sem (Nat × Nat))).run P w = .ok ps w := by
  intro fs
  induction fs with
  | nil => intro ps h; simp at h; subst h; rfl
  | cons f fs ih =>
    intro ps h
    rw [List.mapM_cons] at h
    cases hi : P.info? f.type with
    | none => rw [hi] at h; simp at h
    | some i =>
      rw [hi] at h
      simp at h
      cases hr : fs.mapM fun f => (P.info? f.type).map fun i => (f.offset, i.size) with
      | none => rw [hr] at h; simp at h
      | some qs =>
        rw [hr] at h
        simp at h
        subst h
        rw [List.mapM_cons, Sem.run_bind, Sem.run_bind]
        simp only [sizeOf, Sem.run_bind, run_typeInfo' hi, Result.andThen_ok, Sem.run_pure]
        have := ih qs hr
        simp only [sizeOf] at this
        rw [this]
        rfl

theorem o_build {bt : TypeId} {z : Value} {ps : List (Nat × Nat)} [hz : TyZ P bt z] [hp : TyP P bt ps] {xs : List (Nat × Operand)} {vs : List (Nat × Value)} {cs : List Value}
    (hvs : xs.map (fun x => (x.1, evalA t x.2)) = vs := by first | (simp only [List.map_cons, List.map_nil, evalA, look, cond_true, cond_false, Nat.reduceBEq, constOk, constOk1]; done) | (simp only [List.map_cons, List.map_nil, evalA, look, cond_true, cond_false, Nat.reduceBEq, constOk, constOk1]; rfl) | rfl) (hf : fillA ps (cellsA z) vs = some cs := by repeat' (first | exact fill_nil | refine fill_cons (by rfl) (by first | rfl | (simp only [cellsA, tab_len, List.length_cons, List.length_nil]; done)) (by first | decide | (simp only [cellsA, tab_len, List.length_cons, List.length_nil, List.length_append]; omega)) (by first | exact whole_tab (fun _ => rfl) | exact whole_tabR (fun _ => rfl) rfl | rfl | simp [whole, tab_one, one]) (by first | (with_reducible refine st_all ?_; (first | rfl | (simp only [cellsA, tab_len, List.length_cons, List.length_nil]; done))) | (refine st_tab1 ?_; omega) | (refine st_tabk ?_; omega) | exact st_tabL | exact st_tabR | (refine st_tabI ?_; omega) | (refine st_row ?_ ?_ ?_; omega; (intro q _; first | rfl | (split <;> rfl)); rfl) | (refine st_cell ?_ ?_ ?_; omega; (intro q _; first | rfl | (split <;> rfl)); omega) | (refine st_cell0 ?_ ?_ ?_; omega; (intro q _; first | rfl | (split <;> rfl)); omega) | (simp only [cellsA, List.take_succ_cons, List.take_zero, List.drop_succ_cons, List.drop_zero, List.length_cons, List.length_nil, Nat.reduceAdd, Nat.reduceMul, Nat.zero_mul, Nat.mul_one, List.cons_append, List.nil_append, List.append_nil, List.append_assoc]; rfl)) ?_)) (hd : Nat.blt d n = true := by rfl) (h : AOs P ops l K ⟨n, (d, .agg cs.toArray) :: t, m⟩) :
    AOs P ops (⟨some d, .build bt xs.toArray, ty, pos, af, none⟩ :: l) K ⟨n, t, m⟩ :=
  AOs.val (v := .agg cs.toArray) rfl hd (fun _ _ r ac w hs => by
    have hz1 := hz.out
    have hp1 := hp.out
    unfold plcAt at hp1
    subst hvs
    have hzc : VRs r (cellsA z) z.cells.toList := by
      have hc := VR.const r hz.ok
      cases z <;> first
        | (obtain ⟨ys, he, hl⟩ := hc.agg_inv; cases he; exact hl)
        | exact VRs.cons hc (VRs.nil r)
    cases hi : P.info? bt with
    | none => rw [hi] at hz1; cases hz1
    | some i =>
      rw [hi] at hz1
      have hz3 : i.zero = some z := hz1
      have hzr : (zeroValue bt).run P w = .ok z w := by simp [zeroValue, typeInfo, hi, hz3]
      have hq : VRs r ((xs.map (fun x => (x.1, evalA t x.2))).map (·.2)) ((xs.map (fun x => (x.1, ac.eval x.2))).map (·.2)) := by
        have := hs.evals (xs.map (·.2))
        simpa [List.map_map, Function.comp_def] using this
      cases hu : P.underlying bt with
      | none => rw [hu] at hp1; simp at hp1
      | some ds =>
        rw [hu] at hp1
        cases ds <;> simp at hp1
        case struct fs =>
          obtain ⟨out, h1, h2⟩ := fill_sound (r := r) (places := ps) (pf := fun i => ps.toArray[i]?) (fun i q h => by simpa using h) _ _ _ (xs.map (fun x => (x.1, ac.eval x.2))) z.cells hf hzc (by simp [List.map_map, Function.comp_def]) hq
          refine ⟨.agg out, ?_, VR.agg (r := r) cs out.toList h2.1 h2.2⟩
          simp only [execOp, Instr.build, Sem.run_bind, hzr, Result.andThen_ok, run_underlying hu]
          have hm := mapM_sizes (P := P) (w := w) fs.toList ps hp1
          rw [Array.mapM_eq_mapM_toList, Sem.run_map, hm]
          simp only [Result.andThen_ok, List.toList_toArray, List.map_toArray]
          rw [h1]
          rfl
        case array k e =>
          obtain ⟨ie, hie, hps⟩ := hp1
          obtain ⟨out, h1, h2⟩ := fill_sound (r := r) (places := ps) (pf := fun i => some (i * ie.size, ie.size)) (fun i q h => by
            rw [← hps, List.getElem?_map] at h
            by_cases hk : i < k
            · rw [List.getElem?_range hk] at h; simpa using h
            · rw [List.getElem?_eq_none (by simp; omega)] at h; cases h) _ _ _ (xs.map (fun x => (x.1, ac.eval x.2))) z.cells hf hzc (by simp [List.map_map, Function.comp_def]) hq
          refine ⟨.agg out, ?_, VR.agg (r := r) cs out.toList h2.1 h2.2⟩
          simp only [execOp, Instr.build, Sem.run_bind, hzr, Result.andThen_ok, run_underlying hu, sizeOf, run_typeInfo' hie, Sem.run_pure, List.map_toArray]
          rw [h1]
          rfl) h

/-! ### Results -/
def resOne (P : Program) (s : St) (v : Value) : ResultVar → Prop
  | .tmp t => look s.t t = v
  | .cell p ty => ∃ j o tg b k, look s.t p = .pointer (some ⟨j, o, tg⟩) ∧ tk P ty = some k ∧ s.m[j]? = some b ∧ b.tag = tg ∧ ldA k o b.cells = some v

theorem resOne_run {P : Program} {s : St} {v : Value} {x : ResultVar} (h : resOne P s v x) {B0 : Nat} {w0 : World} {r : Ren} {a : Act} {w : World} (hs : SimSt B0 w0 r s a w) :
    ∃ d, (match x with | .tmp t => pure (a.tmps.getD t undef) | .cell p ty => do loadVar ty (← asAddr (a.tmps.getD p undef)) : Sem Value).run P w = .ok d w ∧ VR r v d := by
  cases x with
  | tmp t => exact ⟨_, rfl, by have := hs.vals t; rw [show look s.t t = v from h] at this; exact this⟩
  | cell p ty =>
    obtain ⟨j, o, tg, b, k, h1, h2, h3, h4, h5⟩ := h
    have hv := hs.vals p
    rw [h1] at hv
    obtain ⟨c, z, he, hr⟩ := hv.ptr_inv
    obtain ⟨y, hy, hvy⟩ := hs.sim.ld h2 h3 h4 h5 hr
    exact ⟨y, by simp only [he]; simp [asAddr, hy], hvy⟩

def resF (tmps : Array Value) : ResultVar → Sem Value
  | .tmp t => pure (tmps.getD t undef)
  | .cell p ty => do loadVar ty (← asAddr (tmps.getD p undef))
theorem results_eq (fn : Func) (tmps : Array Value) : results fn tmps = (do let vs ← fn.results.mapM (resF tmps); pure (if h : vs.size = 1 then vs[0] else .tuple vs)) := by
  unfold results
  congr 1

theorem resL_run {P : Program} {s : St} {B0 : Nat} {w0 : World} {r : Ren} {a : Act} {w : World} (hs : SimSt B0 w0 r s a w) : ∀ (xs : List ResultVar) (vs : List Value), xs.length = vs.length → (∀ (i : Nat) (x : ResultVar) (v : Value), xs[i]? = some x → vs[i]? = some v → resOne P s v x) →
    ∃ ds : List Value, (xs.mapM (resF a.tmps)).run P w = .ok ds w ∧ VRs r vs ds := by
  intro xs
  induction xs with
  | nil =>
    intro vs hl _
    cases vs with
    | nil => exact ⟨[], rfl, VRs.nil r⟩
    | cons => cases hl
  | cons x xs ih =>
    intro vs hl h
    cases vs with
    | nil => cases hl
    | cons v vs =>
      obtain ⟨d, h1, h2⟩ := resOne_run (h 0 x v rfl rfl) hs
      have h1 : (resF a.tmps x).run P w = .ok d w := by cases x <;> exact h1
      obtain ⟨ds, h3, h4⟩ := ih vs (by simpa using hl) (fun i y u hy hu => h (i + 1) y u (by simpa using hy) (by simpa using hu))
      refine ⟨d :: ds, ?_, VRs.cons h2 h4⟩
      rw [List.mapM_cons, Sem.run_bind, h1, Result.andThen_ok, Sem.run_bind, h3]
      rfl

/-- Several results. -/
theorem resN {fn : Func} {s : St} {vs : List Value} {xs : List ResultVar} (hr : fn.results = xs.toArray) (hl : xs.length = vs.length) (hn : vs.length ≠ 1)
    (h : ∀ (i : Nat) (x : ResultVar) (v : Value), xs[i]? = some x → vs[i]? = some v → resOne P s v x) : ResA P fn s (.tuple vs.toArray) := by
  intro B0 w0 r a w hs
  obtain ⟨ds, h1, h2⟩ := resL_run hs xs vs hl h
  refine ⟨.tuple ds.toArray, ?_, VR.tuple_mk h2⟩
  rw [results_eq]
  have hne : ds.length ≠ 1 := by rw [← h2.1]; exact hn
  rw [hr, List.mapM_toArray, Sem.run_bind, Sem.run_map, h1]
  simp [hne]

theorem res1 {fn : Func} {s : St} {v : Value} {x : ResultVar} (hr : fn.results = #[x]) (h : resOne P s v x) : ResA P fn s v := by
  intro B0 w0 r a w hs
  obtain ⟨d, h1, h2⟩ := resOne_run h hs
  refine ⟨d, ?_, h2⟩
  unfold results
  rw [hr]
  cases x with
  | tmp t => simp at h1 ⊢; exact h1
  | cell p ty => simp only [List.mapM_toArray]; simp [Sem.run_bind] at h1 ⊢; rw [h1]
end
end Go.Proofs.Ytjghdagcmombnaa
