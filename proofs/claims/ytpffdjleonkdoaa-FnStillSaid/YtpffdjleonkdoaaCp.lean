/- copy, max, and slices of one element that can grow. -/
import Derived.Test.YtpffdjleonkdoaaMu
namespace Go.Proofs.Ytpffdjleonkdoaa
open Go.RowKit
set_option linter.unusedSimpArgs false
set_option linter.unusedVariables false

section
variable {P : Program} {ops l : List Oper} {K : St → Prop} {n : Nat} {t : Env} {m : Mem} {d ty : Nat} {pos : String} {af : Array Edge}
/-- copy -/
theorem o_copy {st k b e : Nat} [ha : SlT P st k b e] {x y : Operand} {j o ln cp j' o' q cp' : Nat} {tg tg' : Option Nat} {b1 b2 : Blk} {c : Nat} {ys cs : List Value} {m' : Mem}
    (hx : evalA t x = .slice (some ⟨j, o, tg⟩) ln cp := by (conv => (lhs; whnf)); first | done | rfl) (hy : evalA t y = .slice (some ⟨j', o', tg'⟩) q cp' := by (conv => (lhs; whnf)); first | done | rfl)
    (hb : m[j]? = some b1 := by first | (simp only [mem_tail, mem_tail0, List.getElem?_cons_zero, List.getElem?_cons_succ]; first | done | rfl) | exact mem_head (by assumption) | assumption | (simp only [mem_tailS, mem_tailS0, List.getElem?_cons_zero, List.getElem?_cons_succ]; first | done | rfl) | exact mem_set1 (by assumption) | exact mem_set0 (by assumption) | exact mem_setN1 (by assumption) (by assumption) | exact mem_setN (by assumption) (by assumption)) (htg : b1.tag = tg := by rfl) (hrw : b1.rw = true := by rfl) (hb' : m[j']? = some b2 := by first | (simp only [mem_tail, mem_tail0, List.getElem?_cons_zero, List.getElem?_cons_succ]; first | done | rfl) | exact mem_head (by assumption) | assumption | (simp only [mem_tailS, mem_tailS0, List.getElem?_cons_zero, List.getElem?_cons_succ]; first | done | rfl) | exact mem_set1 (by assumption) | exact mem_set0 (by assumption) | exact mem_setN1 (by assumption) (by assumption) | exact mem_setN (by assumption) (by assumption)) (htg' : b2.tag = tg' := by rfl)
    (hcn : Nat.min q ln = c) (hys : (b2.cells.drop o').take (c * k) = ys) (hly : ys.length = c * k) (hone : ys.all one = true) (ho : o + ys.length ≤ b1.cells.length)
    (hcs : b1.cells.take o ++ ys ++ b1.cells.drop (o + ys.length) = cs) (hm : m.set j { b1 with cells := cs } = m' := by first | exact set_head1 (by assumption) | exact List.set_set .. | exact set_head0 (by assumption) | (simp only [set_tail, set_tail0, set_tailS, set_tailS0, List.set_cons_zero, List.set_cons_succ, cellsA, List.length_cons, List.length_nil, Nat.reduceAdd]; first | done | rfl) | rfl) (hd : Nat.blt d n = true := by rfl)
    (h : AOs P ops l K ⟨n, (d, .int .i64 (c : Int)) :: t, m'⟩) : AOs P ops (⟨some d, .call { callee := .builtin .copy, args := #[x, y], argTypes := #[st, st] }, ty, pos, af, none⟩ :: l) K ⟨n, t, m⟩ :=
  AOs.gen (v := .int .i64 (c : Int)) (m' := m') rfl hd (fun B0 w0 r ac w hs => by
    have hx1 := hs.eval x
    have hy1 := hs.eval y
    rw [hx] at hx1
    rw [hy] at hy1
    obtain ⟨hu, inf, hinf, hsz, hbt⟩ := sl_facts (P := P) (st := st)
    obtain ⟨c1, z1, mx, hex, hrx, _⟩ := hx1.slice_inv
    obtain ⟨c2, z2, my, hey, hry, _⟩ := hy1.slice_inv
    simp only at hrx hry
    obtain ⟨us, hus, hvu⟩ := hs.sim.part hb' (by rw [htg']; exact hry) hys
    rw [htg'] at hus
    have hul : us.length = c * k := by rw [← hvu.1, hly]
    have hone' := hvu.ones hone
    subst htg
    obtain ⟨hz0, w', hrun, hs'⟩ := hs.sim.set hb hrw hrx hvu ho hone' P
    rw [hcs, hm] at hs'
    have hzo : zo b1.tag z1 = 0 := hz0
    have hxe : ac.eval x = .slice (some ⟨c1, o, none⟩) ln mx := by simpa [hzo] using hex
    have hey' : ac.eval y = .slice (some ⟨c2, zo tg' z2 + o', none⟩) q my := hey
    have hfy : (Builtin.firstCells inf.size c (.slice (some ⟨c2, zo tg' z2 + o', none⟩) q my)).run P w = .ok us.toArray w :=
      run_firstCells_some w inf.size c _ q my us (by rw [hsz]; exact hul) (fun i v hv => hus i v hv)
    have hcn' : q.min ln = c := hcn
    refine ⟨.int .i64 (c : Int), w', r, ?_, Ext.refl r, hs', VR.int r _ _⟩
    simp [execOp, resolve, invoke, builtin, Builtin.copy_, run_underlying hu, sizeOf, typeInfo, hinf, Builtin.lenOf, hxe, hey', hcn', hfy, hrun, goInt]) h

/-- max of two numbers -/
theorem o_max {x y : Operand} {k k' : IntKind} {a b : Int} {ats : Array TypeId} (hx : evalA t x = .int k a := by (conv => (lhs; whnf)); first | done | rfl) (hy : evalA t y = .int k' b := by (conv => (lhs; whnf)); first | done | rfl) (hd : Nat.blt d n = true := by rfl)
    (h : AOs P ops l K ⟨n, (d, .int k (if a < b then b else a)) :: t, m⟩) : AOs P ops (⟨some d, .call { callee := .builtin .max, args := #[x, y], argTypes := ats }, ty, pos, af, none⟩ :: l) K ⟨n, t, m⟩ :=
  AOs.val (v := .int k (if a < b then b else a)) rfl hd (fun _ _ r ac w hs => by
    have hx1 := hs.eval x
    have hy1 := hs.eval y
    rw [hx] at hx1
    rw [hy] at hy1
    exact ⟨.int k (if a < b then b else a), by simp [execOp, resolve, hx1.int_inv, hy1.int_inv, invoke, builtin, Builtin.max_, Builtin.max2], VR.int r _ _⟩) h

/-- A slice that is written out, to which more can be appended. -/
theorem o_buildSM {st k b e len : Nat} [ha : SlT P st k b e] {z : Value} [hz : TyZ P e z] {xs : List (Nat × Operand)} {vs : List (Nat × Value)} {zs cs : List Value} {m' : Mem} {j : Nat}
    (hk : (cellsA z).length = k := by first | rfl | (simp only [cellsA, tab_len, List.length_cons, List.length_nil, List.length_append]; done)) (hlk : len * k ≤ 16777216 := by omega)
    (hvs : xs.map (fun x => (x.1, evalA t x.2)) = vs := by first | (simp only [List.map_cons, List.map_nil, evalA, look, cond_true, cond_false, Nat.reduceBEq, constOk, constOk1]; done) | (simp only [List.map_cons, List.map_nil, evalA, look, cond_true, cond_false, Nat.reduceBEq, constOk, constOk1]; rfl) | rfl) (hzs : rows len (fun _ => cellsA z) = zs := by simp only [rows, List.range_succ, List.range_zero, List.nil_append, List.cons_append, List.flatMap_cons, List.flatMap_nil, cellsA, List.append_nil]; rfl)
    (hf : fillA ((List.range len).map fun q => (q * k, k)) zs vs = some cs := by repeat' (first | exact fill_nil | refine fill_cons (by rfl) (by first | rfl | (simp only [cellsA, tab_len, List.length_cons, List.length_nil]; done)) (by first | decide | (simp only [cellsA, tab_len, List.length_cons, List.length_nil, List.length_append]; omega)) (by first | exact whole_tab (fun _ => rfl) | exact whole_tabR (fun _ => rfl) rfl | rfl | simp [whole, tab_one, one]) (by first | (with_reducible refine st_all ?_; (first | rfl | (simp only [cellsA, tab_len, List.length_cons, List.length_nil]; done))) | (refine st_tab1 ?_; omega) | (refine st_tabk ?_; omega) | exact st_tabL | exact st_tabR | (refine st_tabI ?_; omega) | (refine st_row ?_ ?_ ?_; omega; (intro q _; first | rfl | (split <;> rfl)); rfl) | (refine st_cell ?_ ?_ ?_; omega; (intro q _; first | rfl | (split <;> rfl)); omega) | (refine st_cell0 ?_ ?_ ?_; omega; (intro q _; first | rfl | (split <;> rfl)); omega) | (simp only [cellsA, List.take_succ_cons, List.take_zero, List.drop_succ_cons, List.drop_zero, List.length_cons, List.length_nil, Nat.reduceAdd, Nat.reduceMul, Nat.zero_mul, Nat.mul_one, List.cons_append, List.nil_append, List.append_nil, List.append_assoc]; rfl)) ?_))
    (hlen0 : 0 < len := by omega) (hm : m ++ [⟨cs, some len, true⟩] = m' := by first | (simp only [List.append_assoc, cellsA, List.cons_append, List.nil_append]; rfl) | rfl) (hj : m.length = j := by first | (simp only [List.length_append, List.length_set, List.length_cons, List.length_nil, Nat.reduceAdd, Nat.zero_add]; first | done | rfl) | rfl) (hd : Nat.blt d n = true := by rfl)
    (h : AOs P ops l K ⟨n, (d, .slice (some ⟨j, 0, some len⟩) len len) :: t, m'⟩) : AOs P ops (⟨some d, .buildSlice st len xs.toArray, ty, pos, af, none⟩ :: l) K ⟨n, t, m⟩ :=
  AOs.gen (v := .slice (some ⟨j, 0, some len⟩) len len) (m' := m') rfl hd (fun B0 w0 r ac w hs => by
    subst hzs
    subst hvs
    obtain ⟨hu, inf, hinf, hsz, hbt⟩ := sl_facts (P := P) (st := st)
    have hz1 := hz.out
    rw [hinf] at hz1
    have hz3 : inf.zero = some z := hz1
    have hmade := made_VRs r hz.ok k len hk
    have hq : VRs r ((xs.map (fun x => (x.1, evalA t x.2))).map (·.2)) ((xs.map (fun x => (x.1, ac.eval x.2))).map (·.2)) := by
      have := hs.evals (xs.map (·.2))
      simpa [List.map_map, Function.comp_def] using this
    obtain ⟨fs, hfill, hfs⟩ := fill_sound (r := r) (pf := fun i => some (i * k, k)) (fun i q hiq => by
      rw [List.getElem?_map] at hiq
      cases hr : (List.range len)[i]? with
      | none => rw [hr] at hiq; cases hiq
      | some x =>
        rw [hr] at hiq
        have hx : x = i := by
          have := List.getElem?_eq_some_iff.1 hr
          obtain ⟨h1, h2⟩ := this
          simpa using h2.symm
        subst hx
        simpa using hiq) _ _ _ (xs.map (fun x => (x.1, ac.eval x.2))) (madeCells z.cells (len * k)) hf hmade (by simp [List.map_map, Function.comp_def]) hq
    obtain ⟨hE, hS⟩ := hs.sim.pushT (xs := cs) (ys := fs.toList) (fun i u v hu' hv' => hfs.2 i u v hu' hv') len len
      (by
        have hq' : cs.length = fs.size := by simpa using hfs.1
        refine ⟨?_, ?_, fun h => absurd h (by omega)⟩
        · exact Nat.le_of_eq (by simpa using hq')
        · rw [Array.length_toList, ← hq', Nat.mul_comm]) e
    refine ⟨.slice (some ⟨w.heap.size, 0, none⟩) len len, _, _, ?_, hE, hm ▸ hS, .base ⟨w.heap.size, len, len, by simp [zo], by show addT _ _ _ _ _ _ _ = _; unfold addT; rw [if_pos ⟨hj.symm, rfl⟩], .inr ⟨rfl, Nat.le_refl _, Nat.le_refl _⟩⟩⟩
    · have hle : ¬ (2 ^ 24 < len * k) := by omega
      have hparts : (xs.toArray.map fun (x : Nat × Operand) => (x.1, ac.eval x.2)).toList = xs.map (fun x => (x.1, ac.eval x.2)) := by simp
      have hparts' : (xs.toArray.map fun (x : Nat × Operand) => (x.1, ac.eval x.2)) = (xs.toArray.map fun (x : Nat × Operand) => (x.1, ac.eval x.2)) := rfl
      have hfill' : ∀ zz : Array Value, (len * k = 0 → zz = #[]) → (len * k ≠ 0 → zz = z.cells) → Instr.fill (fun i => some (i * k, k)) ((Array.range (len * k)).map (zz[· % zz.size]!)) (xs.map (fun x => (x.1, ac.eval x.2))) = some fs := fun zz h0 h1 => by
        by_cases hn : len * k = 0
        · have e1 : (Array.range (len * k)).map (zz[· % zz.size]!) = madeCells z.cells (len * k) := by rw [hn]; simp [madeCells]
          rw [e1]; exact hfill
        · rw [h1 hn]; exact hfill
      simp only [execOp]
      rw [Sem.run_bind]
      have hb : (Instr.buildSlice st len (xs.toArray.map fun (x : Nat × Operand) => (x.1, ac.eval x.2))).run P w = .ok (.slice (some ⟨w.heap.size, 0, none⟩) len len) (w.alloc (.cells fs e)) := by
        unfold Instr.buildSlice
        by_cases hn : len * k = 0
        · have hf0 := hfill' #[] (fun _ => rfl) (fun h => absurd hn h)
          simp only [hn] at hf0
          simp [run_underlying hu, sizeOf, typeInfo, hinf, hsz, hn, newRow]
          simp only [Array.range_zero', Array.map_empty] at hf0 ⊢
          rw [hf0]
          rfl
        · have hf0 := hfill' z.cells (fun h => absurd h hn) (fun _ => rfl)
          simp [run_underlying hu, sizeOf, typeInfo, hinf, hsz, hn, newRow, zeroValue, hz3]
          rw [if_neg (by omega), hf0]
          rfl
      rw [hb]
      rfl) h
theorem o_buildS1M {st k b e : Nat} [ha : SlT P st k b e] {z : Value} [hz : TyZ P e z] {x : Operand} {v : Value} {us : List Value} {m' : Mem} {j : Nat} (hx : evalA t x = v := by (conv => (lhs; whnf)); first | done | rfl) (hus : cellsA v = us := by rfl)
    (hk : (cellsA z).length = k := by first | rfl | (simp only [cellsA, tab_len, List.length_cons, List.length_nil, List.length_append]; done)) (hul : us.length = k := by first | rfl | (simp only [cellsA, tab_len, List.length_cons, List.length_nil, List.length_append]; done)) (hw : whole v = true := by first | exact whole_tab (fun _ => rfl) | exact whole_tabR (fun _ => rfl) rfl | rfl | simp [whole, tab_one, one]) (hlk : k ≤ 16777216 := by omega)
    (hm : m ++ [⟨us, some 1, true⟩] = m' := by first | (simp only [List.append_assoc, cellsA, List.cons_append, List.nil_append]; rfl) | rfl) (hj : m.length = j := by first | (simp only [List.length_append, List.length_set, List.length_cons, List.length_nil, Nat.reduceAdd, Nat.zero_add]; first | done | rfl) | rfl) (hd : Nat.blt d n = true := by rfl)
    (h : AOs P ops l K ⟨n, (d, .slice (some ⟨j, 0, some 1⟩) 1 1) :: t, m'⟩) : AOs P ops (⟨some d, .buildSlice st 1 ([(0, x)] : List (Nat × Operand)).toArray, ty, pos, af, none⟩ :: l) K ⟨n, t, m⟩ :=
  o_buildSM (xs := [(0, x)]) (vs := [(0, v)]) (zs := rows 1 fun _ => cellsA z) (cs := us) hk (by omega) (by simp [hx]) rfl (by
    have e1 : (List.range 1).map (fun q => (q * k, k)) = [(0, k)] := by simp [List.range_succ]
    have e2 : rows 1 (fun _ => cellsA z) = cellsA z := by simp [rows, List.range_succ]
    rw [e1, e2]
    show (if (cellsA v).length = k ∧ 0 + k ≤ (cellsA z).length ∧ whole v = true then some ((cellsA z).take 0 ++ cellsA v ++ (cellsA z).drop (0 + k)) else none) = some us
    rw [if_pos ⟨by rw [hus]; exact hul, by omega, hw⟩, hus, List.take_zero, List.drop_eq_nil_of_le (by omega), List.nil_append, List.append_nil]) (by decide) hm hj hd h

theorem AOs.valX {o : Oper} {s : St} (V : Value → Prop) (hg : o.guard = none) (hd : dlt o.dst s.n = true)
    (hrun : ∀ B0 w0 r a w, SimSt B0 w0 r s a w → ∃ v d, V v ∧ (execOp a.eval o).run P w = .ok (.value d) w ∧ VR r v d) (h : ∀ v, V v → AOs P ops l K (s.put o.dst v)) : AOs P ops (o :: l) K s := by
  refine AOs.of_AO hg fun B0 w0 r a w Q' hs => ?_
  obtain ⟨v, x, hV, hx, hv⟩ := hrun B0 w0 r a w hs
  unfold Oper.wp
  rw [hx]
  exact ⟨r, _, Ext.refl r, hs.put (Ext.refl r) hs.sim hd hv, h v hV⟩
/-- x[len(x):], an empty slice somewhere. -/
theorem o_slLoE {st k b e : Nat} [ha : SlT P st k b e] {x lo : Operand} {j o ln cp : Nat} {tg : Option Nat} {ik : IntKind} {q : Nat} (hx : evalA t x = .slice (some ⟨j, o, tg⟩) ln cp := by (conv => (lhs; whnf)); first | done | rfl) (hh : evalA t lo = .int ik (q : Int) := by (conv => (lhs; whnf)); first | done | rfl)
    (hle : q = ln := by omega) (hcp : cp = ln := by omega) (hd : Nat.blt d n = true := by rfl)
    (h : ∀ o2, AOs P ops l K ⟨n, (d, .slice (some ⟨j, o2, tg⟩) 0 0) :: t, m⟩) : AOs P ops (⟨some d, .slice st x (some lo) none none, ty, pos, af, none⟩ :: l) K ⟨n, t, m⟩ :=
  AOs.valX (fun v => ∃ o2, v = .slice (some ⟨j, o2, tg⟩) 0 0) rfl hd (fun B0 w0 r a w hs => by
    have hx1 := hs.eval x
    have hh1 := hs.eval lo
    rw [hx] at hx1
    rw [hh] at hh1
    obtain ⟨c, z, m', he, hr, hc⟩ := hx1.slice_inv
    have hh2 := hh1.int_inv
    obtain ⟨hu, inf, hinf, hsz, _⟩ := sl_facts (P := P) (st := st)
    have hm' : cp ≤ m' := by rcases hc with ⟨_, h⟩ | ⟨_, h, _⟩ <;> omega
    have h1 : q ≤ ln := by omega
    by_cases h2 : m' = q
    · refine ⟨.slice (some ⟨j, o, tg⟩) 0 0, .slice (some ⟨c, zo tg z + o, none⟩) (ln - q) (m' - q), ⟨o, rfl⟩, ?_, .base ⟨c, z, m' - q, by rw [show ln - q = 0 by omega], hr, ?_⟩⟩
      · simp [execOp, he, hh2, Instr.sliceAt, Instr.slice, Instr.sliceBounds, Instr.sliceBound, asIntOf, run_underlying hu, h1, h2, sizeOf, typeInfo, hinf, hsz, addr_add]
      · rcases hc with ⟨h1, h3⟩ | ⟨h1, h3, h4⟩
        · exact .inl ⟨h1, by omega⟩
        · exact .inr ⟨h1, by omega, by omega⟩
    · refine ⟨.slice (some ⟨j, o + q * k, tg⟩) 0 0, .slice (some ⟨c, zo tg z + (o + q * k), none⟩) (ln - q) (m' - q), ⟨o + q * k, rfl⟩, ?_, .base ⟨c, z, m' - q, by rw [show ln - q = 0 by omega], hr, ?_⟩⟩
      · have h3 : zo tg z + (o + q * k) = zo tg z + o + q * k := by omega
        simp [execOp, he, hh2, Instr.sliceAt, Instr.slice, Instr.sliceBounds, Instr.sliceBound, asIntOf, run_underlying hu, h1, h2, sizeOf, typeInfo, hinf, hsz, addr_add, h3]
      · rcases hc with ⟨h1, h3⟩ | ⟨h1, h3, h4⟩
        · exact .inl ⟨h1, by omega⟩
        · exact .inr ⟨h1, by omega, by omega⟩) (fun v hv => by
    obtain ⟨o2, rfl⟩ := hv
    exact h o2)
end
end Go.Proofs.Ytpffdjleonkdoaa
