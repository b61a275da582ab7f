/- Slices that are written out, function values, and calls through them. -/
import Derived.Test.YtjghdagcmombnaaOpen

namespace Go.Proofs.Ytjghdagcmombnaa
open Go.RowKit

theorem VRs.append {r : Ren} {xs ys us vs : List Value} (h : VRs r xs ys) (h' : VRs r us vs) : VRs r (xs ++ us) (ys ++ vs) := by
  refine ⟨by simp [h.1, h'.1], fun i x y hx hy => ?_⟩
  by_cases hi : i < xs.length
  · rw [List.getElem?_append_left hi] at hx
    rw [List.getElem?_append_left (by rw [← h.1]; exact hi)] at hy
    exact h.2 i x y hx hy
  · rw [List.getElem?_append_right (by omega)] at hx
    rw [List.getElem?_append_right (by rw [← h.1]; omega), ← h.1] at hy
    exact h'.2 _ x y hx hy

section
variable {P : Program} {ops l : List Oper} {K : St → Prop} {n : Nat} {t : Env} {m : Mem} {d ty : Nat} {pos : String} {af : Array Edge}

theorem o_buildS {st k b e len : Nat} [ha : SlT P st k b e] {z : Value} [hz : TyZ P e z] {xs : List (Nat × Operand)} {vs : List (Nat × Value)} {zs cs : List Value} {m' : Mem} {j : Nat}
    (hk : (cellsA z).length = k := by first | rfl | (simp only [cellsA, tab_len, List.length_cons, List.length_nil, List.length_append]; done)) (hlk : len * k ≤ 16777216 := by omega)
    (hvs : xs.map (fun x => (x.1, evalA t x.2)) = vs := by first | (simp only [List.map_cons, List.map_nil, evalA, look, cond_true, cond_false, Nat.reduceBEq, constOk, constOk1]; done) | (simp only [List.map_cons, List.map_nil, evalA, look, cond_true, cond_false, Nat.reduceBEq, constOk, constOk1]; rfl) | rfl) (hzs : rows len (fun _ => cellsA z) = zs := by simp only [rows, List.range_succ, List.range_zero, List.nil_append, List.cons_append, List.flatMap_cons, List.flatMap_nil, cellsA, List.append_nil]; rfl)
    (hf : fillA ((List.range len).map fun q => (q * k, k)) zs vs = some cs := by repeat' (first | exact fill_nil | refine fill_cons (by rfl) (by first | rfl | (simp only [cellsA, tab_len, List.length_cons, List.length_nil]; done)) (by first | decide | (simp only [cellsA, tab_len, List.length_cons, List.length_nil, List.length_append]; omega)) (by first | exact whole_tab (fun _ => rfl) | exact whole_tabR (fun _ => rfl) rfl | rfl | simp [whole, tab_one, one]) (by first | (with_reducible refine st_all ?_; (first | rfl | (simp only [cellsA, tab_len, List.length_cons, List.length_nil]; done))) | (refine st_tab1 ?_; omega) | (refine st_tabk ?_; omega) | exact st_tabL | exact st_tabR | (refine st_tabI ?_; omega) | (refine st_row ?_ ?_ ?_; omega; (intro q _; first | rfl | (split <;> rfl)); rfl) | (refine st_cell ?_ ?_ ?_; omega; (intro q _; first | rfl | (split <;> rfl)); omega) | (refine st_cell0 ?_ ?_ ?_; omega; (intro q _; first | rfl | (split <;> rfl)); omega) | (simp only [cellsA, List.take_succ_cons, List.take_zero, List.drop_succ_cons, List.drop_zero, List.length_cons, List.length_nil, Nat.reduceAdd, Nat.reduceMul, Nat.zero_mul, Nat.mul_one, List.cons_append, List.nil_append, List.append_nil, List.append_assoc]; rfl)) ?_))
    (hm : m ++ [⟨cs, none, true⟩] = m' := by first | (simp only [List.append_assoc, cellsA, List.cons_append, List.nil_append]; rfl) | rfl) (hj : m.length = j := by first | (simp only [List.length_append, List.length_set, List.length_cons, List.length_nil, Nat.reduceAdd, Nat.zero_add]; first | done | rfl) | rfl) (hd : Nat.blt d n = true := by rfl)
    (h : AOs P ops l K ⟨n, (d, .slice (some ⟨j, 0, none⟩) len len) :: t, m'⟩) : AOs P ops (⟨some d, .buildSlice st len xs.toArray, ty, pos, af, none⟩ :: l) K ⟨n, t, m⟩ :=
  AOs.gen (v := .slice (some ⟨j, 0, none⟩) len len) (m' := m') rfl hd (fun B0 w0 r ac w hs => by
    subst hzs
    subst hvs
    obtain ⟨hu, inf, hinf, hsz, hbt⟩ := sl_facts (P := P) (st := st)
    have hz1 := hz.out
    rw [hinf] at hz1
    have hz3 : inf.zero = some z := hz1
    have hmade := made_VRs r hz.ok k len hk
    have hq : VRs r ((xs.map (fun x => (x.1, evalA t x.2))).map (·.2)) ((xs.map (fun x => (x.1, ac.eval x.2))).map (·.2)) := by
      have := hs.evals (xs.map (·.2))
      simpa [List.map_map, Function.comp_def] using this
    obtain ⟨fs, hfill, hfs⟩ := fill_sound (r := r) (pf := fun i => some (i * k, k)) (fun i q hiq => by
      rw [List.getElem?_map] at hiq
      cases hr : (List.range len)[i]? with
      | none => rw [hr] at hiq; cases hiq
      | some x =>
        rw [hr] at hiq
        have hx : x = i := by
          have := List.getElem?_eq_some_iff.1 hr
          obtain ⟨h1, h2⟩ := this
          simpa using h2.symm
        subst hx
        simpa using hiq) _ _ _ (xs.map (fun x => (x.1, ac.eval x.2))) (madeCells z.cells (len * k)) hf hmade (by simp [List.map_map, Function.comp_def]) hq
    have h3 := hs.sim.push hfs none (.inl rfl) e
    refine ⟨.slice (some ⟨w.heap.size, 0, none⟩) len len, _, _, ?_, hs.sim.ext_new none w.heap.size, hm ▸ h3, .base ⟨w.heap.size, 0, len, rfl, ?_, .inl ⟨rfl, rfl⟩⟩⟩
    · have hle : ¬ (2 ^ 24 < len * k) := by omega
      have hparts : (xs.toArray.map fun (x : Nat × Operand) => (x.1, ac.eval x.2)).toList = xs.map (fun x => (x.1, ac.eval x.2)) := by simp
      have hparts' : (xs.toArray.map fun (x : Nat × Operand) => (x.1, ac.eval x.2)) = (xs.toArray.map fun (x : Nat × Operand) => (x.1, ac.eval x.2)) := rfl
      have hfill' : ∀ zz : Array Value, (len * k = 0 → zz = #[]) → (len * k ≠ 0 → zz = z.cells) → Instr.fill (fun i => some (i * k, k)) ((Array.range (len * k)).map (zz[· % zz.size]!)) (xs.map (fun x => (x.1, ac.eval x.2))) = some fs := fun zz h0 h1 => by
        by_cases hn : len * k = 0
        · have e1 : (Array.range (len * k)).map (zz[· % zz.size]!) = madeCells z.cells (len * k) := by rw [hn]; simp [madeCells]
          rw [e1]; exact hfill
        · rw [h1 hn]; exact hfill
      simp only [execOp]
      rw [Sem.run_bind]
      have hb : (Instr.buildSlice st len (xs.toArray.map fun (x : Nat × Operand) => (x.1, ac.eval x.2))).run P w = .ok (.slice (some ⟨w.heap.size, 0, none⟩) len len) (w.alloc (.cells fs e)) := by
        unfold Instr.buildSlice
        by_cases hn : len * k = 0
        · have hf0 := hfill' #[] (fun _ => rfl) (fun h => absurd hn h)
          simp only [hn] at hf0
          simp [run_underlying hu, sizeOf, typeInfo, hinf, hsz, hn, newRow]
          simp only [Array.range_zero', Array.map_empty] at hf0 ⊢
          rw [hf0]
          rfl
        · have hf0 := hfill' z.cells (fun h => absurd h hn) (fun _ => rfl)
          simp [run_underlying hu, sizeOf, typeInfo, hinf, hsz, hn, newRow, zeroValue, hz3]
          rw [if_neg (by omega), hf0]
          rfl
      rw [hb]
      rfl
    · show addR r m.length none w.heap.size j none = _
      unfold addR; rw [if_pos ⟨hj.symm, rfl⟩]) h

theorem o_mkF {fn : Fn} {xs ys : List Operand} {us vs : List Value} (hx : xs.map (evalA t) = us := by first | (simp only [List.map_cons, List.map_nil, evalA, look, cond_true, cond_false, Nat.reduceBEq, constOk, constOk1]; done) | (simp only [List.map_cons, List.map_nil, evalA, look, cond_true, cond_false, Nat.reduceBEq, constOk, constOk1]; rfl) | rfl) (hy : ys.map (evalA t) = vs := by first | (simp only [List.map_cons, List.map_nil, evalA, look, cond_true, cond_false, Nat.reduceBEq, constOk, constOk1]; done) | (simp only [List.map_cons, List.map_nil, evalA, look, cond_true, cond_false, Nat.reduceBEq, constOk, constOk1]; rfl) | rfl) (hd : Nat.blt d n = true := by rfl)
    (h : AOs P ops l K ⟨n, (d, .func fn us.toArray vs.toArray) :: t, m⟩) : AOs P ops (⟨some d, .makeFunc fn xs.toArray ys.toArray, ty, pos, af, none⟩ :: l) K ⟨n, t, m⟩ :=
  AOs.val (v := .func fn us.toArray vs.toArray) rfl hd (fun _ _ r ac w hs => by
    have h1 := hs.evals xs
    have h2 := hs.evals ys
    rw [hx] at h1
    rw [hy] at h2
    refine ⟨.func fn (xs.map ac.eval).toArray (ys.map ac.eval).toArray, by simp [execOp, Instr.makeFunc], VR.func fn _ _ _ _ h1.1 h1.2 h2.1 h2.2⟩) h

/-- A call through a value. -/
theorem o_callV {f : FuncId} [hf : FnT P f] {x : Operand} {xs : List Operand} {ats : Array TypeId} {args us vs : List Value} {R : Value → Mem → Prop} (hx : evalA t x = .func (.func f) us.toArray vs.toArray := by (conv => (lhs; whnf)); first | done | rfl) (hargs : xs.map (evalA t) = args := by first | (simp only [List.map_cons, List.map_nil, evalA, look, cond_true, cond_false, Nat.reduceBEq, constOk, constOk1]; done) | (simp only [List.map_cons, List.map_nil, evalA, look, cond_true, cond_false, Nat.reduceBEq, constOk, constOk1]; rfl) | rfl) (hc : ACalls P f (us ++ args ++ vs) m R) (hd : Nat.blt d n = true := by rfl)
    (h : ∀ v m', R v m' → AOs P ops l K ⟨n, (d, v) :: t, m'⟩) :
    AOs P ops (⟨some d, .call { callee := .value x, args := xs.toArray, argTypes := ats }, ty, pos, af, none⟩ :: l) K ⟨n, t, m⟩ := by
  refine AOs.of_AO rfl fun B0 w0 r a w Q' hs => ?_
  have h0 := hs.eval x
  have h1 := hs.evals xs
  rw [hx] at h0
  rw [hargs] at h1
  obtain ⟨us', vs', he, hu, hv⟩ := h0.func_inv
  have hu' : VRs r us us' := by simpa using hu
  have hv' : VRs r vs vs' := by simpa using hv
  have hall : VRs r (us ++ args ++ vs) (us' ++ xs.map a.eval ++ vs') := (hu'.append h1).append hv'
  have hrun : (execOp a.eval ⟨some d, .call { callee := .value x, args := xs.toArray, argTypes := ats }, ty, pos, af, none⟩).run P w = .ok (.enter f (us' ++ xs.map a.eval ++ vs').toArray) w := by
    simp [execOp, resolve, he, Deferred.ofValue, invoke, hf.out]
  unfold Oper.wp
  rw [hrun]
  refine Calls.mono (hc B0 w0 r w _ hs.sim hall) fun e w' ⟨y, v, m', r', he, hR, hex, hs', hv⟩ => ?_
  subst he
  exact ⟨r', _, hex, SimSt.put (s := ⟨n, t, m⟩) hs hex hs' (d := some d) hd hv, h v m' hR⟩
end
end Go.Proofs.Ytjghdagcmombnaa
