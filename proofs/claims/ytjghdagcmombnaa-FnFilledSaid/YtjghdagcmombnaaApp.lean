/- append: to the newest slice of a marked block, and to a slice of no room. No program in sight. -/
import Derived.Test.YtjghdagcmombnaaMore
import Derived.Laws.AppendOwn

namespace Go.Proofs.Ytjghdagcmombnaa
open Go.RowKit
set_option linter.unusedSimpArgs false
set_option linter.unusedVariables false

def addT (r : Ren) (j : Nat) (t : Option Nat) (c z : Nat) : Ren := fun i u => if i = j ∧ u = t then some (c, z) else r i u

theorem tagLe.trans {a b c : Option Nat} (h : tagLe a b) (k : tagLe b c) : tagLe a c := by
  cases a <;> cases b <;> cases c <;> simp_all [tagLe]
  exact Nat.le_trans h k

/-- A block put anew: longer, under a newer mark, where it was or in a new row. -/
theorem Sim.moved {B0 : Nat} {w0 : World} {r : Ren} {M : Mem} {w w' : World} (hs : Sim B0 w0 r M w) {j : Nat} {b : Blk} (hb : M[j]? = some b) (hrw : b.rw = true) {c z : Nat} (hr : r j b.tag = some (c, z))
    {p q : Nat} (hp : b.tag = some p) (hpq : p < q) {cells : List Value} {ds : Array Value} {ty : TypeId} {c' z' : Nat} (hbel : Below B0 w0 w') (hsz : w.heap.size ≤ w'.heap.size)
    (hheap : w'.heap[c']? = some (.cells ds ty (0, 0))) (hB : B0 ≤ c') (hl : lenOk (some q) z' ds.size cells.length) (hrel : ∀ (i : Nat) (x y : Value), cells[i]? = some x → ds[i]? = some y → VR r x y)
    (hoth : ∀ k, k < w.heap.size → k ≠ c → w'.heap[k]? = w.heap[k]?) (hc' : c' = c ∨ w.heap.size ≤ c') :
    Ext r (addT r j (some q) c' z') ∧ Sim B0 w0 (addT r j (some q) c' z') (M.set j ⟨cells, some q, true⟩) w' := by
  have hjl : j < M.length := (List.getElem?_eq_some_iff.1 hb).1
  have hfresh : r j (some q) = none := by
    cases h : r j (some q) with
    | none => rfl
    | some x =>
      obtain ⟨b2, hb2, ht⟩ := hs.dom _ _ _ h
      rw [hb] at hb2; cases hb2
      rw [hp] at ht
      have : q ≤ p := ht
      omega
  have he : Ext r (addT r j (some q) c' z') := fun i u x h => by
    unfold addT
    rw [if_neg]
    · exact h
    · rintro ⟨rfl, rfl⟩
      rw [hfresh] at h; cases h
  have mget : ∀ {k} {nb : Blk}, (M.set j nb)[k]? = if k = j then some nb else M[k]? := fun {k nb} => by
    rw [List.getElem?_set]
    by_cases e : k = j
    · subst e; simp [hjl]
    · rw [if_neg (fun h => e h.symm), if_neg e]
  have rOld : ∀ {i u x}, i ≠ j → addT r j (some q) c' z' i u = some x → r i u = some x := fun {i u x} hi h => by
    unfold addT at h; rwa [if_neg (by rintro ⟨e, _⟩; exact hi e)] at h
  have rNew : addT r j (some q) c' z' j (some q) = some (c', z') := by unfold addT; rw [if_pos ⟨rfl, rfl⟩]
  have hne : ∀ {k b'} {c2 z2 : Nat}, M[k]? = some b' → r k b'.tag = some (c2, z2) → k ≠ j → c2 ≠ c := fun {k b' c2 z2} hk hrk hkj e => by
    subst e
    exact hkj (hs.inj j k b b' c2 z z2 hb hk hrw hr hrk).symm
  have hc'lt : c' < w'.heap.size := (Array.getElem?_eq_some_iff.1 hheap).1
  refine ⟨he, hbel, hs.base, fun i u x h => ?_, fun i u x y h => ?_, fun k b' hk => ?_, fun k k' b1 b2 c1 z1 z2 h1 h2 hw1 hc1 hc2 => ?_⟩
  · rw [mget]
    by_cases e : i = j
    · subst e
      rw [if_pos rfl]
      refine ⟨_, rfl, ?_⟩
      unfold addT at h
      split at h
      · rename_i e; rw [e.2]; exact Nat.le_refl q
      · obtain ⟨b2, hb2, ht⟩ := hs.dom _ _ _ h
        rw [hb] at hb2; cases hb2
        rw [hp] at ht
        exact tagLe.trans ht (Nat.le_of_lt hpq)
    · rw [if_neg e]
      exact hs.dom _ _ _ (rOld e h)
  · unfold addT at h
    split at h
    · cases h; exact hc'lt
    · have := hs.lt _ _ _ _ h; omega
  · rw [mget] at hk
    by_cases e : k = j
    · subst e
      rw [if_pos rfl] at hk
      cases hk
      refine .inr ⟨c', z', rNew, ?_⟩
      unfold BlkOk
      rw [if_pos rfl]
      exact ⟨rfl, ds, ty, hheap, hB, hl, fun i x y hx hy => (hrel i x y hx hy).mono he⟩
    · rw [if_neg e] at hk
      rcases hs.blk k b' hk with hg | ⟨c2, z2, hr2, hok2⟩
      · refine .inl ⟨hg.1, fun u => ?_⟩
        unfold addT; rw [if_neg (fun h => e h.1)]; exact hg.2 u
      exact .inr ⟨c2, z2, he _ _ _ hr2, hok2.mono he (hoth _ (hs.lt _ _ _ _ hr2) (hne hk hr2 e))⟩
  · rw [mget] at h1 h2
    by_cases e1 : k = j
    · by_cases e2 : k' = j
      · rw [e1, e2]
      · exfalso
        rw [if_neg e2] at h2
        rw [if_pos e1] at h1
        cases h1
        subst e1
        have hc1' : addT r k (some q) c' z' k (some q) = some (c1, z1) := hc1
        rw [rNew] at hc1'
        cases hc1'
        have h3 := rOld e2 hc2
        rcases hc' with rfl | h
        · exact hne h2 h3 e2 rfl
        · have := hs.lt _ _ _ _ h3; omega
    · rw [if_neg e1] at h1
      by_cases e2 : k' = j
      · exfalso
        rw [if_pos e2] at h2
        cases h2
        subst e2
        have hc2' : addT r k' (some q) c' z' k' (some q) = some (c1, z2) := hc2
        rw [rNew] at hc2'
        cases hc2'
        have h3 := rOld e1 hc1
        rcases hc' with rfl | h
        · exact hne h1 h3 e1 rfl
        · have := hs.lt _ _ _ _ h3; omega
      · rw [if_neg e2] at h2
        exact hs.inj k k' b1 b2 c1 z1 z2 h1 h2 hw1 (rOld e1 hc1) (rOld e2 hc2)

/-- A new block under a mark. -/
theorem Sim.pushT {B0 : Nat} {w0 : World} {r : Ren} {M : Mem} {w : World} (hs : Sim B0 w0 r M w) {xs ys : List Value} (hv : ∀ (i : Nat) (x y : Value), xs[i]? = some x → ys[i]? = some y → VR r x y) (t z : Nat)
    (hl : lenOk (some t) z ys.length xs.length) (ty : TypeId) :
    Ext r (addT r M.length (some t) w.heap.size z) ∧ Sim B0 w0 (addT r M.length (some t) w.heap.size z) (M ++ [⟨xs, some t, true⟩]) (w.alloc (.cells ys.toArray ty)) := by
  have he : Ext r (addT r M.length (some t) w.heap.size z) := fun j u x h => by
    have := hs.dom_lt j u x h
    unfold addT; rw [if_neg (by omega)]; exact h
  have hsz := hs.below.size
  have old : ∀ {c}, c < w.heap.size → (w.alloc (.cells ys.toArray ty)).heap[c]? = w.heap[c]? := fun {c} hc => Below.heap_alloc _ _ _ hc
  have rOld : ∀ {j u c z'}, j < M.length → addT r M.length (some t) w.heap.size z j u = some (c, z') → r j u = some (c, z') ∧ c < w.heap.size := fun {j u c z'} hj h => by
    unfold addT at h
    rw [if_neg (by rintro ⟨e, _⟩; omega)] at h
    exact ⟨h, hs.lt _ _ _ _ h⟩
  have rNew : addT r M.length (some t) w.heap.size z M.length (some t) = some (w.heap.size, z) := by unfold addT; rw [if_pos ⟨rfl, rfl⟩]
  have inO : ∀ {j b}, (M ++ [(⟨xs, some t, true⟩ : Blk)])[j]? = some b → (j < M.length ∧ M[j]? = some b) ∨ (j = M.length ∧ b = ⟨xs, some t, true⟩) := fun {j b} hb => by
    by_cases hj : j < M.length
    · rw [List.getElem?_append_left hj] at hb; exact .inl ⟨hj, hb⟩
    · rw [List.getElem?_append_right (by omega)] at hb
      have hj2 : j = M.length := by
        have := (List.getElem?_eq_some_iff.1 hb).1; simp at this; omega
      subst hj2; simp at hb; exact .inr ⟨rfl, hb.symm⟩
  refine ⟨he, hs.below.alloc (Nat.le_trans hs.base.1 hsz) _, hs.base, fun j u c h => ?_, fun j u c z' h => ?_, fun j b hb => ?_, fun j k b b' c z1 z2 hb hb' hw hc hc' => ?_⟩
  · unfold addT at h
    split at h
    · rename_i e; obtain ⟨rfl, rfl⟩ := e
      exact ⟨⟨xs, some t, true⟩, by simp, Nat.le_refl t⟩
    · obtain ⟨b, hb, ht⟩ := hs.dom _ _ _ h
      exact ⟨b, by rw [List.getElem?_append_left (List.getElem?_eq_some_iff.1 hb).1]; exact hb, ht⟩
  · unfold addT at h
    split at h
    · cases h; simp
    · have := hs.lt _ _ _ _ h; simp; omega
  · rcases inO hb with ⟨hj, hb⟩ | ⟨rfl, rfl⟩
    · rcases hs.blk j b hb with hg | ⟨c, z', hr, hok⟩
      · refine .inl ⟨hg.1, fun u => ?_⟩
        unfold addT; rw [if_neg (fun h => by omega)]; exact hg.2 u
      exact .inr ⟨c, z', he _ _ _ hr, hok.mono he (old (hs.lt _ _ _ _ hr))⟩
    · refine .inr ⟨w.heap.size, z, rNew, ?_⟩
      unfold BlkOk
      rw [if_pos rfl]
      exact ⟨rfl, ys.toArray, ty, heap_alloc_new _ _, Nat.le_trans hs.base.1 hsz, by simpa using hl, fun i x y hx hy => (hv i x y hx (by simpa using hy)).mono he⟩
  · rcases inO hb with ⟨hj, hb⟩ | ⟨rfl, rfl⟩ <;> rcases inO hb' with ⟨hk, hb'⟩ | ⟨rfl, rfl⟩
    · exact hs.inj j k b b' c z1 z2 hb hb' hw (rOld hj hc).1 (rOld hk hc').1
    · have h1 := (rOld hj hc).2
      have h2 : addT r M.length (some t) w.heap.size z M.length (some t) = some (c, z2) := hc'
      rw [rNew] at h2; cases h2; omega
    · have h1 := (rOld hk hc').2
      have h2 : addT r M.length (some t) w.heap.size z M.length (some t) = some (c, z1) := hc
      rw [rNew] at h2; cases h2; omega
    · rfl

/-- The cells of a part of a block that a slice leads to. -/
theorem Sim.part {B0 : Nat} {w0 : World} {r : Ren} {M : Mem} {w : World} (hs : Sim B0 w0 r M w) {j : Nat} {b : Blk} (hb : M[j]? = some b) {c z : Nat} (hr : r j b.tag = some (c, z)) {o k : Nat} {xs : List Value}
    (hx : (b.cells.drop o).take k = xs) : ∃ ys : List Value, (∀ (i : Nat) (y : Value), ys[i]? = some y → w.cell? ((⟨c, zo b.tag z + o, none⟩ : Addr).add i) = some y) ∧ VRs r xs ys := by
  obtain ⟨ys, h1, h2⟩ := hs.cells hb hr (o := o) (xs := xs) (fun i x hx' => by
    rw [← hx, List.getElem?_take] at hx'
    split at hx'
    · rwa [List.getElem?_drop] at hx'
    · cases hx')
  exact ⟨ys, fun i y hy => by rw [addr_add]; exact h1 i y hy, h2⟩

theorem VRs.ones {r : Ren} {xs ys : List Value} (h : VRs r xs ys) (h1 : xs.all one = true) : ∀ v ∈ ys, v.oneCell' = true := fun v hv => by
  obtain ⟨i, hi⟩ := List.getElem?_of_mem hv
  have hlt : i < xs.length := by rw [h.1]; exact (List.getElem?_eq_some_iff.1 hi).1
  simp only [List.all_eq_true] at h1
  exact ((h.2 i _ _ (List.getElem?_eq_getElem hlt) hi).one_inv (h1 _ (List.getElem_mem hlt))).1

theorem Sim.drew' {B0 : Nat} {w0 : World} {r : Ren} {M : Mem} {w : World} (hs : Sim B0 w0 r M w) : Sim B0 w0 r M w.drew :=
  ⟨hs.below.drew, hs.base, hs.dom, hs.lt, hs.blk, hs.inj⟩
theorem rows_one {n : Nat} {f : Nat → List Value} (h : ∀ i, (f i).all one = true) : (rows n f).all one = true := by
  simp only [List.all_eq_true] at h ⊢
  intro x hx
  obtain ⟨i, _, hi⟩ := List.mem_flatMap.1 hx
  exact h i x hi

section
variable {P : Program} {ops l : List Oper} {K : St → Prop} {n : Nat} {t : Env} {m : Mem} {d ty : Nat} {pos : String} {af : Array Edge}

theorem o_buildS0 {st k b e : Nat} [ha : SlT P st k b e] {m' : Mem} {j : Nat} (hm : m ++ [⟨[], some 0, true⟩] = m' := by first | (simp only [List.append_assoc, cellsA, List.cons_append, List.nil_append]; rfl) | rfl) (hj : m.length = j := by first | (simp only [List.length_append, List.length_set, List.length_cons, List.length_nil, Nat.reduceAdd, Nat.zero_add]; first | done | rfl) | rfl) (hd : Nat.blt d n = true := by rfl)
    (h : AOs P ops l K ⟨n, (d, .slice (some ⟨j, 0, some 0⟩) 0 0) :: t, m'⟩) : AOs P ops (⟨some d, .buildSlice st 0 #[], ty, pos, af, none⟩ :: l) K ⟨n, t, m⟩ :=
  AOs.gen (v := .slice (some ⟨j, 0, some 0⟩) 0 0) (m' := m') rfl hd (fun B0 w0 r ac w hs => by
    obtain ⟨hu, inf, hinf, hsz, hbt⟩ := sl_facts (P := P) (st := st)
    obtain ⟨he, h3⟩ := hs.sim.pushT (xs := []) (ys := []) (by simp) 0 0 (by simp [lenOk]) e
    refine ⟨.slice (some ⟨w.heap.size, 0, none⟩) 0 0, _, _, ?_, he, hm ▸ h3, .base ⟨w.heap.size, 0, 0, rfl, ?_, .inr ⟨rfl, Nat.le_refl _, Nat.le_refl _⟩⟩⟩
    · simp only [execOp]
      rw [Sem.run_bind]
      have hb : (Instr.buildSlice st 0 (#[].map fun (x : Nat × Operand) => (x.1, ac.eval x.2))).run P w = .ok (.slice (some ⟨w.heap.size, 0, none⟩) 0 0) (w.alloc (.cells [].toArray e)) := by
        unfold Instr.buildSlice
        simp [run_underlying hu, sizeOf, typeInfo, hinf, newRow, Instr.fill]
        simp only [Array.range_zero', Array.map_empty]
      rw [hb]
      rfl
    · show addT r m.length (some 0) w.heap.size 0 j (some 0) = _
      unfold addT; rw [if_pos ⟨hj.symm, rfl⟩]) h

/-- append: the newest slice of a marked block, and the cells of another slice. -/
theorem o_app {st k b e : Nat} [ha : SlT P st k b e] {z : Value} [hz : TyZ P e z] {x y : Operand} {j p : Nat} {cs : List Value} {j' o' q cp' : Nat} {tg' : Option Nat} {b' : Blk} {ys : List Value} {m' : Mem}
    (hx : evalA t x = .slice (some ⟨j, 0, some p⟩) p p := by (conv => (lhs; whnf)); first | done | rfl) (hy : evalA t y = .slice (some ⟨j', o', tg'⟩) q cp' := by (conv => (lhs; whnf)); first | done | rfl)
    (hb : m[j]? = some ⟨cs, some p, true⟩ := by first | (simp only [mem_tail, mem_tail0, List.getElem?_cons_zero, List.getElem?_cons_succ]; first | done | rfl) | exact mem_head (by assumption) | assumption | (simp only [mem_tailS, mem_tailS0, List.getElem?_cons_zero, List.getElem?_cons_succ]; first | done | rfl) | exact mem_set1 (by assumption) | exact mem_set0 (by assumption) | exact mem_setN1 (by assumption) (by assumption) | exact mem_setN (by assumption) (by assumption)) (hb' : m[j']? = some b' := by first | (simp only [mem_tail, mem_tail0, List.getElem?_cons_zero, List.getElem?_cons_succ]; first | done | rfl) | exact mem_head (by assumption) | assumption | (simp only [mem_tailS, mem_tailS0, List.getElem?_cons_zero, List.getElem?_cons_succ]; first | done | rfl) | exact mem_set1 (by assumption) | exact mem_set0 (by assumption) | exact mem_setN1 (by assumption) (by assumption) | exact mem_setN (by assumption) (by assumption)) (htg : b'.tag = tg' := by rfl) (hys : (b'.cells.drop o').take (q * k) = ys := by first | (simp only [List.drop_zero]; first | rfl | (refine List.take_of_length_le ?_; first | (simp only [cellsA, List.length_cons, List.length_nil, tab_len]; omega) | omega)) | rfl)
    (hk : (cellsA z).length = k := by first | rfl | (simp only [cellsA, tab_len, List.length_cons, List.length_nil, List.length_append]; done))
    (hlc : cs.length = p * k := by first | rfl | assumption | (simp only [cellsA, tab_len, List.length_cons, List.length_nil, List.length_append]; first | done | omega) | (simp only [List.length_append, List.length_cons, List.length_nil, *]; first | done | omega)) (hly : ys.length = q * k := by first | rfl | assumption | (simp only [cellsA, tab_len, List.length_cons, List.length_nil, List.length_append]; first | done | omega) | (simp only [List.length_append, List.length_cons, List.length_nil, *]; first | done | omega)) (hone : ys.all one = true := by first | rfl | assumption | exact tab_one (fun _ => rfl) | exact rows_one (fun _ => rfl)) (hbig : (p + q) * b ≤ 140737488355328 ∧ p + q ≤ 9223372036854775807 := by omega)
    (hm : m.set j ⟨cs ++ ys, some (p + q), true⟩ = m' := by first | exact set_head1 (by assumption) | exact List.set_set .. | exact set_head0 (by assumption) | (simp only [set_tail, set_tail0, set_tailS, set_tailS0, List.set_cons_zero, List.set_cons_succ, cellsA, List.length_cons, List.length_nil, Nat.reduceAdd]; first | done | rfl) | rfl) (hd : Nat.blt d n = true := by rfl)
    (h : AOs P ops l K ⟨n, (d, .slice (some ⟨j, 0, some (p + q)⟩) (p + q) (p + q)) :: t, m'⟩) :
    AOs P ops (⟨some d, .call { callee := .builtin .append, args := #[x, y], argTypes := #[st, st] }, ty, pos, af, none⟩ :: l) K ⟨n, t, m⟩ :=
  AOs.gen (v := .slice (some ⟨j, 0, some (p + q)⟩) (p + q) (p + q)) (m' := m') rfl hd (fun B0 w0 r ac w hs => by
    have hx1 := hs.eval x
    have hy1 := hs.eval y
    rw [hx] at hx1
    rw [hy] at hy1
    obtain ⟨hu, inf, hinf, hsz, hbt⟩ := sl_facts (P := P) (st := st)
    have hz1 := hz.out
    rw [hinf] at hz1
    have hz3 : inf.zero = some z := hz1
    obtain ⟨c, zc, mx, hex, hrx, hcap⟩ := hx1.slice_inv
    obtain ⟨c2, z2, my, hey, hry, _⟩ := hy1.slice_inv
    obtain ⟨hp1, hp2⟩ : p ≤ mx ∧ mx ≤ zc := by
      rcases hcap with ⟨h, _⟩ | ⟨_, h⟩
      · cases h
      · exact h
    simp only at hrx hry
    rcases hs.sim.blk j _ hb with hg | ⟨c3, z3, hr3, hok⟩
    · cases hg.1.2
    have hr3' : r j (some p) = some (c3, z3) := hr3
    rw [hrx] at hr3'
    cases hr3'
    unfold BlkOk at hok
    rw [if_pos rfl] at hok
    obtain ⟨_, ds, dty, hheap, hB, hlen, hrel⟩ := hok
    obtain ⟨hle, hmul, hz0⟩ : cs.length ≤ ds.size ∧ ds.size * p = zc * cs.length ∧ (p = 0 → zc = 0) := hlen
    obtain ⟨us, hus, hvu⟩ := hs.sim.part hb' (by rw [htg]; exact hry) hys
    rw [htg] at hus
    have hul : us.length = q * k := by rw [← hvu.1, hly]
    have hone' := hvu.ones hone
    have hzk : z.cells.size = k := by
      rw [← hk]
      have hc := VR.const r hz.ok
      cases z <;> first
        | (obtain ⟨ws, he, hl⟩ := hc.agg_inv; rfl)
        | rfl
    have hdk : p ≠ 0 → ds.size = zc * k := fun hp => by
      rw [hlc, ← Nat.mul_assoc, Nat.mul_right_comm] at hmul
      exact Nat.eq_of_mul_eq_mul_right (Nat.pos_of_ne_zero hp) hmul
    have hxe : ac.eval x = .slice (some ⟨c, 0, none⟩) p mx := by simpa [zo] using hex
    have hadd : (⟨c, 0, none⟩ : Addr).add (p * inf.size) = ⟨c, p * k, none⟩ := by rw [addr_add, hsz, Nat.zero_add]
    have hfy : ∀ w1 : World, (∀ a, w1.cell? a = w.cell? a) → (Builtin.firstCells inf.size q (.slice (some ⟨c2, zo tg' z2 + o', none⟩) q my)).run P w1 = .ok us.toArray w1 := fun w1 h1 =>
      run_firstCells_some w1 inf.size q _ q my us (by rw [hsz]; exact hul) (fun i v hv => by rw [h1]; exact hus i v hv)
    have hey' : ac.eval y = .slice (some ⟨c2, zo tg' z2 + o', none⟩) q my := hey
    by_cases hroom : p + q ≤ mx
    · have hfit : p * k + q * k ≤ ds.size := by
        by_cases hp : p = 0
        · have := hz0 hp
          have : q = 0 := by omega
          subst this; subst hp; simp
        · rw [hdk hp, ← Nat.add_mul]; exact Nat.mul_le_mul_right _ (by omega)
      have hst := run_storeCells_at P c (p * k) dty us 0 ds w hheap (by rw [hul]; omega) hone'
      simp only [Nat.add_zero] at hst
      generalize hnew : (ds.toList.take (p * k) ++ us ++ ds.toList.drop (p * k + us.length)).toArray = new at *
      have hnewsz : new.size = ds.size := by rw [← hnew]; simp; rw [hul]; omega
      have hrun : (Builtin.append_ #[st, st] ty #[ac.eval x, ac.eval y]).run P w = .ok (.slice (some ⟨c, 0, none⟩) (p + q) mx) (w.setRow c new) := by
        rw [hxe, hey']
        have h1 := hfy w fun _ => rfl
        simp [Builtin.append_, run_underlying hu, sizeOf, typeInfo, hinf, Builtin.lenOf, hroom, h1, hadd, hst]
      have hbel := hs.sim.below.trans (show Below B0 w (w.setRow c new) from ⟨rfl, rfl, rfl, by simp, fun k hk => setRow_other w c k new (by omega)⟩)
      have hh2 : (w.setRow c new).heap[c]? = some (.cells new dty (0, 0)) := setRow_heap w c ds new dty _ hheap
      by_cases hq : q = 0
      · subst hq
        have hu0 : us = [] := List.eq_nil_of_length_eq_zero (by simpa using hul)
        have hy0 : ys = [] := List.eq_nil_of_length_eq_zero (by simpa using hly)
        subst hu0; subst hy0
        have hnew' : new = ds := by rw [← hnew]; simp
        have hw' : w.setRow c new = w := by rw [hnew']; exact setRow_self w c ds dty (0, 0) hheap
        have hmm : m' = m := by
          rw [← hm]
          simp only [List.append_nil, Nat.add_zero]
          refine List.ext_getElem? fun i => ?_
          rw [List.getElem?_set]
          by_cases e : j = i
          · subst e; rw [if_pos rfl, if_pos (List.getElem?_eq_some_iff.1 hb).1, hb]
          · rw [if_neg e]
        refine ⟨.slice (some ⟨c, 0, none⟩) (p + 0) mx, w, r, ?_, Ext.refl r, by rw [hmm]; exact hs.sim, ?_⟩
        · simp only [execOp, resolve, invoke, builtin]
          rw [hw'] at hrun
          simp [hrun]
        · exact .base ⟨c, zc, mx, by simp [zo], hrx, .inr ⟨rfl, hp1, hp2⟩⟩
      · obtain ⟨hE, hS⟩ := hs.sim.moved hb rfl hrx rfl (show p < p + q by omega) (cells := cs ++ ys) (c' := c) (z' := zc) hbel (by simp) hh2 hB
          (by
            refine ⟨?_, ?_, fun h => absurd h (by omega)⟩
            · rw [hnewsz, List.length_append, hlc, hly]; exact hfit
            · rw [hnewsz, List.length_append, hlc, hly, ← Nat.add_mul]
              by_cases hp : p = 0
              · have := hz0 hp; omega
              · rw [hdk hp, Nat.mul_assoc, Nat.mul_comm k])
          (fun i u v hu' hv' => by
            have hv2 : (ds.toList.take (p * k) ++ us ++ ds.toList.drop (p * k + us.length))[i]? = some v := by rw [← hnew] at hv'; simpa using hv'
            have htd : (ds.toList.take (p * k)).length = p * k := by rw [List.length_take]; simp; omega
            by_cases ci : i < p * k
            · rw [List.getElem?_append_left (by omega)] at hu'
              rw [List.append_assoc, List.getElem?_append_left (by omega), List.getElem?_take, if_pos ci] at hv2
              exact hrel i u v hu' (by simpa using hv2)
            · rw [List.getElem?_append_right (by omega), hlc] at hu'
              have hi : i - p * k < ys.length := (List.getElem?_eq_some_iff.1 hu').1
              rw [List.append_assoc, List.getElem?_append_right (by omega), htd, List.getElem?_append_left (by omega)] at hv2
              exact hvu.2 _ u v hu' hv2)
          (fun k' _ hk' => setRow_other w c k' new hk') (.inl rfl)
        refine ⟨.slice (some ⟨c, 0, none⟩) (p + q) mx, _, _, ?_, hE, hm ▸ hS, .base ⟨c, zc, mx, by simp [zo], by show addT _ _ _ _ _ _ _ = _; unfold addT; rw [if_pos ⟨rfl, rfl⟩], .inr ⟨rfl, hroom, hp2⟩⟩⟩
        simp only [execOp, resolve, invoke, builtin]
        simp [hrun]
    · have hfx : (Builtin.firstCells inf.size p (.slice (some ⟨c, 0, none⟩) p mx)).run P w.drew = .ok (ds.toList.take (p * k)).toArray w.drew := by
        refine run_firstCells_some w.drew inf.size p _ p mx (ds.toList.take (p * k)) (by rw [hsz, List.length_take]; simp; omega) fun i v hv => ?_
        rw [addr_add, Nat.zero_add]
        rw [List.getElem?_take] at hv
        split at hv
        · have := cell_of_row w c i ds dty (0, 0) hheap
          show w.cell? _ = _
          rw [this]; simpa using hv
        · cases hv
      have hnfit := growslice_fits (need := p + q) (old := mx) (bytes := inf.bytes) (by omega) (by rw [hbt]; exact hbig.1)
      generalize hncap : grownCap w (p + q) mx e = ncap at *
      have hge : p + q ≤ ncap := by rw [← hncap]; exact grownCap_ge _ _ _ _
      have hrun : (Builtin.append_ #[st, st] ty #[ac.eval x, ac.eval y]).run P w = .ok (.slice (some ⟨w.heap.size, 0, none⟩) (p + q) ncap)
          (w.drew.alloc (.cells (ds.toList.take (p * k) ++ us ++ (Builtin.zeroCells z.cells (ncap - (p + q))).toList).toArray e)) := by
        rw [hxe, hey']
        have h1 := hfy w.drew fun _ => rfl
        have h63' : ¬ (9223372036854775807 < ((p : Int) + (q : Int))) := by omega
        have h48' : ¬ (281474976710656 < Builtin.nextslicecap (p + q) mx * inf.bytes) := by omega
        subst hncap
        simp [Builtin.append_, run_underlying hu, sizeOf, typeInfo, zeroValue, hinf, hz3, Builtin.lenOf, hroom, h63', h48', Question.forced, h1, hfx, newRow, grownCap]
        congr 2
        apply Array.ext'
        simp [List.append_assoc]
      have hs' := hs.sim.drew'
      have hq : p < p + q := by omega
      obtain ⟨hE, hS⟩ := Sim.moved hs' hb rfl hrx rfl hq (w' := w.drew.alloc (.cells (ds.toList.take (p * k) ++ us ++ (Builtin.zeroCells z.cells (ncap - (p + q))).toList).toArray e)) (cells := cs ++ ys) (c' := w.heap.size) (z' := ncap)
        (hs'.below.alloc (Nat.le_trans hs.sim.base.1 hs'.below.size) _) (by simp) (heap_alloc_new _ _) (Nat.le_trans hs.sim.base.1 hs.sim.below.size)
        (by
          have e1 : (ds.toList.take (p * k) ++ us ++ (Builtin.zeroCells z.cells (ncap - (p + q))).toList).toArray.size = ncap * k := by
            simp only [List.size_toArray, List.length_append, List.length_take, Array.length_toList, size_zeroCells, hzk, hul]
            rw [Nat.min_eq_left (by omega), ← Nat.add_mul, ← Nat.add_mul]
            congr 1; omega
          refine ⟨?_, ?_, fun h => absurd h (by omega)⟩
          · rw [e1, List.length_append, hlc, hly, ← Nat.add_mul]; exact Nat.mul_le_mul_right _ hge
          · rw [e1, List.length_append, hlc, hly, ← Nat.add_mul, Nat.mul_assoc, Nat.mul_comm k])
        (fun i u v hu' hv' => by
            have hv2 : (ds.toList.take (p * k) ++ us ++ (Builtin.zeroCells z.cells (ncap - (p + q))).toList)[i]? = some v := by simpa using hv'
            have htd : (ds.toList.take (p * k)).length = p * k := by rw [List.length_take]; simp; omega
            by_cases ci : i < p * k
            · rw [List.getElem?_append_left (by omega)] at hu'
              rw [List.append_assoc, List.getElem?_append_left (by omega), List.getElem?_take, if_pos ci] at hv2
              exact hrel i u v hu' (by simpa using hv2)
            · rw [List.getElem?_append_right (by omega), hlc] at hu'
              have hi : i - p * k < ys.length := (List.getElem?_eq_some_iff.1 hu').1
              rw [List.append_assoc, List.getElem?_append_right (by omega), htd, List.getElem?_append_left (by omega)] at hv2
              exact hvu.2 _ u v hu' hv2)
        (fun k' hk' _ => Below.heap_alloc _ _ _ hk') (.inr (Nat.le_refl _))
      refine ⟨.slice (some ⟨w.heap.size, 0, none⟩) (p + q) ncap, _, _, ?_, hE, hm ▸ hS, .base ⟨w.heap.size, ncap, ncap, by simp [zo], by show addT _ _ _ _ _ _ _ = _; unfold addT; rw [if_pos ⟨rfl, rfl⟩], .inr ⟨rfl, hge, Nat.le_refl _⟩⟩⟩
      simp only [execOp, resolve, invoke, builtin]
      simp [hrun]) h

/-- append: to a slice of no room. -/
theorem o_appN {st k b e : Nat} [ha : SlT P st k b e] {z : Value} [hz : TyZ P e z] {x y : Operand} {e0 : Nat} {j' o' q cp' : Nat} {tg' : Option Nat} {b' : Blk} {ys : List Value} {m' : Mem} {j : Nat}
    (hx : evalA t x = .slice none 0 e0 := by (conv => (lhs; whnf)); first | done | rfl) (he0 : e0 ≠ 2 := by decide) (hy : evalA t y = .slice (some ⟨j', o', tg'⟩) q cp' := by (conv => (lhs; whnf)); first | done | rfl)
    (hb' : m[j']? = some b' := by first | (simp only [mem_tail, mem_tail0, List.getElem?_cons_zero, List.getElem?_cons_succ]; first | done | rfl) | exact mem_head (by assumption) | assumption | (simp only [mem_tailS, mem_tailS0, List.getElem?_cons_zero, List.getElem?_cons_succ]; first | done | rfl) | exact mem_set1 (by assumption) | exact mem_set0 (by assumption) | exact mem_setN1 (by assumption) (by assumption) | exact mem_setN (by assumption) (by assumption)) (htg : b'.tag = tg' := by rfl) (hys : (b'.cells.drop o').take (q * k) = ys := by first | (simp only [List.drop_zero]; first | rfl | (refine List.take_of_length_le ?_; first | (simp only [cellsA, List.length_cons, List.length_nil, tab_len]; omega) | omega)) | rfl)
    (hk : (cellsA z).length = k := by first | rfl | (simp only [cellsA, tab_len, List.length_cons, List.length_nil, List.length_append]; done))
    (hly : ys.length = q * k := by first | rfl | assumption | (simp only [cellsA, tab_len, List.length_cons, List.length_nil, List.length_append]; first | done | omega) | (simp only [List.length_append, List.length_cons, List.length_nil, *]; first | done | omega)) (hq : 0 < q := by omega) (hbig : q * b ≤ 281474976710656 ∧ q ≤ 9223372036854775807 := by omega)
    (hm : m ++ [⟨ys, some q, true⟩] = m' := by first | (simp only [List.append_assoc, cellsA, List.cons_append, List.nil_append]; rfl) | rfl) (hj : m.length = j := by first | (simp only [List.length_append, List.length_set, List.length_cons, List.length_nil, Nat.reduceAdd, Nat.zero_add]; first | done | rfl) | rfl) (hd : Nat.blt d n = true := by rfl)
    (h : AOs P ops l K ⟨n, (d, .slice (some ⟨j, 0, some q⟩) q q) :: t, m'⟩) :
    AOs P ops (⟨some d, .call { callee := .builtin .append, args := #[x, y], argTypes := #[st, st] }, ty, pos, af, none⟩ :: l) K ⟨n, t, m⟩ :=
  AOs.gen (v := .slice (some ⟨j, 0, some q⟩) q q) (m' := m') rfl hd (fun B0 w0 r ac w hs => by
    have hx1 := hs.eval x
    have hy1 := hs.eval y
    rw [hx] at hx1
    rw [hy] at hy1
    obtain ⟨hu, inf, hinf, hsz, hbt⟩ := sl_facts (P := P) (st := st)
    have hz1 := hz.out
    rw [hinf] at hz1
    have hz3 : inf.zero = some z := hz1
    obtain ⟨a, hxe⟩ : ∃ a, ac.eval x = .slice a 0 0 := by
      cases hx1 with
      | base h => rcases h with ⟨_, ⟨_, h⟩ | ⟨_, _, _, h⟩ | ⟨h, _⟩⟩ <;> first | exact ⟨_, h⟩ | exact absurd h he0
    obtain ⟨c2, z2, my, hey, hry, _⟩ := hy1.slice_inv
    simp only at hry
    obtain ⟨us, hus, hvu⟩ := hs.sim.part hb' (by rw [htg]; exact hry) hys
    rw [htg] at hus
    have hul : us.length = q * k := by rw [← hvu.1, hly]
    have hzk : z.cells.size = k := by
      rw [← hk]
      have hc := VR.const r hz.ok
      cases z <;> first
        | (obtain ⟨ws, he, hl⟩ := hc.agg_inv; rfl)
        | rfl
    have hey' : ac.eval y = .slice (some ⟨c2, zo tg' z2 + o', none⟩) q my := hey
    have hfy : (Builtin.firstCells inf.size q (.slice (some ⟨c2, zo tg' z2 + o', none⟩) q my)).run P w.drew = .ok us.toArray w.drew :=
      run_firstCells_some w.drew inf.size q _ q my us (by rw [hsz]; exact hul) (fun i v hv => hus i v hv)
    have hfx : (Builtin.firstCells inf.size 0 (.slice a 0 0)).run P w.drew = .ok #[] w.drew := by
      cases a with
      | none => exact run_firstCells_none _ _ _ _ _
      | some a => exact run_firstCells_some w.drew inf.size 0 a 0 0 [] (by simp) (by simp)
    generalize hncap : grownCap w q 0 e = ncap at *
    have hge : q ≤ ncap := by rw [← hncap]; exact grownCap_ge _ _ _ _
    have hrun : (Builtin.append_ #[st, st] ty #[ac.eval x, ac.eval y]).run P w = .ok (.slice (some ⟨w.heap.size, 0, none⟩) q ncap)
        (w.drew.alloc (.cells (us ++ (Builtin.zeroCells z.cells (ncap - q)).toList).toArray e)) := by
      rw [hxe, hey']
      have h63' : ¬ (9223372036854775807 < (q : Int)) := by omega
      have h48' : ¬ (281474976710656 < Builtin.nextslicecap q 0 * inf.bytes) := by rw [nextslicecap_zero hq, hbt]; omega
      have hq0 : q ≠ 0 := by omega
      subst hncap
      simp [Builtin.append_, run_underlying hu, sizeOf, typeInfo, zeroValue, hinf, hz3, Builtin.lenOf, hq0, h63', h48', Question.forced, hfy, hfx, newRow, grownCap]
      try (congr 2; apply Array.ext'; simp)
    have hs' := hs.sim.drew'
    have e1 : (us ++ (Builtin.zeroCells z.cells (ncap - q)).toList).length = ncap * k := by
      simp only [List.length_append, Array.length_toList, size_zeroCells, hzk, hul]
      rw [← Nat.add_mul]
      congr 1; omega
    obtain ⟨hE, hS⟩ := hs'.pushT (xs := ys) (ys := us ++ (Builtin.zeroCells z.cells (ncap - q)).toList) (fun i u v hu' hv' => by
      have hi : i < ys.length := (List.getElem?_eq_some_iff.1 hu').1
      rw [List.getElem?_append_left (by omega)] at hv'
      exact hvu.2 i u v hu' hv') q ncap
      (by
        refine ⟨?_, ?_, fun h => absurd h (by omega)⟩
        · rw [e1, hly]; exact Nat.mul_le_mul_right _ hge
        · rw [e1, hly, Nat.mul_assoc, Nat.mul_comm k]) e
    refine ⟨.slice (some ⟨w.heap.size, 0, none⟩) q ncap, _, _, ?_, hE, hm ▸ hS, .base ⟨w.heap.size, ncap, ncap, by simp [zo], by show addT _ _ _ _ _ _ _ = _; unfold addT; rw [if_pos ⟨hj.symm, rfl⟩]; rfl, .inr ⟨rfl, hge, Nat.le_refl _⟩⟩⟩
    simp only [execOp, resolve, invoke, builtin]
    simp [hrun]) h

/-- append of nothing. -/
theorem o_app0 {st k b e : Nat} [ha : SlT P st k b e] {x y : Operand} {v : Value} {p cp e0 : Nat} {a : Option Addr} (hx : evalA t x = v := by (conv => (lhs; whnf)); first | done | rfl) (hv : v = .slice a p cp := by rfl) (hp : p ≤ cp := by omega) (hy : evalA t y = .slice none 0 e0 := by (conv => (lhs; whnf)); first | done | rfl) (he0 : e0 ≠ 2 := by decide) (hd : Nat.blt d n = true := by rfl)
    (h : AOs P ops l K ⟨n, (d, v) :: t, m⟩) :
    AOs P ops (⟨some d, .call { callee := .builtin .append, args := #[x, y], argTypes := #[st, st] }, ty, pos, af, none⟩ :: l) K ⟨n, t, m⟩ :=
  AOs.val (v := v) rfl hd (fun B0 w0 r ac w hs => by
    have hx1 := hs.eval x
    have hy1 := hs.eval y
    rw [hx] at hx1
    rw [hy] at hy1
    obtain ⟨hu, inf, hinf, hsz, hbt⟩ := sl_facts (P := P) (st := st)
    obtain ⟨a2, hye⟩ : ∃ a, ac.eval y = .slice a 0 0 := by
      cases hy1 with
      | base h => rcases h with ⟨_, ⟨_, h⟩ | ⟨_, _, _, h⟩ | ⟨h, _⟩⟩ <;> first | exact ⟨_, h⟩ | exact absurd h he0
    have hfy : (Builtin.firstCells inf.size 0 (.slice a2 0 0)).run P w = .ok #[] w := by
      cases a2 with
      | none => exact run_firstCells_none _ _ _ _ _
      | some a => exact run_firstCells_some w inf.size 0 a 0 0 [] (by simp) (by simp)
    subst hv
    obtain ⟨a', cp', hxe⟩ := hx1.slen
    have hcp : p ≤ cp' := by
      have hx2 := hx1
      rw [hxe] at hx2
      cases a with
      | some a =>
        obtain ⟨c, z, m', hy, _, hm⟩ := hx2.slice_inv
        cases hy
        rcases hm with ⟨_, h⟩ | ⟨_, h, _⟩
        · omega
        · omega
      | none => cases hx2 with | base h => obtain ⟨h, _⟩ := h; omega
    refine ⟨ac.eval x, ?_, hx1⟩
    simp only [execOp, resolve, invoke, builtin]
    have hrun : (Builtin.append_ #[st, st] ty #[ac.eval x, ac.eval y]).run P w = .ok (ac.eval x) w := by
      rw [hxe, hye]
      cases a' <;> simp [Builtin.append_, run_underlying hu, sizeOf, typeInfo, hinf, Builtin.lenOf, hcp, hfy, storeCells]
    simp [hrun]) h

/-! Slice expressions. -/
/-- x[:hi] -/
theorem o_slHi {st k b e : Nat} [ha : SlT P st k b e] {x hi : Operand} {j o ln cp : Nat} {tg : Option Nat} {ik : IntKind} {h' : Nat} (hx : evalA t x = .slice (some ⟨j, o, tg⟩) ln cp := by (conv => (lhs; whnf)); first | done | rfl) (hh : evalA t hi = .int ik (h' : Int) := by (conv => (lhs; whnf)); first | done | rfl)
    (hle : h' ≤ cp := by omega) (hcp : 0 < cp := by omega) (hd : Nat.blt d n = true := by rfl)
    (h : AOs P ops l K ⟨n, (d, .slice (some ⟨j, o, tg⟩) h' cp) :: t, m⟩) : AOs P ops (⟨some d, .slice st x none (some hi) none, ty, pos, af, none⟩ :: l) K ⟨n, t, m⟩ :=
  AOs.val (v := .slice (some ⟨j, o, tg⟩) h' cp) rfl hd (fun B0 w0 r a w hs => by
    have hx1 := hs.eval x
    have hh1 := hs.eval hi
    rw [hx] at hx1
    rw [hh] at hh1
    obtain ⟨c, z, m', he, hr, hc⟩ := hx1.slice_inv
    have hh2 := hh1.int_inv
    obtain ⟨hu, inf, hinf, hsz, _⟩ := sl_facts (P := P) (st := st)
    have hm' : cp ≤ m' := by rcases hc with ⟨_, h⟩ | ⟨_, h, _⟩ <;> omega
    refine ⟨.slice (some ⟨c, zo tg z + o, none⟩) h' m', ?_, .base ⟨c, z, m', rfl, hr, hc⟩⟩
    have h1 : h' ≤ m' := by omega
    have h2 : m' ≠ 0 := by omega
    simp [execOp, he, hh2, Instr.sliceAt, Instr.slice, Instr.sliceBounds, Instr.sliceBound, asIntOf, run_underlying hu, h1, h2, sizeOf, typeInfo, hinf, hsz, addr_add]) h
/-- x[lo:] -/
theorem o_slLo {st k b e : Nat} [ha : SlT P st k b e] {x lo : Operand} {j o o' ln cp : Nat} {tg : Option Nat} {ik : IntKind} {q ln' cp' : Nat} (hx : evalA t x = .slice (some ⟨j, o, tg⟩) ln cp := by (conv => (lhs; whnf)); first | done | rfl) (hh : evalA t lo = .int ik (q : Int) := by (conv => (lhs; whnf)); first | done | rfl)
    (hle : q ≤ ln := by omega) (hcp : q < cp := by omega) (ho : o + q * k = o' := by first | (simp only [Int.toNat_natCast, Nat.zero_add, Nat.mul_one, Nat.reduceMul, Nat.reduceAdd, Int.reduceToNat]; rfl) | rfl) (hln : ln - q = ln' := by rfl) (hcp' : cp - q = cp' := by rfl) (hd : Nat.blt d n = true := by rfl)
    (h : AOs P ops l K ⟨n, (d, .slice (some ⟨j, o', tg⟩) ln' cp') :: t, m⟩) : AOs P ops (⟨some d, .slice st x (some lo) none none, ty, pos, af, none⟩ :: l) K ⟨n, t, m⟩ :=
  AOs.val (v := .slice (some ⟨j, o', tg⟩) ln' cp') rfl hd (fun B0 w0 r a w hs => by
    subst hln; subst hcp'
    have hx1 := hs.eval x
    have hh1 := hs.eval lo
    rw [hx] at hx1
    rw [hh] at hh1
    obtain ⟨c, z, m', he, hr, hc⟩ := hx1.slice_inv
    have hh2 := hh1.int_inv
    obtain ⟨hu, inf, hinf, hsz, _⟩ := sl_facts (P := P) (st := st)
    have hm' : cp ≤ m' := by rcases hc with ⟨_, h⟩ | ⟨_, h, _⟩ <;> omega
    refine ⟨.slice (some ⟨c, zo tg z + o', none⟩) (ln - q) (m' - q), ?_, .base ⟨c, z, m' - q, rfl, hr, ?_⟩⟩
    · have h1 : q ≤ ln := by omega
      have h2 : m' ≠ q := by omega
      have h3 : zo tg z + o' = zo tg z + o + q * k := by omega
      simp [execOp, he, hh2, Instr.sliceAt, Instr.slice, Instr.sliceBounds, Instr.sliceBound, asIntOf, run_underlying hu, h1, h2, sizeOf, typeInfo, hinf, hsz, addr_add, h3]
    · rcases hc with ⟨h1, h2⟩ | ⟨h1, h2, h3⟩
      · exact .inl ⟨h1, by omega⟩
      · exact .inr ⟨h1, by omega, by omega⟩) h
/-- x[lo:hi] -/
theorem o_slLH {st k b e : Nat} [ha : SlT P st k b e] {x lo hi : Operand} {j o o' ln cp : Nat} {tg : Option Nat} {ik ik' : IntKind} {q h' ln' cp' : Nat} (hx : evalA t x = .slice (some ⟨j, o, tg⟩) ln cp := by (conv => (lhs; whnf)); first | done | rfl) (hl : evalA t lo = .int ik (q : Int) := by (conv => (lhs; whnf)); first | done | rfl) (hh : evalA t hi = .int ik' (h' : Int) := by (conv => (lhs; whnf)); first | done | rfl)
    (hle : q ≤ h' := by omega) (hle2 : h' ≤ cp := by omega) (hcp : q < cp := by omega) (ho : o + q * k = o' := by first | (simp only [Int.toNat_natCast, Nat.zero_add, Nat.mul_one, Nat.reduceMul, Nat.reduceAdd, Int.reduceToNat]; rfl) | rfl) (hln : h' - q = ln' := by rfl) (hcp' : cp - q = cp' := by rfl) (hd : Nat.blt d n = true := by rfl)
    (h : AOs P ops l K ⟨n, (d, .slice (some ⟨j, o', tg⟩) ln' cp') :: t, m⟩) : AOs P ops (⟨some d, .slice st x (some lo) (some hi) none, ty, pos, af, none⟩ :: l) K ⟨n, t, m⟩ :=
  AOs.val (v := .slice (some ⟨j, o', tg⟩) ln' cp') rfl hd (fun B0 w0 r a w hs => by
    subst hln; subst hcp'
    have hx1 := hs.eval x
    have hl1 := hs.eval lo
    have hh1 := hs.eval hi
    rw [hx] at hx1
    rw [hl] at hl1
    rw [hh] at hh1
    obtain ⟨c, z, m', he, hr, hc⟩ := hx1.slice_inv
    have hl2 := hl1.int_inv
    have hh2 := hh1.int_inv
    obtain ⟨hu, inf, hinf, hsz, _⟩ := sl_facts (P := P) (st := st)
    have hm' : cp ≤ m' := by rcases hc with ⟨_, h⟩ | ⟨_, h, _⟩ <;> omega
    refine ⟨.slice (some ⟨c, zo tg z + o', none⟩) (h' - q) (m' - q), ?_, .base ⟨c, z, m' - q, rfl, hr, ?_⟩⟩
    · have h0 : q ≤ h' := by omega
      have h1 : h' ≤ m' := by omega
      have h2 : m' ≠ q := by omega
      have h3 : zo tg z + o' = zo tg z + o + q * k := by omega
      simp [execOp, he, hl2, hh2, Instr.sliceAt, Instr.slice, Instr.sliceBounds, Instr.sliceBound, asIntOf, run_underlying hu, h0, h1, h2, sizeOf, typeInfo, hinf, hsz, addr_add, h3]
    · rcases hc with ⟨h1, h2⟩ | ⟨h1, h2, h3⟩
      · exact .inl ⟨h1, by omega⟩
      · exact .inr ⟨h1, by omega, by omega⟩) h

/-- A slice beside nil. -/
theorem o_eqNil {xt yt e : TypeId} {k b : Nat} [ha : SlT P xt k b e] {x : Operand} {a : Option Addr} {ln cp : Nat} {bb : Bool} (hx : evalA t x = .slice a ln cp := by (conv => (lhs; whnf)); first | done | rfl) (hb : (a.isNone && cp == 0) = bb := by rfl) (hb2 : (a.isNone && cp == 2) = false := by rfl) (hd : Nat.blt d n = true := by rfl)
    (h : AOs P ops l K ⟨n, (d, .bool bb) :: t, m⟩) : AOs P ops (⟨some d, .binOp .eql xt x (.const (.slice none 0 0)) yt, ty, pos, af, none⟩ :: l) K ⟨n, t, m⟩ :=
  AOs.val (v := .bool bb) rfl hd (fun B0 w0 r ac w hs => by
    have hx1 := hs.eval x
    rw [hx] at hx1
    obtain ⟨hu, _⟩ := sl_facts (P := P) (st := xt)
    have key : ∃ a', (∃ ln' cp', ac.eval x = .slice a' ln' cp') ∧ a'.isNone = bb := by
      cases a with
      | some a =>
        obtain ⟨c, z, m', he, _⟩ := hx1.slice_inv
        exact ⟨_, ⟨_, _, he⟩, by rw [← hb]; rfl⟩
      | none =>
        cases hx1 with
        | base h =>
          rcases h with ⟨_, ⟨h0, h⟩ | ⟨h0, b, o, h⟩ | ⟨h0, _⟩⟩
          · exact ⟨none, ⟨_, _, h⟩, by rw [← hb, h0]; rfl⟩
          · exact ⟨some _, ⟨_, _, h⟩, by rw [← hb, h0]; rfl⟩
          · rw [h0] at hb2; cases hb2
    obtain ⟨a', ⟨ln', cp', he⟩, hb'⟩ := key
    refine ⟨.bool bb, ?_, VR.bool r _⟩
    have hev : ac.eval (.const (.slice none 0 0)) = .slice none 0 0 := rfl
    have heq : (Op.equal xt (.slice a' ln' cp') (.slice none 0 0)).run P w = .ok a'.isNone w := by
      show (Op.equalIn (9999 + 1) xt (.slice a' ln' cp') (.slice none 0 0)).run P w = _
      unfold Op.equalIn
      cases a' <;> simp [run_underlying hu]
    rw [hb'] at heq
    simp [execOp, he, hev, eqGuard, binOp, heq]) h

end
end Go.Proofs.Ytjghdagcmombnaa
