/- Slices: rows of elements, and the operations on them. -/
import Derived.Test.YtjghdagcmombnaaFloat
import Derived.Laws.MakeOwn
import Derived.Laws.Entries

namespace Go.Proofs.Ytjghdagcmombnaa
open Go.RowKit

/-- Elements one after the other, each of its cells. -/
def rows (n : Nat) (f : Nat → List Value) : List Value := (List.range n).flatMap f

theorem rows_zero (f : Nat → List Value) : rows 0 f = [] := rfl
theorem rows_succ (n : Nat) (f : Nat → List Value) : rows (n + 1) f = rows n f ++ f n := by
  simp [rows, List.range_succ]
theorem rows_len {k : Nat} {f : Nat → List Value} : ∀ {n : Nat}, (∀ i, i < n → (f i).length = k) → (rows n f).length = n * k
  | 0, _ => by simp [rows]
  | n + 1, h => by rw [rows_succ, List.length_append, rows_len (n := n) fun i hi => h i (by omega), h n (by omega), Nat.add_mul, Nat.one_mul]
theorem rows_congr {f g : Nat → List Value} : ∀ {n : Nat}, (∀ i, i < n → f i = g i) → rows n f = rows n g
  | 0, _ => rfl
  | n + 1, h => by rw [rows_succ, rows_succ, rows_congr (n := n) fun i hi => h i (by omega), h n (by omega)]
theorem rows_add {f : Nat → List Value} (n : Nat) : ∀ (m : Nat), rows (n + m) f = rows n f ++ rows m fun i => f (n + i)
  | 0 => by simp [rows_zero]
  | m + 1 => by rw [← Nat.add_assoc, rows_succ, rows_add n m, rows_succ, List.append_assoc]
theorem rows_tab (n : Nat) (f : Nat → Value) : rows n (fun i => [f i]) = tab n f := by
  induction n with
  | zero => rfl
  | succ n ih => rw [rows_succ, ih]; simp [tab, List.range_succ]

/-- The cells ahead of, of, and behind an element. -/
theorem rows_split {n i k : Nat} {f : Nat → List Value} (hi : i < n) (_hk : ∀ i, i < n → (f i).length = k) :
    rows n f = rows i f ++ (f i ++ rows (n - i - 1) fun q => f (i + 1 + q)) := by
  have h1 : n = (i + 1) + (n - i - 1) := by omega
  conv => lhs; rw [h1]
  rw [rows_add, rows_succ, List.append_assoc]
theorem rows_take {n i k : Nat} {f : Nat → List Value} (hi : i < n) (hk : ∀ i, i < n → (f i).length = k) : (rows n f).take (i * k) = rows i f := by
  rw [rows_split hi hk, ← rows_len (n := i) fun q hq => hk q (by omega), List.take_left]
theorem rows_drop {n i k : Nat} {f : Nat → List Value} (hi : i < n) (hk : ∀ i, i < n → (f i).length = k) : (rows n f).drop (i * k) = f i ++ rows (n - i - 1) fun q => f (i + 1 + q) := by
  rw [rows_split hi hk, ← rows_len (n := i) fun q hq => hk q (by omega), List.drop_left]
theorem rows_get {n i k o : Nat} {f : Nat → List Value} (hi : i < n) (hk : ∀ i, i < n → (f i).length = k) (ho : o < k) : (rows n f)[i * k + o]? = (f i)[o]? := by
  have h := rows_drop hi hk
  rw [← List.getElem?_drop, h, List.getElem?_append_left (by rw [hk i hi]; exact ho)]

theorem rows_le {n i k o q : Nat} {f : Nat → List Value} (hi : i < n) (hk : ∀ i, i < n → (f i).length = k) (ho : o + q ≤ k) : i * k + o + q ≤ (rows n f).length := by
  have h1 : i * k + k ≤ n * k := by
    have : (i + 1) * k ≤ n * k := Nat.mul_le_mul_right k (by omega)
    rwa [Nat.add_mul, Nat.one_mul] at this
  rw [rows_len hk]; omega
theorem rows_le0 {n i k q : Nat} {f : Nat → List Value} (hi : i < n) (hk : ∀ i, i < n → (f i).length = k) (ho : q ≤ k) : i * k + q ≤ (rows n f).length :=
  rows_le (o := 0) hi hk (by omega)

/-- Reading an element, and a field of it. -/
theorem ld_row {n i k : Nat} {f : Nat → List Value} {v : List Value} (hi : i < n) (hk : ∀ i, i < n → (f i).length = k) (hv : f i = v) : ldA (.agg k) (i * k) (rows n f) = some (.agg v.toArray) := by
  subst hv
  have h1 : i * k + k ≤ n * k := by
    have : (i + 1) * k ≤ n * k := Nat.mul_le_mul_right k (by omega)
    rwa [Nat.add_mul, Nat.one_mul] at this
  simp only [ldA]
  rw [if_pos (by rw [rows_len hk]; exact h1), rows_drop hi hk]
  have e : (f i ++ rows (n - i - 1) fun q => f (i + 1 + q)).take k = f i := by
    conv => lhs; rw [← hk i hi]
    exact List.take_left
  rw [e]
theorem ld_cell {n i k o : Nat} {f : Nat → List Value} {v : Value} (hi : i < n) (hk : ∀ i, i < n → (f i).length = k) (ho : o < k) (hv : (f i)[o]? = some v) : ldA .one (i * k + o) (rows n f) = some v := by
  show (rows n f)[i * k + o]? = _
  rw [rows_get hi hk ho, hv]
theorem ld_cell0 {n i k : Nat} {f : Nat → List Value} {v : Value} (hi : i < n) (hk : ∀ i, i < n → (f i).length = k) (ho : 0 < k) (hv : (f i)[0]? = some v) : ldA .one (i * k) (rows n f) = some v :=
  ld_cell (o := 0) hi hk ho hv
theorem rows_head {n : Nat} {f : Nat → List Value} (hi : 0 < n) : rows n f = f 0 ++ rows (n - 1) fun q => f (1 + q) := by
  obtain ⟨m, rfl⟩ : ∃ m, n = 1 + m := ⟨n - 1, by omega⟩
  rw [rows_add, show 1 + m - 1 = m by omega]
  simp [rows]
theorem ld_row00 {n k : Nat} {f : Nat → List Value} {v : List Value} (hi : 0 < n) (hk : ∀ i, i < n → (f i).length = k) (hv : f 0 = v) : ldA (.agg k) 0 (rows n f) = some (.agg v.toArray) := by
  have := ld_row (i := 0) hi hk hv
  rwa [Nat.zero_mul] at this
theorem ld_cell00 {n o : Nat} {f : Nat → List Value} {v : Value} (hi : 0 < n) (hv : (f 0)[o]? = some v) : ldA .one o (rows n f) = some v := by
  show (rows n f)[o]? = some v
  rw [rows_head hi, List.getElem?_append_left (List.getElem?_eq_some_iff.1 hv).1]; exact hv
/-- Writing an element, and a field of it. -/
theorem st_row {n i k : Nat} {f : Nat → List Value} {v : List Value} (hi : i < n) (hk : ∀ i, i < n → (f i).length = k) (hv : v.length = k) :
    (rows n f).take (i * k) ++ v ++ (rows n f).drop (i * k + v.length) = rows n fun q => if q = i then v else f q := by
  have hk' : ∀ q, q < n → ((fun q => if q = i then v else f q) q).length = k := fun q hq => by
    show (if q = i then v else f q).length = k
    split
    · exact hv
    · exact hk q hq
  have e1 : rows i (fun q => if q = i then v else f q) = rows i f := rows_congr fun q hq => by
    show (if q = i then v else f q) = f q
    rw [if_neg (by omega)]
  have e2 : (rows (n - i - 1) fun q => (fun q => if q = i then v else f q) (i + 1 + q)) = rows (n - i - 1) fun q => f (i + 1 + q) := rows_congr fun q hq => by
    show (if i + 1 + q = i then v else f (i + 1 + q)) = f (i + 1 + q)
    rw [if_neg (by omega)]
  rw [rows_split (f := fun q => if q = i then v else f q) hi hk', e1, e2, rows_take hi hk, ← List.drop_drop, rows_drop hi hk, hv, List.append_assoc]
  congr 1
  simp only [if_true]
  congr 1
  conv => lhs; rw [← hk i hi]
  exact List.drop_left
theorem st_cell {n i k o : Nat} {f : Nat → List Value} {v : Value} (hi : i < n) (hk : ∀ i, i < n → (f i).length = k) (ho : o < k) :
    (rows n f).take (i * k + o) ++ [v] ++ (rows n f).drop (i * k + o + ([v] : List Value).length) = rows n fun q => if q = i then (f i).set o v else f q := by
  have hl := hk i hi
  have h := st_row (v := (f i).set o v) hi hk (by simp [hl])
  rw [← h, rows_take hi hk, List.length_set, hl]
  have e1 : (rows n f).take (i * k + o) = rows i f ++ (f i).take o := by
    rw [List.take_add, rows_take hi hk, rows_drop hi hk, List.take_append_of_le_length (by omega)]
  have e2 : (rows n f).drop (i * k + o + ([v] : List Value).length) = (f i).drop (o + 1) ++ (rows n f).drop (i * k + k) := by
    have e3 : (rows n f).drop (i * k + k) = rows (n - i - 1) fun q => f (i + 1 + q) := by
      rw [← List.drop_drop, rows_drop hi hk]
      conv => lhs; rw [← hl]
      exact List.drop_left
    rw [e3, Nat.add_assoc, ← List.drop_drop, rows_drop hi hk]
    exact List.drop_append_of_le_length (by simp; omega)
  rw [e1, e2, List.set_eq_take_append_cons_drop, if_pos (by omega)]
  simp
theorem st_cell0 {n i k : Nat} {f : Nat → List Value} {v : Value} (hi : i < n) (hk : ∀ i, i < n → (f i).length = k) (ho : 0 < k) :
    (rows n f).take (i * k) ++ [v] ++ (rows n f).drop (i * k + ([v] : List Value).length) = rows n fun q => if q = i then (f i).set 0 v else f q := st_cell (o := 0) hi hk ho
section
variable {P : Program} {ops l : List Oper} {K : St → Prop} {n : Nat} {t : Env} {m : Mem} {d ty : Nat} {pos : String} {af : Array Edge}

theorem sl_facts {st k b e : Nat} [ha : SlT P st k b e] : P.underlying st = some (.slice e) ∧ ∃ i, P.info? e = some i ∧ i.size = k ∧ i.bytes = b := by
  have h := ha.out
  unfold slAt at h
  cases hu : P.underlying st with
  | none => rw [hu] at h; simp at h
  | some ds =>
    rw [hu] at h
    cases ds <;> simp at h
    rename_i e'
    cases hi : P.info? e' with
    | none => rw [hi] at h; simp at h
    | some i =>
      rw [hi] at h
      simp at h
      obtain ⟨hk, hb, rfl⟩ := h
      exact ⟨rfl, i, hi, hk, hb⟩

theorem VR.slen {r : Ren} {a : Option Addr} {ln cp : Nat} {y : Value} (h : VR r (.slice a ln cp) y) : ∃ a' cp', y = .slice a' ln cp' := by
  cases a with
  | some a => obtain ⟨c, z, m', hy, _⟩ := h.slice_inv; exact ⟨_, _, hy⟩
  | none => cases h with | base h => obtain ⟨rfl, ⟨_, hy⟩ | ⟨_, _, _, hy⟩ | ⟨_, _, _, hy⟩⟩ := h <;> exact ⟨_, _, hy⟩

theorem o_len {st k b e : Nat} [ha : SlT P st k b e] {x : Operand} {a : Option Addr} {ln cp : Nat} (hx : evalA t x = .slice a ln cp := by (conv => (lhs; whnf)); first | done | rfl) (hd : Nat.blt d n = true := by rfl)
    (h : AOs P ops l K ⟨n, (d, .int .i64 (ln : Int)) :: t, m⟩) : AOs P ops (⟨some d, .call { callee := .builtin .len, args := #[x], argTypes := #[st] }, ty, pos, af, none⟩ :: l) K ⟨n, t, m⟩ :=
  AOs.val (v := .int .i64 (ln : Int)) rfl hd (fun _ _ r ac w hs => by
    have h1 := hs.eval x
    rw [hx] at h1
    obtain ⟨a', cp', hy⟩ := h1.slen
    obtain ⟨hu, _⟩ := sl_facts (P := P) (st := st)
    exact ⟨.int .i64 (ln : Int), by simp [execOp, resolve, hy, invoke, builtin, Builtin.len_, run_underlying hu, goInt], VR.int r _ _⟩) h

theorem o_lenS {st : Nat} [ha : TyStr P st] {x : Operand} {s : ByteArray} (hx : evalA t x = .string s := by (conv => (lhs; whnf)); first | done | rfl) (hd : Nat.blt d n = true := by rfl)
    (h : AOs P ops l K ⟨n, (d, .int .i64 (s.size : Int)) :: t, m⟩) : AOs P ops (⟨some d, .call { callee := .builtin .len, args := #[x], argTypes := #[st] }, ty, pos, af, none⟩ :: l) K ⟨n, t, m⟩ :=
  AOs.val (v := .int .i64 (s.size : Int)) rfl hd (fun _ _ r ac w hs => by
    have h1 := hs.eval x
    rw [hx] at h1
    exact ⟨.int .i64 (s.size : Int), by simp [execOp, resolve, h1.string_inv, invoke, builtin, Builtin.len_, run_underlying ha.out, goInt], VR.int r _ _⟩) h

theorem o_ixS {st k b e : Nat} [ha : SlT P st k b e] {x ix : Operand} {j o o' ln cp : Nat} {tg : Option Nat} {ik : IntKind} {i : Int} (hx : evalA t x = .slice (some ⟨j, o, tg⟩) ln cp := by (conv => (lhs; whnf)); first | done | rfl) (hi : evalA t ix = .int ik i := by (conv => (lhs; whnf)); first | done | rfl)
    (h0 : 0 ≤ i := by omega) (h1 : i < (ln : Int) := by omega) (ho : o + i.toNat * k = o' := by first | (simp only [Int.toNat_natCast, Nat.zero_add, Nat.mul_one, Nat.reduceMul, Nat.reduceAdd, Int.reduceToNat]; rfl) | rfl) (hd : Nat.blt d n = true := by rfl)
    (h : AOs P ops l K ⟨n, (d, .pointer (some ⟨j, o', tg⟩)) :: t, m⟩) : AOs P ops (⟨some d, .indexAddr st x ix, ty, pos, af, none⟩ :: l) K ⟨n, t, m⟩ :=
  AOs.val (v := .pointer (some ⟨j, o', tg⟩)) rfl hd (fun B0 w0 r a w hs => by
    have hx1 := hs.eval x
    have hi1 := hs.eval ix
    rw [hx] at hx1
    rw [hi] at hi1
    obtain ⟨c, z, m', he, hr, _⟩ := hx1.slice_inv
    have hi2 := hi1.int_inv
    refine ⟨.pointer (some ⟨c, zo tg z + o', none⟩), ?_, .base ⟨c, z, rfl, hr⟩⟩
    obtain ⟨hu, inf, hinf, hsz, _⟩ := sl_facts (P := P) (st := st)
    have e : zo tg z + o' = zo tg z + o + i.toNat * k := by omega
    simp [execOp, he, hi2, Instr.indexAt, asIntOf, run_underlying hu, h0, h1, sizeOf, typeInfo, hinf, hsz, addr_add, e]) h

theorem made_VRs (r : Ren) {z : Value} (hz : constOk z = true) (k c : Nat) (hk : (cellsA z).length = k) : VRs r (rows c fun _ => cellsA z) (madeCells z.cells (c * k)).toList := by
  have h2 : VRs r (cellsA z) z.cells.toList := by
    have hc := VR.const r hz
    cases z <;> first
      | (obtain ⟨ys, he, hl⟩ := hc.agg_inv; cases he; exact hl)
      | exact VRs.cons hc (VRs.nil r)
  have hs : z.cells.size = k := by rw [← hk, h2.1]; simp
  refine ⟨by rw [rows_len (k := k) fun _ _ => hk]; simp [madeCells], fun i x y hx hy => ?_⟩
  have hi : i < c * k := by
    have := (List.getElem?_eq_some_iff.1 hx).1
    rwa [rows_len (k := k) fun _ _ => hk] at this
  have hk0 : 0 < k := Nat.pos_of_ne_zero fun h => by subst h; simp at hi
  have hq : i / k < c := (Nat.div_lt_iff_lt_mul hk0).2 hi
  have he : i = i / k * k + i % k := by rw [Nat.mul_comm]; exact (Nat.div_add_mod i k).symm
  rw [he, rows_get hq (fun _ _ => hk) (Nat.mod_lt _ hk0)] at hx
  simp only [madeCells, Array.toList_map, Array.toList_range, List.getElem?_map, List.getElem?_range hi, Option.map_some, Option.some.injEq] at hy
  rw [hs] at hy
  have hlt : i % k < z.cells.size := by rw [hs]; exact Nat.mod_lt _ hk0
  refine h2.2 (i % k) x y hx ?_
  rw [← hy]
  simp [hlt, getElem!_pos]

theorem o_mkS {st k b e : Nat} [ha : SlT P st k b e] {z : Value} [hz : TyZ P e z] {x y : Operand} {ik ik' : IntKind} {c : Nat} {m' : Mem} {j : Nat} (hx : evalA t x = .int ik (c : Int) := by (conv => (lhs; whnf)); first | done | rfl) (hy : evalA t y = .int ik' (c : Int) := by (conv => (lhs; whnf)); first | done | rfl)
    (hk : (cellsA z).length = k := by first | rfl | (simp only [cellsA, tab_len, List.length_cons, List.length_nil, List.length_append]; done)) (hb : b * c ≤ 281474976710656 ∧ c ≤ 9223372036854775807 := by omega)
    (hm : m ++ [⟨rows c fun _ => cellsA z, none, true⟩] = m' := by first | (simp only [List.append_assoc, cellsA, List.cons_append, List.nil_append]; rfl) | rfl) (hj : m.length = j := by first | (simp only [List.length_append, List.length_set, List.length_cons, List.length_nil, Nat.reduceAdd, Nat.zero_add]; first | done | rfl) | rfl) (hd : Nat.blt d n = true := by rfl)
    (h : AOs P ops l K ⟨n, (d, .slice (some ⟨j, 0, none⟩) c c) :: t, m'⟩) : AOs P ops (⟨some d, .makeSlice st x y, ty, pos, af, none⟩ :: l) K ⟨n, t, m⟩ :=
  AOs.gen (v := .slice (some ⟨j, 0, none⟩) c c) (m' := m') rfl hd (fun B0 w0 r a w hs => by
    have hx1 := hs.eval x
    have hy1 := hs.eval y
    rw [hx] at hx1
    rw [hy] at hy1
    obtain ⟨hu, inf, hinf, hsz, hbt⟩ := sl_facts (P := P) (st := st)
    have hz1 := hz.out
    rw [hinf] at hz1
    have hz3 : inf.zero = some z := hz1
    have h3 := hs.sim.push (made_VRs r hz.ok k c hk) none (.inl rfl) e
    have hrun := run_make w st e inf z hu hinf hz3 ik ik' (c : Int) (c : Int) (by omega) (Int.le_refl _) (by rw [hbt]; have := hb.1; rw [← Int.natCast_mul]; omega) (by have := hb.2; omega)
    refine ⟨.slice (some ⟨w.heap.size, 0, none⟩) c c, _, _, ?_, hs.sim.ext_new none w.heap.size, hm ▸ h3, .base ⟨w.heap.size, 0, c, rfl, ?_, .inl ⟨rfl, rfl⟩⟩⟩
    · simp only [execOp, hx1.int_inv, hy1.int_inv]
      rw [Sem.run_bind, hrun, Int.toNat_natCast, hsz]
      rfl
    · show addR r m.length none w.heap.size j none = _
      unfold addR; rw [if_pos ⟨hj.symm, rfl⟩]) h

theorem o_mkS1 {st b e : Nat} [ha : SlT P st 1 b e] {z : Value} [hz : TyZ P e z] {x y : Operand} {ik ik' : IntKind} {c : Nat} {m' : Mem} {j : Nat} (hx : evalA t x = .int ik (c : Int) := by (conv => (lhs; whnf)); first | done | rfl) (hy : evalA t y = .int ik' (c : Int) := by (conv => (lhs; whnf)); first | done | rfl)
    (hk : cellsA z = [z] := by rfl) (hb : b * c ≤ 281474976710656 ∧ c ≤ 9223372036854775807 := by omega)
    (hm : m ++ [⟨tab c fun _ => z, none, true⟩] = m' := by first | (simp only [List.append_assoc, cellsA, List.cons_append, List.nil_append]; rfl) | rfl) (hj : m.length = j := by first | (simp only [List.length_append, List.length_set, List.length_cons, List.length_nil, Nat.reduceAdd, Nat.zero_add]; first | done | rfl) | rfl) (hd : Nat.blt d n = true := by rfl)
    (h : AOs P ops l K ⟨n, (d, .slice (some ⟨j, 0, none⟩) c c) :: t, m'⟩) : AOs P ops (⟨some d, .makeSlice st x y, ty, pos, af, none⟩ :: l) K ⟨n, t, m⟩ :=
  o_mkS (z := z) (c := c) hx hy (by rw [hk]; rfl) hb (by rw [← hm, ← rows_tab, hk]) hj hd h

/-- Where n is not nought, the slice leads to the rows f. -/
def SlAt (M : Mem) (a : Option Addr) (n : Nat) (cs : List Value) : Prop := 0 < n → ∃ b tg rw, a = some ⟨b, 0, tg⟩ ∧ M[b]? = some ⟨cs, tg, rw⟩
theorem SlAt.append {M T : Mem} {a : Option Addr} {n : Nat} {cs : List Value} (h : SlAt M a n cs) : SlAt (M ++ T) a n cs := fun hn => by
  obtain ⟨b, tg, rw, ha, hb⟩ := h hn
  exact ⟨b, tg, rw, ha, by rw [List.getElem?_append_left (List.getElem?_eq_some_iff.1 hb).1]; exact hb⟩
theorem SlAt.of {M : Mem} {b n : Nat} {tg : Option Nat} {rw : Bool} {cs : List Value} (h : M[b]? = some ⟨cs, tg, rw⟩) : SlAt M (some ⟨b, 0, tg⟩) n cs := fun _ => ⟨b, tg, rw, rfl, h⟩
theorem SlAt.nil {M : Mem} {cs : List Value} : SlAt M none 0 cs := fun h => absurd h (Nat.lt_irrefl 0)
end
end Go.Proofs.Ytjghdagcmombnaa
