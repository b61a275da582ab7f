/- Slices that came in, within a slice that came in. -/
import Derived.Test.YtepmlgabadegfaaArgs
namespace Go.Proofs.Ytepmlgabadegfaa
open Go.RowKit Go.ChangeShapes Go.WideShapes Go.ChangeAt

/-- Where a slice that came in lies, and what it holds (of one without elements nothing is told). -/
def SlIn (W : World) (ls : List Leaf) (a : Option Addr) (n _cp : Nat) (F : Nat → List Value) : Prop :=
  n = 0 ∨ ∃ x : Addr, a = some x ∧ x.spot = none ∧ x.block < W.heap.size ∧ ∀ i, i < n → ∀ o, o < ls.length → W.cell? ⟨x.block, x.off + (i * ls.length + o), none⟩ = (F i)[o]?
/-- The memory with n more slices that came in. -/
theorem Sim.addSls {W : World} {r : Ren} {M : Mem} (hs : Sim W.heap.size W r M W) {ls : List Leaf} {A : Nat → Option Addr} {N C : Nat → Nat} {F : Nat → Nat → List Value} :
    ∀ n : Nat, (∀ j, j < n → ∀ i, i < N j → Leaves ls (F j i)) → (∀ j, j < n → SlIn W ls (A j) (N j) (C j) (F j)) →
    ∃ (r' : Ren) (T : Mem) (A' : Nat → Option Addr) (C' : Nat → Nat), Ext r r' ∧ Sim W.heap.size W r' (M ++ T) W ∧
      ∀ j, j < n → VS r' (.slice (A' j) (N j) (C' j)) (.slice (A j) (N j) (C j)) ∧ SlAt (M ++ T) (A' j) (N j) (rows (N j) fun i => (F j i).map canon)
  | 0, _, _ => ⟨r, [], fun _ => none, fun _ => 0, Ext.refl r, by simpa using hs, fun j hj => absurd hj (Nat.not_lt_zero j)⟩
  | n + 1, hF, ha => by
    obtain ⟨r1, T1, A1, C1, he1, hs1, h1⟩ := Sim.addSls hs n (fun j hj => hF j (by omega)) (fun j hj => ha j (by omega))
    have hone : ∃ (r2 : Ren) (T2 : Mem) (a2 : Option Addr) (c2 : Nat), Ext r1 r2 ∧ Sim W.heap.size W r2 (M ++ T1 ++ T2) W ∧ VS r2 (.slice a2 (N n) c2) (.slice (A n) (N n) (C n)) ∧ SlAt (M ++ T1 ++ T2) a2 (N n) (rows (N n) fun i => (F n i).map canon) := by
      rcases ha n (by omega) with h0 | hx
      · refine ⟨r1, [], none, 2, Ext.refl r1, by simpa using hs1, ?_, fun h => by omega⟩
        rw [h0]
        exact ⟨rfl, .inr (.inr ⟨rfl, _, _, rfl⟩)⟩
      · obtain ⟨r2, T2, a2, he2, hs2, hv2, hS2⟩ := hs1.addSl (cp := C n) (hF n (by omega)) (.inr hx)
        refine ⟨r2, T2, a2, C n, he2, hs2, ?_, hS2⟩
        cases hv2 with
        | base h => exact h
    obtain ⟨r2, T2, a2, c2, he2, hs2, hv2, hS2⟩ := hone
    refine ⟨r2, T1 ++ T2, fun j => if j = n then a2 else A1 j, fun j => if j = n then c2 else C1 j, he1.trans he2, by rw [← List.append_assoc]; exact hs2, fun j hj => ?_⟩
    rw [← List.append_assoc]
    by_cases e : j = n
    · subst e
      simp only [if_true]
      exact ⟨hv2, hS2⟩
    · simp only [if_neg e]
      obtain ⟨g1, g2⟩ := h1 j (by omega)
      exact ⟨g1.mono he2, g2.append⟩
/-- The memory with a slice of structs that came in, whose first cell is a slice, and the other ones flat. -/
theorem Sim.addNs {W : World} {r : Ren} {M : Mem} (hs : Sim W.heap.size W r M W) {ls lt : List Leaf} {A : Nat → Option Addr} {N C : Nat → Nat} {F : Nat → Nat → List Value} {G : Nat → List Value} {a : Option Addr} {n cp : Nat}
    (hF : ∀ j, j < n → ∀ i, i < N j → Leaves ls (F j i)) (ha : ∀ j, j < n → SlIn W ls (A j) (N j) (C j) (F j)) (hG : ∀ j, j < n → Leaves lt (G j))
    (hO : (a = none ∧ n = 0 ∧ cp = 0) ∨ ∃ x : Addr, a = some x ∧ x.spot = none ∧ x.block < W.heap.size ∧ ∀ j, j < n → ∀ o, o < 1 + lt.length → W.cell? ⟨x.block, x.off + (j * (1 + lt.length) + o), none⟩ = (Value.slice (A j) (N j) (C j) :: G j)[o]?) :
    ∃ (r' : Ren) (T : Mem) (a' : Option Addr) (A' : Nat → Option Addr) (C' : Nat → Nat), Ext r r' ∧ Sim W.heap.size W r' (M ++ T) W ∧ VR r' (.slice a' n cp) (.slice a n cp) ∧
      SlAt (M ++ T) a' n (rows n fun j => Value.slice (A' j) (N j) (C' j) :: (G j).map canon) ∧ ∀ j, j < n → SlAt (M ++ T) (A' j) (N j) (rows (N j) fun i => (F j i).map canon) := by
  obtain ⟨r1, T1, A1, C1, he1, hs1, h1⟩ := hs.addSls n hF ha
  rcases hO with ⟨rfl, rfl, rfl⟩ | ⟨x, rfl, hsp, hblk, hc⟩
  · exact ⟨r1, T1, none, A1, C1, he1, hs1, .base ⟨rfl, .inl ⟨rfl, rfl⟩⟩, SlAt.nil, fun j hj => absurd hj (Nat.not_lt_zero j)⟩
  · have hk : ∀ j, j < n → (Value.slice (A1 j) (N j) (C1 j) :: (G j).map canon).length = 1 + lt.length := fun j hj => by rw [List.length_cons, List.length_map, (hG j hj).1]; omega
    obtain ⟨he, hs'⟩ := hs1.addRo (c := x.block) (z := x.off) hblk hblk (cells := rows n fun j => Value.slice (A1 j) (N j) (C1 j) :: (G j).map canon) (fun i y hy => by
      have hi : i < n * (1 + lt.length) := by
        have := (List.getElem?_eq_some_iff.1 hy).1
        rwa [rows_len hk] at this
      have hk0 : 0 < 1 + lt.length := by omega
      have hq : i / (1 + lt.length) < n := (Nat.div_lt_iff_lt_mul hk0).2 hi
      have hm := Nat.mod_lt i hk0
      have hei : i = i / (1 + lt.length) * (1 + lt.length) + i % (1 + lt.length) := by rw [Nat.mul_comm]; exact (Nat.div_add_mod i _).symm
      have hy' := hy
      rw [hei, rows_get hq hk hm] at hy'
      have h2 := hc _ hq _ hm
      rw [← hei] at h2
      generalize i / (1 + lt.length) = j at *
      cases ho : i % (1 + lt.length) with
      | zero =>
        rw [ho] at hy' h2
        simp only [List.getElem?_cons_zero, Option.some.injEq] at hy' h2
        subst hy'
        exact ⟨_, h2, .base (h1 j hq).1⟩
      | succ o =>
        rw [ho] at hy' h2 hm
        simp only [List.getElem?_cons_succ] at hy' h2
        have hlt : o < (G j).length := by rw [(hG j hq).1]; omega
        rw [List.getElem?_map, List.getElem?_eq_getElem hlt] at hy'
        simp only [Option.map_some, Option.some.injEq] at hy'
        subst hy'
        rw [List.getElem?_eq_getElem hlt] at h2
        exact ⟨_, h2, VS_canon r1 ((hG j hq).2 o _ _ (List.getElem?_eq_getElem (by rw [← (hG j hq).1]; exact hlt)) (List.getElem?_eq_getElem hlt))⟩)
    refine ⟨_, T1 ++ [⟨_, none, false⟩], some ⟨(M ++ T1).length, 0, none⟩, A1, C1, he1.trans he, by rw [← List.append_assoc]; exact hs', .base ⟨x.block, x.off, cp, ?_, by unfold addZ; rw [if_pos ⟨rfl, rfl⟩], .inl ⟨rfl, rfl⟩⟩, ?_, fun j hj => ?_⟩
    · cases x
      simp only at hsp
      subst hsp
      rfl
    · rw [← List.append_assoc]
      exact SlAt.of (rw := false) (tg := none) (by simp)
    · rw [← List.append_assoc]
      exact (h1 j hj).2.append

theorem cell_spot {w : World} {a : Addr} {v : Value} (h : w.cell? a = some v) : a.spot = none := by
  obtain ⟨b, o, s⟩ := a
  cases s with
  | none => rfl
  | some s =>
    exfalso
    unfold World.cell? at h
    cases hh : w.heap[b]? with
    | none => simp [hh] at h
    | some q => cases q <;> simp [hh] at h

/-- What the cell of a slice of flat elements tells, that came in within another. -/
theorem inner_slice {P : Program} {t e : TypeId} {H : Type} {enc : TypeId × Value → H} {W : World} {base : Nat} {spare : Nat → Bool} {held : Bool} {ls : List Leaf} [hl : LeafT P e ls] (hls : 0 < ls.length) {fuel : Nat} {c : Value} {y : DataW H × List MemPlace}
    (ht : P.underlying t = some (.slice e)) (hf : DataW.trod enc P W base spare held fuel t [c] = some y) :
    ∃ (a : Option Addr) (n cp : Nat) (F : Nat → List Value), c = .slice a n cp ∧ n ≤ cp ∧ cp ≤ maxLen ∧ (∀ i, i < n → Leaves ls (F i)) ∧ SlIn W ls a n cp F := by
  rcases DataW.trod_slice ht hf with ⟨hcs, _⟩ | ⟨x, len, cap, elems, rest, m, rfl, hcs, _, hb, hlc, hm, hlen, hel, _, _⟩
  · simp at hcs
    subst hcs
    exact ⟨none, 0, 0, fun _ => [], rfl, Nat.le_refl _, Nat.zero_le _, fun i hi => absurd hi (Nat.not_lt_zero i), .inl rfl⟩
  · simp at hcs
    subst hcs
    have key0 : ∀ i, ∃ cs, i < len → (Leaves ls cs ∧ ∀ o, o < ls.length → W.cell? ((x.add (i * ls.length)).add o) = cs[o]?) := fun i => by
      by_cases hi : i < len
      · have h1 := hel i hi
        rw [List.getElem?_eq_getElem (by omega), Option.bind_eq_some_iff] at h1
        obtain ⟨cs, h2, h3⟩ := h1
        rw [hl.cells] at h2
        obtain ⟨_, _, h4⟩ := World.cells?_some h2
        exact ⟨cs, fun _ => ⟨hl.op h3, h4⟩⟩
      · exact ⟨[], fun h => absurd h hi⟩
    by_cases h0 : len = 0
    · exact ⟨some x, len, cap, fun i => Classical.choose (key0 i), rfl, hlc, hm, fun i hi => (Classical.choose_spec (key0 i) hi).1, .inl h0⟩
    · obtain ⟨cs0, hcs0⟩ := key0 0
      obtain ⟨hL, hcl⟩ := hcs0 (by omega)
      obtain ⟨v0, hv0⟩ : ∃ v, cs0[0]? = some v := ⟨_, List.getElem?_eq_getElem (by rw [hL.1]; exact hls)⟩
      have hc0 := hcl 0 hls
      rw [hv0] at hc0
      clear hcs0 hcl hv0
      have hsp0 := cell_spot hc0
      have hsp : x.spot = none := by
        obtain ⟨b, o, s⟩ := x
        cases s with
        | none => rfl
        | some s => unfold Addr.add at hsp0; simp at hsp0
      have hblk : x.block < W.heap.size := by
        by_cases hn : x.block < W.heap.size
        · exact hn
        · exfalso
          obtain ⟨b, o, s⟩ := x
          simp only at hsp hn
          subst hsp
          rw [addr_add, addr_add] at hc0
          have h0 : W.heap[b]? = none := Array.getElem?_eq_none (by omega)
          simp [World.cell?, h0] at hc0
      refine ⟨some x, len, cap, fun i => Classical.choose (key0 i), rfl, hlc, hm, fun i hi => (Classical.choose_spec (key0 i) hi).1, .inr ⟨x, rfl, hsp, hblk, fun i hi o ho => ?_⟩⟩
      rw [← (Classical.choose_spec (key0 i) hi).2 o ho]
      congr 1
      cases x
      simp only at hsp
      subst hsp
      rw [addr_add, addr_add, Nat.add_assoc]

/-- What a slice of structs that came in looks like, whose first field is a slice of flat elements, and the other ones flat. -/
theorem open_slP {P : Program} {t s st e : TypeId} {H : Type} {enc : TypeId × Value → H} {W : World} {base : Nat} {spare : Nat → Bool} {held : Bool} {ls lt lt' : List Leaf} [hl : LeafT P e ls] (hls : 0 < ls.length) {b0 : Nat} {v : Value} {d : DataW H} {ps : List MemPlace} {fs : Array Field}
    (ht : P.underlying t = some (.slice s)) (hs : P.underlying s = some (.struct fs)) (hst : P.underlying st = some (.slice e)) (hfr : FL P fs.toList.tail 1 lt') (hlt : lt' = lt) (hf00 : fs[0]?.map (fun f => (f.type, f.offset)) = some (st, 0)) (hc : P.cellsOf s = 1 + lt.length) (hcs : P.cellsOf st = 1)
    (hv : Value.okWide P W .any b0 t v) (h : DataW.Trod enc P W base spare held t v d ps) :
    ∃ (a : Option Addr) (n cp : Nat) (A : Nat → Option Addr) (N C : Nat → Nat) (F : Nat → Nat → List Value) (G : Nat → List Value), v = .slice a n cp ∧ n ≤ cp ∧ cp ≤ maxLen ∧ (∀ j, j < n → N j ≤ maxLen) ∧ (∀ j, j < n → ∀ i, i < N j → Leaves ls (F j i)) ∧
      (∀ j, j < n → SlIn W ls (A j) (N j) (C j) (F j)) ∧ (∀ j, j < n → Leaves lt (G j)) ∧
      ((a = none ∧ n = 0 ∧ cp = 0) ∨ ∃ x : Addr, a = some x ∧ x.spot = none ∧ x.block < W.heap.size ∧ ∀ j, j < n → ∀ o, o < 1 + lt.length → W.cell? ⟨x.block, x.off + (j * (1 + lt.length) + o), none⟩ = (Value.slice (A j) (N j) (C j) :: G j)[o]?) := by
  subst hlt
  obtain ⟨f0, hf0e, hf0⟩ : ∃ f0, fs[0]? = some f0 ∧ (f0.type = st ∧ f0.offset = 0) := by
    cases h : fs[0]? with
    | none => rw [h] at hf00; cases hf00
    | some f => rw [h] at hf00; simp at hf00; exact ⟨f, rfl, hf00⟩
  obtain ⟨frest, hfs⟩ : ∃ frest, fs.toList = f0 :: frest := by
    rw [← Array.getElem?_toList] at hf0e
    cases hq : fs.toList with
    | nil => rw [hq] at hf0e; cases hf0e
    | cons x xs => rw [hq] at hf0e; simp at hf0e; subst hf0e; exact ⟨xs, rfl⟩
  rw [hfs, List.tail_cons] at hfr
  obtain ⟨a, n, cp, rfl⟩ := okWide_slice ht hv
  obtain ⟨fuel, hf⟩ := h
  rcases DataW.trod_slice ht hf with ⟨hcs', _⟩ | ⟨x, len, cap, elems, rest, m, rfl, hcs', _, hb, hlc, hm, hlen, hel, _, _⟩
  · simp [Value.cells] at hcs'
    obtain ⟨rfl, rfl, rfl⟩ := hcs'
    exact ⟨none, 0, 0, fun _ => none, fun _ => 0, fun _ => 0, fun _ _ => [], fun _ => [], rfl, Nat.le_refl _, Nat.zero_le _, fun i hi => absurd hi (Nat.not_lt_zero i), fun i hi => absurd hi (Nat.not_lt_zero i), fun i hi => absurd hi (Nat.not_lt_zero i), fun i hi => absurd hi (Nat.not_lt_zero i), .inl ⟨rfl, rfl, rfl⟩⟩
  · simp [Value.cells] at hcs'
    obtain ⟨rfl, rfl, rfl⟩ := hcs'
    have hok : W.has P .any b0 x s cp := by
      simp only [Value.okWide, ht, Cell.okWide, Cell.ok] at hv
      exact hv.2.2
    obtain ⟨_, hsp, row, cells, hsh, _⟩ := hok
    have hblk : x.block < W.heap.size := by
      unfold World.shape? at hsh
      cases hh : W.heap[x.block]? with
      | none => rw [hh] at hsh; cases hsh
      | some o => exact (Array.getElem?_eq_some_iff.1 hh).1
    have key : ∀ j, ∃ (z : Option Addr × Nat × Nat) (F : Nat → List Value) (G : List Value), j < n → (z.2.1 ≤ maxLen ∧ (∀ i, i < z.2.1 → Leaves ls (F i)) ∧ SlIn W ls z.1 z.2.1 z.2.2 F ∧ Leaves lt' G ∧
        ∀ o, o < 1 + lt'.length → W.cell? ⟨x.block, x.off + (j * (1 + lt'.length) + o), none⟩ = (Value.slice z.1 z.2.1 z.2.2 :: G)[o]?) := fun j => by
      by_cases hj : j < n
      · have h1 := hel j hj
        rw [List.getElem?_eq_getElem (by omega), Option.bind_eq_some_iff] at h1
        obtain ⟨cs, h2, h3⟩ := h1
        rw [hc] at h2
        obtain ⟨_, hcl, h4⟩ := World.cells?_some h2
        obtain ⟨xs, m', rfl, _, hlc', hx, hi⟩ := DataW.trod_struct hs h3
        obtain ⟨c0, crest, rfl⟩ : ∃ c0 crest, cs = c0 :: crest := by
          cases cs with
          | nil => simp only [List.length_nil] at hcl; omega
          | cons c r => exact ⟨c, r, rfl⟩
        cases xs with
        | nil => simp only [List.length_nil] at hx; rw [← Array.length_toList, hfs] at hx; simp at hx
        | cons x0 xs =>
          have h0 := hi 0 f0 hf0e
          rw [hf0.1, hf0.2, hcs] at h0
          simp only [List.drop_zero, List.getElem?_cons_zero] at h0
          obtain ⟨a', n', cp', F, rfl, k1, k2, k3, k4⟩ := inner_slice hls hst h0
          have hlv := FL.leaves hfr (Value.slice a' n' cp' :: crest) xs (by rw [← Array.length_toList, hfs] at hx; simpa using hx) hcl fun i g hg => by
            have := hi (i + 1) g (by rw [← Array.getElem?_toList, hfs]; simpa using hg)
            simpa using this
          refine ⟨(a', n', cp'), F, crest, fun _ => ⟨Nat.le_trans k1 k2, k3, k4, by simpa using hlv, fun o ho => ?_⟩⟩
          rw [← h4 o ho]
          congr 1
          cases x
          simp only at hsp
          subst hsp
          rw [addr_add, addr_add, Nat.add_assoc]
      · exact ⟨(none, 0, 0), fun _ => [], [], fun h => absurd h hj⟩
    have z1 := fun j hj => Classical.choose_spec (Classical.choose_spec (Classical.choose_spec (key j))) hj
    exact ⟨some x, n, cp, fun j => (Classical.choose (key j)).1, fun j => (Classical.choose (key j)).2.1, fun j => (Classical.choose (key j)).2.2, fun j => Classical.choose (Classical.choose_spec (key j)), fun j => Classical.choose (Classical.choose_spec (Classical.choose_spec (key j))), rfl, hlc, hm,
      fun j hj => (z1 j hj).1, fun j hj => (z1 j hj).2.1, fun j hj => (z1 j hj).2.2.1, fun j hj => (z1 j hj).2.2.2.1, .inr ⟨x, rfl, hsp, hblk, fun j hj o ho => (z1 j hj).2.2.2.2 o ho⟩⟩
end Go.Proofs.Ytepmlgabadegfaa
