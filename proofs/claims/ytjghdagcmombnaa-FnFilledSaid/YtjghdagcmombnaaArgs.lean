/- Arguments that lead to memory. -/
import Derived.Test.YtjghdagcmombnaaOpen

namespace Go.Proofs.Ytjghdagcmombnaa
open Go.RowKit Go.ChangeShapes Go.WideShapes Go.ChangeAt

def addZ (r : Ren) (L c z : Nat) : Ren := fun j t => if j = L ∧ t = none then some (c, z) else r j t

theorem Sim.addRo {B0 : Nat} {w0 : World} {r : Ren} {M : Mem} {w : World} (hs : Sim B0 w0 r M w) {c z : Nat} (hc : c < B0) (hcs : c < w.heap.size) {cells : List Value}
    (hcell : ∀ (i : Nat) (x : Value), cells[i]? = some x → ∃ y, w.cell? ⟨c, z + i, none⟩ = some y ∧ VR r x y) :
    Ext r (addZ r M.length c z) ∧ Sim B0 w0 (addZ r M.length c z) (M ++ [⟨cells, none, false⟩]) w := by
  have he : Ext r (addZ r M.length c z) := fun j t x h => by
    have := hs.dom_lt j t x h
    unfold addZ; rw [if_neg (by omega)]; exact h
  have rOld : ∀ {j t x}, j < M.length → addZ r M.length c z j t = some x → r j t = some x := fun {j t x} hj h => by
    unfold addZ at h; rwa [if_neg (by omega)] at h
  have rNew : addZ r M.length c z M.length none = some (c, z) := by unfold addZ; rw [if_pos ⟨rfl, rfl⟩]
  have inO : ∀ {j b}, (M ++ [(⟨cells, none, false⟩ : Blk)])[j]? = some b → (j < M.length ∧ M[j]? = some b) ∨ (j = M.length ∧ b = ⟨cells, none, false⟩) := fun {j b} hb => by
    by_cases hj : j < M.length
    · rw [List.getElem?_append_left hj] at hb; exact .inl ⟨hj, hb⟩
    · rw [List.getElem?_append_right (by omega)] at hb
      have hj2 : j = M.length := by
        have := (List.getElem?_eq_some_iff.1 hb).1; simp at this; omega
      subst hj2; simp at hb; exact .inr ⟨rfl, hb.symm⟩
  refine ⟨he, hs.below, hs.base, fun j t x h => ?_, fun j t c' z' h => ?_, fun j b hb => ?_, fun j k b b' c1 z1 z2 hb hb' hw h1 h2 => ?_⟩
  · unfold addZ at h
    split at h
    · rename_i e; obtain ⟨rfl, rfl⟩ := e
      exact ⟨⟨cells, none, false⟩, by simp, trivial⟩
    · obtain ⟨b, hb, ht⟩ := hs.dom _ _ _ h
      exact ⟨b, by rw [List.getElem?_append_left (List.getElem?_eq_some_iff.1 hb).1]; exact hb, ht⟩
  · unfold addZ at h
    split at h
    · cases h; exact hcs
    · exact hs.lt _ _ _ _ h
  · rcases inO hb with ⟨hj, hb⟩ | ⟨rfl, rfl⟩
    · rcases hs.blk j b hb with hg | ⟨c', z', hr, hok⟩
      · refine .inl ⟨hg.1, fun u => ?_⟩
        unfold addZ; rw [if_neg (fun h => by omega)]; exact hg.2 u
      refine .inr ⟨c', z', he _ _ _ hr, ?_⟩
      unfold BlkOk at hok ⊢
      split at hok
      · rename_i hrw
        rw [if_pos hrw]
        obtain ⟨hz, ds, ty, hh, hB, hlen, hcs'⟩ := hok
        exact ⟨hz, ds, ty, hh, hB, hlen, fun i x y hx hy => (hcs' i x y hx hy).mono he⟩
      · rename_i hrw
        rw [if_neg hrw]
        refine ⟨hok.1, fun i x hx => ?_⟩
        obtain ⟨y, hy, hv⟩ := hok.2 i x hx
        exact ⟨y, hy, hv.mono he⟩
    · refine .inr ⟨c, z, rNew, ?_⟩
      unfold BlkOk
      rw [if_neg (by simp)]
      exact ⟨⟨rfl, hc⟩, fun i x hx => by
        obtain ⟨y, hy, hv⟩ := hcell i x hx
        exact ⟨y, hy, hv.mono he⟩⟩
  · rcases inO hb with ⟨hj, hb⟩ | ⟨rfl, rfl⟩
    · rcases inO hb' with ⟨hk, hb'⟩ | ⟨rfl, rfl⟩
      · exact hs.inj j k b b' c1 z1 z2 hb hb' hw (rOld hj h1) (rOld hk h2)
      · exfalso
        have h2' : addZ r M.length c z M.length none = some (c1, z2) := h2
        rw [rNew] at h2'
        cases h2'
        rcases hs.blk j b hb with hg | ⟨c', z', hr, hok⟩
        · rw [hg.1.2] at hw; cases hw
        have := rOld hj h1
        rw [hr] at this
        cases this
        unfold BlkOk at hok
        rw [if_pos hw] at hok
        obtain ⟨_, _, _, _, hB, _⟩ := hok
        omega
    · cases hw

/-- What a slice of flat elements that came in looks like. -/
theorem open_slice {P : Program} {t e : TypeId} {H : Type} {enc : TypeId × Value → H} {W : World} {base : Nat} {spare : Nat → Bool} {held : Bool} {ls : List Leaf} [hl : LeafT P e ls] {b0 : Nat} {v : Value} {d : DataW H} {ps : List MemPlace}
    (ht : P.underlying t = some (.slice e)) (hv : Value.okWide P W .any b0 t v) (h : DataW.Trod enc P W base spare held t v d ps) :
    ∃ (a : Option Addr) (n cp : Nat) (F : Nat → List Value), v = .slice a n cp ∧ n ≤ cp ∧ cp ≤ maxLen ∧ (∀ i, i < n → Leaves ls (F i)) ∧
      ((a = none ∧ n = 0 ∧ cp = 0) ∨ ∃ x : Addr, a = some x ∧ x.spot = none ∧ x.block < W.heap.size ∧ ∀ i, i < n → ∀ o, o < ls.length → W.cell? ⟨x.block, x.off + (i * ls.length + o), none⟩ = (F i)[o]?) := by
  obtain ⟨a, n, cp, rfl⟩ := okWide_slice ht hv
  obtain ⟨fuel, hf⟩ := h
  rcases DataW.trod_slice ht hf with ⟨hcs, _⟩ | ⟨x, len, cap, elems, rest, m, rfl, hcs, _, hb, hlc, hm, hlen, hel, _, _⟩
  · simp [Value.cells] at hcs
    obtain ⟨rfl, rfl, rfl⟩ := hcs
    exact ⟨none, 0, 0, fun _ => [], rfl, Nat.le_refl _, Nat.zero_le _, fun i hi => absurd hi (Nat.not_lt_zero i), .inl ⟨rfl, rfl, rfl⟩⟩
  · simp [Value.cells] at hcs
    obtain ⟨rfl, rfl, rfl⟩ := hcs
    have hok : W.has P .any b0 x e cp := by
      simp only [Value.okWide, ht, Cell.okWide, Cell.ok] at hv
      exact hv.2.2
    obtain ⟨_, hsp, row, cells, hsh, _⟩ := hok
    have hblk : x.block < W.heap.size := by
      unfold World.shape? at hsh
      cases hh : W.heap[x.block]? with
      | none => rw [hh] at hsh; cases hsh
      | some o => exact (Array.getElem?_eq_some_iff.1 hh).1
    have key : ∀ i, ∃ cs, i < n → (Leaves ls cs ∧ ∀ o, o < ls.length → W.cell? ⟨x.block, x.off + (i * ls.length + o), none⟩ = cs[o]?) := fun i => by
      by_cases hi : i < n
      · have h1 := hel i hi
        rw [List.getElem?_eq_getElem (by omega), Option.bind_eq_some_iff] at h1
        obtain ⟨cs, h2, h3⟩ := h1
        rw [hl.cells] at h2
        obtain ⟨_, _, h4⟩ := World.cells?_some h2
        refine ⟨cs, fun _ => ⟨hl.op h3, fun o ho => ?_⟩⟩
        have h5 := h4 o ho
        rw [← h5]
        congr 1
        cases x
        simp only at hsp
        subst hsp
        rw [addr_add, addr_add, Nat.add_assoc]
      · exact ⟨[], fun h => absurd h hi⟩
    refine ⟨some x, n, cp, fun i => Classical.choose (key i), rfl, hlc, hm, fun i hi => (Classical.choose_spec (key i) hi).1, .inr ⟨x, rfl, hsp, hblk, fun i hi o ho => (Classical.choose_spec (key i) hi).2 o ho⟩⟩

/-- The memory with one more slice that came in. -/
theorem Sim.addSl {W : World} {r : Ren} {M : Mem} (hs : Sim W.heap.size W r M W) {ls : List Leaf} {a : Option Addr} {n cp : Nat} {F : Nat → List Value} (hF : ∀ i, i < n → Leaves ls (F i))
    (ha : (a = none ∧ n = 0 ∧ cp = 0) ∨ ∃ x : Addr, a = some x ∧ x.spot = none ∧ x.block < W.heap.size ∧ ∀ i, i < n → ∀ o, o < ls.length → W.cell? ⟨x.block, x.off + (i * ls.length + o), none⟩ = (F i)[o]?) :
    ∃ (r' : Ren) (T : Mem) (a' : Option Addr), Ext r r' ∧ Sim W.heap.size W r' (M ++ T) W ∧ VR r' (.slice a' n cp) (.slice a n cp) ∧ SlAt (M ++ T) a' n (rows n fun i => (F i).map canon) := by
  rcases ha with ⟨rfl, rfl, rfl⟩ | ⟨x, rfl, hsp, hblk, hc⟩
  · exact ⟨r, [], none, Ext.refl r, by simpa using hs, .base ⟨rfl, .inl ⟨rfl, rfl⟩⟩, SlAt.nil⟩
  · have hk : ∀ i, i < n → ((F i).map canon).length = ls.length := fun i hi => by rw [List.length_map, (hF i hi).1]
    obtain ⟨he, hs'⟩ := hs.addRo (c := x.block) (z := x.off) hblk hblk (cells := rows n fun i => (F i).map canon) (fun i y hy => by
      have hi : i < n * ls.length := by
        have := (List.getElem?_eq_some_iff.1 hy).1
        rwa [rows_len hk] at this
      have hk0 : 0 < ls.length := Nat.pos_of_ne_zero fun h => by rw [h] at hi; simp at hi
      have hq : i / ls.length < n := (Nat.div_lt_iff_lt_mul hk0).2 hi
      have hm := Nat.mod_lt i hk0
      have hei : i = i / ls.length * ls.length + i % ls.length := by rw [Nat.mul_comm]; exact (Nat.div_add_mod i _).symm
      have hy' := hy
      rw [hei, rows_get hq hk hm, List.getElem?_map] at hy'
      have hlt : i % ls.length < (F (i / ls.length)).length := by rw [(hF _ hq).1]; exact hm
      rw [List.getElem?_eq_getElem hlt] at hy'
      simp only [Option.map_some, Option.some.injEq] at hy'
      subst hy'
      have h2 := hc _ hq _ hm
      rw [← hei, List.getElem?_eq_getElem hlt] at h2
      refine ⟨_, ?_, VS_canon r ((hF _ hq).2 (i % ls.length) _ _ (List.getElem?_eq_getElem hm) (List.getElem?_eq_getElem hlt))⟩
      exact h2)
    refine ⟨_, [⟨_, none, false⟩], some ⟨M.length, 0, none⟩, he, hs', .base ⟨x.block, x.off, cp, ?_, by unfold addZ; rw [if_pos ⟨rfl, rfl⟩], .inl ⟨rfl, rfl⟩⟩, SlAt.of (rw := false) (tg := none) (by simp)⟩
    cases x
    simp only at hsp
    subst hsp
    rfl

theorem law_callsM {P : Program} {f : FuncId} {args cargs : List Value} {W : World} {M : Mem} {r : Ren} (h : Pure P f args M (.bool true)) (hs : Sim W.heap.size W r M W) (hv : VRs r args cargs) :
    Calls P f cargs.toArray W fun e W' => e = .returned (.bool true) ∧ Below W.heap.size W W' := by
  unfold Pure ACalls at h
  refine Calls.mono (h _ _ _ W cargs hs hv) fun e W' ⟨d, v, M', r', he, ⟨hR, _⟩, _, hs, hvv⟩ => ?_
  subst hR
  obtain rfl := VR.bool_inv hvv
  exact ⟨he, hs.below⟩
end Go.Proofs.Ytjghdagcmombnaa
