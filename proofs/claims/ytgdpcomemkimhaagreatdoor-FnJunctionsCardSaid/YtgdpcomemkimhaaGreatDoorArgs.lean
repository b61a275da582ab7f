/- What an argument of a law looks like, and what a pure call says of a law. -/
import Derived.Test.YtgdpcomemkimhaaGreatDoorStep
import Derived.WalkKit
import Derived.ProofKit
import Derived.OpenShut
import Derived.ShutString
import Derived.ChangeOld
import Derived.Below
import Derived.Test.YtgdpcomemkimhaaGreatDoorAlloc

namespace Go.Proofs.YtgdpcomemkimhaaGreatDoor
open Go.RowKit Go.ChangeShapes Go.WideShapes Go.ChangeAt

/-- The kinds of cells of a type without pointers. -/
inductive Leaf where
  | bool
  | int (k : IntKind)
  | float (k : FloatKind)
  | str

def LeafOk : Leaf → Value → Prop
  | .bool, c => ∃ b, c = .bool b
  | .int k, c => ∃ n, c = .int k n ∧ (Lit.int k n).wf = true
  | .float k, c => ∃ b, c = .float k b ∧ (Lit.float k b).wf = true
  | .str, c => ∃ s : ByteArray, c = .string s ∧ s.size ≤ maxLen

def Leaves (ls : List Leaf) (cs : List Value) : Prop := cs.length = ls.length ∧ ∀ (i : Nat) l c, ls[i]? = some l → cs[i]? = some c → LeafOk l c

class LeafT (P : Program) (t : TypeId) (ls : outParam (List Leaf)) : Prop where
  cells : P.cellsOf t = ls.length
  op : ∀ {H : Type} {enc : TypeId × Value → H} {w : World} {base : Nat} {spare : Nat → Bool} {held : Bool} {fuel : Nat} {cs : List Value} {x : DataW H × List MemPlace},
    DataW.trod enc P w base spare held fuel t cs = some x → Leaves ls cs

theorem Leaves.one {l : Leaf} {c : Value} (h : LeafOk l c) : Leaves [l] [c] := ⟨rfl, fun i a b h1 h2 => by
  cases i with
  | zero => simp at h1 h2; subst h1; subst h2; exact h
  | succ i => simp at h1⟩

theorem Leaves.append {l1 l2 : List Leaf} {c1 c2 : List Value} (h1 : Leaves l1 c1) (h2 : Leaves l2 c2) : Leaves (l1 ++ l2) (c1 ++ c2) := by
  refine ⟨by simp [h1.1, h2.1], fun i l c e1 e2 => ?_⟩
  by_cases hi : i < l1.length
  · rw [List.getElem?_append_left hi] at e1
    rw [List.getElem?_append_left (by rw [h1.1]; exact hi)] at e2
    exact h1.2 i l c e1 e2
  · rw [List.getElem?_append_right (by omega)] at e1
    rw [List.getElem?_append_right (by rw [h1.1]; omega), h1.1] at e2
    exact h2.2 _ l c e1 e2

theorem Leaves.split {l1 l2 : List Leaf} {cs : List Value} (h : Leaves (l1 ++ l2) cs) : ∃ c1 c2, cs = c1 ++ c2 ∧ Leaves l1 c1 ∧ Leaves l2 c2 := by
  refine ⟨cs.take l1.length, cs.drop l1.length, (List.take_append_drop _ _).symm, ⟨?_, fun i l c e1 e2 => ?_⟩, ⟨?_, fun i l c e1 e2 => ?_⟩⟩
  · have := h.1; simp at this; simp; omega
  · have hi : i < l1.length := (List.getElem?_eq_some_iff.mp e1).1
    rw [List.getElem?_take_of_lt hi] at e2
    exact h.2 i l c (by rw [List.getElem?_append_left hi]; exact e1) e2
  · have := h.1; simp at this; simp; omega
  · rw [List.getElem?_drop] at e2
    exact h.2 _ l c (by rw [List.getElem?_append_right (by omega)]; simpa using e1) e2

theorem Leaves.nil {cs : List Value} (h : Leaves [] cs) : cs = [] := List.eq_nil_of_length_eq_zero h.1
theorem Leaves.cons {l : Leaf} {ls : List Leaf} {cs : List Value} (h : Leaves (l :: ls) cs) : ∃ c cs', cs = c :: cs' ∧ LeafOk l c ∧ Leaves ls cs' := by
  obtain ⟨c1, c2, rfl, h1, h2⟩ := Leaves.split (l1 := [l]) h
  match c1, h1 with
  | [c], h1 => exact ⟨c, c2, rfl, h1.2 0 l c rfl rfl, h2⟩

section
variable {P : Program} {t : TypeId}
theorem LeafT.bool (ht : P.underlying t = some .bool) (hc : P.cellsOf t = 1) : LeafT P t [.bool] := ⟨hc, fun h => by
  obtain ⟨b, rfl, _⟩ := DataW.trod_bool ht h; exact .one ⟨b, rfl⟩⟩
theorem LeafT.int {k : IntKind} (ht : P.underlying t = some (.int k)) (hc : P.cellsOf t = 1) : LeafT P t [.int k] := ⟨hc, fun h => by
  obtain ⟨n, rfl, _, hw⟩ := DataW.trod_int ht h; exact .one ⟨n, rfl, hw⟩⟩
theorem LeafT.str (ht : P.underlying t = some .string) (hc : P.cellsOf t = 1) : LeafT P t [.str] := ⟨hc, fun h => by
  obtain ⟨s, rfl, _, hw⟩ := DataW.trod_string ht h; exact .one ⟨s, rfl, hw⟩⟩
theorem trod_float {H : Type} {enc : TypeId × Value → H} {w : World} {base : Nat} {spare : Nat → Bool} {held : Bool} {fuel : Nat} {cs : List Value} {x : DataW H × List MemPlace} {k : FloatKind}
    (ht : P.underlying t = some (.float k)) (h : DataW.trod enc P w base spare held fuel t cs = some x) : ∃ n, cs = [.float k n] ∧ (Lit.float k n).wf = true := by
  cases fuel with
  | zero => simp [DataW.trod] at h
  | succ n =>
    unfold DataW.trod at h
    rw [ht] at h
    split at h <;> simp_all
theorem LeafT.float {k : FloatKind} (ht : P.underlying t = some (.float k)) (hc : P.cellsOf t = 1) : LeafT P t [.float k] := ⟨hc, fun h => by
  obtain ⟨n, rfl, hw⟩ := trod_float ht h; exact .one ⟨n, rfl, hw⟩⟩

def rep : Nat → List Leaf → List Leaf
  | 0, _ => []
  | n + 1, ls => ls ++ rep n ls
theorem rep_len (ls : List Leaf) : ∀ n, (rep n ls).length = n * ls.length
  | 0 => by simp [rep]
  | n + 1 => by simp [rep, rep_len ls n, Nat.add_mul, Nat.add_comm]

theorem Leaves.rep {ls : List Leaf} : ∀ (n : Nat) (cs : List Value), cs.length = n * ls.length → (∀ i, i < n → Leaves ls ((cs.drop (i * ls.length)).take ls.length)) → Leaves (rep n ls) cs
  | 0, cs, hl, _ => by
    have : cs = [] := List.eq_nil_of_length_eq_zero (by simpa using hl)
    subst this; exact ⟨rfl, by simp [Go.Proofs.YtgdpcomemkimhaaGreatDoor.rep]⟩
  | n + 1, cs, hl, h => by
    have h0 := h 0 (by omega)
    simp at h0
    have := Leaves.append h0 (Leaves.rep (ls := ls) n (cs.drop ls.length) (by simp [hl, Nat.add_mul]) fun i hi => by
      have := h (i + 1) (by omega)
      rw [List.drop_drop]
      rwa [Nat.add_mul, Nat.one_mul, Nat.add_comm] at this)
    rwa [List.take_append_drop] at this

theorem LeafT.array {e : TypeId} {n : Nat} {ls ks : List Leaf} [he : LeafT P e ls] (ht : P.underlying t = some (.array n e)) (hc : P.cellsOf t = n * ls.length) (hk : Go.Proofs.YtgdpcomemkimhaaGreatDoor.rep n ls = ks) : LeafT P t ks := by
  subst hk
  refine ⟨by rw [hc, rep_len], fun h => ?_⟩
  obtain ⟨xs, m, rfl, rfl, hl, hx, hi⟩ := DataW.trod_array ht h
  refine Leaves.rep n _ (by rw [hl, hc]) fun i hin => ?_
  have h1 := hi i hin
  rw [List.getElem?_eq_getElem (by omega), he.cells] at h1
  exact he.op h1

inductive FL (P : Program) : List Field → Nat → List Leaf → Prop
  | nil {o : Nat} : FL P [] o []
  | cons {f : Field} {fs : List Field} {o : Nat} {lf ls : List Leaf} (h : LeafT P f.type lf) (ho : f.offset = o) (hs : FL P fs (o + lf.length) ls) : FL P (f :: fs) o (lf ++ ls)

theorem FL.leaves {H : Type} {enc : TypeId × Value → H} {w : World} {base : Nat} {spare : Nat → Bool} {held : Bool} {m : Nat} {fs : List Field} {o : Nat} {ls : List Leaf} (h : FL P fs o ls) :
    ∀ (cs : List Value) (xs : List (DataW H × List MemPlace)), xs.length = fs.length → cs.length = o + ls.length →
      (∀ (i : Nat) (f : Field), fs[i]? = some f → DataW.trod enc P w base spare held m f.type ((cs.drop f.offset).take (P.cellsOf f.type)) = xs[i]?) → Leaves ls (cs.drop o) := by
  induction h with
  | nil => intro cs xs _ hl _; simp at hl; rw [← hl]; simp; exact ⟨rfl, by simp⟩
  | @cons f fs o lf ls h ho hs ih =>
    intro cs xs hx hl hi
    subst ho
    cases xs with
    | nil => simp at hx
    | cons x xs =>
      have h0 := hi 0 f rfl
      simp only [List.getElem?_cons_zero, h.cells] at h0
      have h1 := ih cs xs (by simpa using hx) (by simp at hl; omega) fun i g hg => by simpa using hi (i + 1) g (by simpa using hg)
      have h2 := Leaves.append (h.op h0) h1
      rwa [← List.drop_drop, List.take_append_drop] at h2

theorem LeafT.struct {fs : Array Field} {ls ks : List Leaf} (ht : P.underlying t = some (.struct fs)) (hf : FL P fs.toList 0 ls) (hc : P.cellsOf t = ls.length) (hk : ls = ks) : LeafT P t ks := by
  subst hk
  refine ⟨hc, fun h => ?_⟩
  obtain ⟨xs, m, rfl, rfl, hl, hx, hi⟩ := DataW.trod_struct ht h
  simpa using FL.leaves hf _ xs (by simpa using hx) (by rw [hl, hc]; simp) fun i f e => hi i f (by simpa using e)

end

/-- What a walk sees of a cell that came in. -/
def canon : Value → Value
  | .float k b => .float k (cf k b)
  | v => v

theorem flt_wf {k : FloatKind} {b : Nat} (h : (Lit.float k b).wf = true) : b < fmax k := by
  cases k <;> simpa [Lit.wf, fmax] using h

theorem VS_canon (r : Ren) {l : Leaf} {c : Value} (h : LeafOk l c) : VR r (canon c) c := by
  cases l <;> obtain ⟨b, rfl, hb⟩ := h
  all_goals first | exact .base rfl | exact .base ⟨b, rfl, rfl, flt_wf hb⟩

/-! ### Cells by their kinds, as tables -/
/-! ### A law -/
theorem Sim.start (W : World) (hg : Good W.heap.size W := by first | assumption | (unfold Good; exact trivial)) : Sim W.heap.size W (fun _ _ => none) [] W :=
  ⟨Below.refl _ _, ⟨Nat.le_refl _, hg⟩, by simp, by simp, by simp, by simp⟩

end Go.Proofs.YtgdpcomemkimhaaGreatDoor

/- Arguments that lead to memory. -/
namespace Go.Proofs.YtgdpcomemkimhaaGreatDoor
open Go.RowKit Go.ChangeShapes Go.WideShapes Go.ChangeAt

def addZ (r : Ren) (L c z : Nat) : Ren := fun j t => if j = L ∧ t = none then some (c, z) else r j t

theorem Sim.addRo {B0 : Nat} {w0 : World} {r : Ren} {M : Mem} {w : World} (hs : Sim B0 w0 r M w) {c z : Nat} (hc : c < B0) (hcs : c < w.heap.size) {cells : List Value}
    (hcell : ∀ (i : Nat) (x : Value), cells[i]? = some x → ∃ y, w.cell? ⟨c, z + i, none⟩ = some y ∧ VR r x y) :
    Ext r (addZ r M.length c z) ∧ Sim B0 w0 (addZ r M.length c z) (M ++ [⟨cells, none, false⟩]) w := by
  have he : Ext r (addZ r M.length c z) := fun j t x h => by
    have := hs.dom_lt j t x h
    unfold addZ; rw [if_neg (by omega)]; exact h
  have rOld : ∀ {j t x}, j < M.length → addZ r M.length c z j t = some x → r j t = some x := fun {j t x} hj h => by
    unfold addZ at h; rwa [if_neg (by omega)] at h
  have rNew : addZ r M.length c z M.length none = some (c, z) := by unfold addZ; rw [if_pos ⟨rfl, rfl⟩]
  have inO : ∀ {j b}, (M ++ [(⟨cells, none, false⟩ : Blk)])[j]? = some b → (j < M.length ∧ M[j]? = some b) ∨ (j = M.length ∧ b = ⟨cells, none, false⟩) := fun {j b} hb => by
    by_cases hj : j < M.length
    · rw [List.getElem?_append_left hj] at hb; exact .inl ⟨hj, hb⟩
    · rw [List.getElem?_append_right (by omega)] at hb
      have hj2 : j = M.length := by
        have := (List.getElem?_eq_some_iff.1 hb).1; simp at this; omega
      subst hj2; simp at hb; exact .inr ⟨rfl, hb.symm⟩
  refine ⟨he, hs.below, hs.base, fun j t x h => ?_, fun j t c' z' h => ?_, fun j b hb => ?_, fun j k b b' c1 z1 z2 hb hb' hw h1 h2 => ?_⟩
  · unfold addZ at h
    split at h
    · rename_i e; obtain ⟨rfl, rfl⟩ := e
      exact ⟨⟨cells, none, false⟩, by simp, trivial⟩
    · obtain ⟨b, hb, ht⟩ := hs.dom _ _ _ h
      exact ⟨b, by rw [List.getElem?_append_left (List.getElem?_eq_some_iff.1 hb).1]; exact hb, ht⟩
  · unfold addZ at h
    split at h
    · cases h; exact hcs
    · exact hs.lt _ _ _ _ h
  · rcases inO hb with ⟨hj, hb⟩ | ⟨rfl, rfl⟩
    · rcases hs.blk j b hb with hg | ⟨c', z', hr, hok⟩
      · refine .inl ⟨hg.1, fun u => ?_⟩
        unfold addZ; rw [if_neg (fun h => by omega)]; exact hg.2 u
      refine .inr ⟨c', z', he _ _ _ hr, ?_⟩
      unfold BlkOk at hok ⊢
      split at hok
      · rename_i hrw
        rw [if_pos hrw]
        obtain ⟨hz, ds, ty, hh, hB, hlen, hcs'⟩ := hok
        exact ⟨hz, ds, ty, hh, hB, hlen, fun i x y hx hy => (hcs' i x y hx hy).mono he⟩
      · rename_i hrw
        rw [if_neg hrw]
        refine ⟨hok.1, fun i x hx => ?_⟩
        obtain ⟨y, hy, hv⟩ := hok.2 i x hx
        exact ⟨y, hy, hv.mono he⟩
    · refine .inr ⟨c, z, rNew, ?_⟩
      unfold BlkOk
      rw [if_neg (by simp)]
      exact ⟨⟨rfl, hc⟩, fun i x hx => by
        obtain ⟨y, hy, hv⟩ := hcell i x hx
        exact ⟨y, hy, hv.mono he⟩⟩
  · rcases inO hb with ⟨hj, hb⟩ | ⟨rfl, rfl⟩
    · rcases inO hb' with ⟨hk, hb'⟩ | ⟨rfl, rfl⟩
      · exact hs.inj j k b b' c1 z1 z2 hb hb' hw (rOld hj h1) (rOld hk h2)
      · exfalso
        have h2' : addZ r M.length c z M.length none = some (c1, z2) := h2
        rw [rNew] at h2'
        cases h2'
        rcases hs.blk j b hb with hg | ⟨c', z', hr, hok⟩
        · rw [hg.1.2] at hw; cases hw
        have := rOld hj h1
        rw [hr] at this
        cases this
        unfold BlkOk at hok
        rw [if_pos hw] at hok
        obtain ⟨_, _, _, _, hB, _⟩ := hok
        omega
    · cases hw

/-- What a slice of flat elements that came in looks like. -/
theorem open_slice {P : Program} {t e : TypeId} {H : Type} {enc : TypeId × Value → H} {W : World} {base : Nat} {spare : Nat → Bool} {held : Bool} {ls : List Leaf} [hl : LeafT P e ls] {b0 : Nat} {v : Value} {d : DataW H} {ps : List MemPlace}
    (ht : P.underlying t = some (.slice e)) (hv : Value.okWide P W .any b0 t v) (h : DataW.Trod enc P W base spare held t v d ps) :
    ∃ (a : Option Addr) (n cp : Nat) (F : Nat → List Value), v = .slice a n cp ∧ n ≤ cp ∧ cp ≤ maxLen ∧ (∀ i, i < n → Leaves ls (F i)) ∧
      ((a = none ∧ n = 0 ∧ cp = 0) ∨ ∃ x : Addr, a = some x ∧ x.spot = none ∧ x.block < W.heap.size ∧ ∀ i, i < n → ∀ o, o < ls.length → W.cell? ⟨x.block, x.off + (i * ls.length + o), none⟩ = (F i)[o]?) := by
  obtain ⟨a, n, cp, rfl⟩ := okWide_slice ht hv
  obtain ⟨fuel, hf⟩ := h
  rcases DataW.trod_slice ht hf with ⟨hcs, _⟩ | ⟨x, len, cap, elems, rest, m, rfl, hcs, _, hb, hlc, hm, hlen, hel, _, _⟩
  · simp [Value.cells] at hcs
    obtain ⟨rfl, rfl, rfl⟩ := hcs
    exact ⟨none, 0, 0, fun _ => [], rfl, Nat.le_refl _, Nat.zero_le _, fun i hi => absurd hi (Nat.not_lt_zero i), .inl ⟨rfl, rfl, rfl⟩⟩
  · simp [Value.cells] at hcs
    obtain ⟨rfl, rfl, rfl⟩ := hcs
    have hok : W.has P .any b0 x e cp := by
      simp only [Value.okWide, ht, Cell.okWide, Cell.ok] at hv
      exact hv.2.2
    obtain ⟨_, hsp, row, cells, hsh, _⟩ := hok
    have hblk : x.block < W.heap.size := by
      unfold World.shape? at hsh
      cases hh : W.heap[x.block]? with
      | none => rw [hh] at hsh; cases hsh
      | some o => exact (Array.getElem?_eq_some_iff.1 hh).1
    have key : ∀ i, ∃ cs, i < n → (Leaves ls cs ∧ ∀ o, o < ls.length → W.cell? ⟨x.block, x.off + (i * ls.length + o), none⟩ = cs[o]?) := fun i => by
      by_cases hi : i < n
      · have h1 := hel i hi
        rw [List.getElem?_eq_getElem (by omega), Option.bind_eq_some_iff] at h1
        obtain ⟨cs, h2, h3⟩ := h1
        rw [hl.cells] at h2
        obtain ⟨_, _, h4⟩ := World.cells?_some h2
        refine ⟨cs, fun _ => ⟨hl.op h3, fun o ho => ?_⟩⟩
        have h5 := h4 o ho
        rw [← h5]
        congr 1
        cases x
        simp only at hsp
        subst hsp
        rw [addr_add, addr_add, Nat.add_assoc]
      · exact ⟨[], fun h => absurd h hi⟩
    refine ⟨some x, n, cp, fun i => Classical.choose (key i), rfl, hlc, hm, fun i hi => (Classical.choose_spec (key i) hi).1, .inr ⟨x, rfl, hsp, hblk, fun i hi o ho => (Classical.choose_spec (key i) hi).2 o ho⟩⟩

/-- The memory with one more slice that came in. -/
theorem Sim.addSl {W : World} {r : Ren} {M : Mem} (hs : Sim W.heap.size W r M W) {ls : List Leaf} {a : Option Addr} {n cp : Nat} {F : Nat → List Value} (hF : ∀ i, i < n → Leaves ls (F i))
    (ha : (a = none ∧ n = 0 ∧ cp = 0) ∨ ∃ x : Addr, a = some x ∧ x.spot = none ∧ x.block < W.heap.size ∧ ∀ i, i < n → ∀ o, o < ls.length → W.cell? ⟨x.block, x.off + (i * ls.length + o), none⟩ = (F i)[o]?) :
    ∃ (r' : Ren) (T : Mem) (a' : Option Addr), Ext r r' ∧ Sim W.heap.size W r' (M ++ T) W ∧ VR r' (.slice a' n cp) (.slice a n cp) ∧ SlAt (M ++ T) a' n (rows n fun i => (F i).map canon) := by
  rcases ha with ⟨rfl, rfl, rfl⟩ | ⟨x, rfl, hsp, hblk, hc⟩
  · exact ⟨r, [], none, Ext.refl r, by simpa using hs, .base ⟨rfl, .inl ⟨rfl, rfl⟩⟩, SlAt.nil⟩
  · have hk : ∀ i, i < n → ((F i).map canon).length = ls.length := fun i hi => by rw [List.length_map, (hF i hi).1]
    obtain ⟨he, hs'⟩ := hs.addRo (c := x.block) (z := x.off) hblk hblk (cells := rows n fun i => (F i).map canon) (fun i y hy => by
      have hi : i < n * ls.length := by
        have := (List.getElem?_eq_some_iff.1 hy).1
        rwa [rows_len hk] at this
      have hk0 : 0 < ls.length := Nat.pos_of_ne_zero fun h => by rw [h] at hi; simp at hi
      have hq : i / ls.length < n := (Nat.div_lt_iff_lt_mul hk0).2 hi
      have hm := Nat.mod_lt i hk0
      have hei : i = i / ls.length * ls.length + i % ls.length := by rw [Nat.mul_comm]; exact (Nat.div_add_mod i _).symm
      have hy' := hy
      rw [hei, rows_get hq hk hm, List.getElem?_map] at hy'
      have hlt : i % ls.length < (F (i / ls.length)).length := by rw [(hF _ hq).1]; exact hm
      rw [List.getElem?_eq_getElem hlt] at hy'
      simp only [Option.map_some, Option.some.injEq] at hy'
      subst hy'
      have h2 := hc _ hq _ hm
      rw [← hei, List.getElem?_eq_getElem hlt] at h2
      refine ⟨_, ?_, VS_canon r ((hF _ hq).2 (i % ls.length) _ _ (List.getElem?_eq_getElem hm) (List.getElem?_eq_getElem hlt))⟩
      exact h2)
    refine ⟨_, [⟨_, none, false⟩], some ⟨M.length, 0, none⟩, he, hs', .base ⟨x.block, x.off, cp, ?_, by unfold addZ; rw [if_pos ⟨rfl, rfl⟩], .inl ⟨rfl, rfl⟩⟩, SlAt.of (rw := false) (tg := none) (by simp)⟩
    cases x
    simp only at hsp
    subst hsp
    rfl

theorem law_callsM {P : Program} {f : FuncId} {args cargs : List Value} {W : World} {M : Mem} {r : Ren} (h : Pure P f args M (.bool true)) (hs : Sim W.heap.size W r M W) (hv : VRs r args cargs) :
    Calls P f cargs.toArray W fun e W' => e = .returned (.bool true) ∧ Below W.heap.size W W' := by
  unfold Pure ACalls at h
  refine Calls.mono (h _ _ _ W cargs hs hv) fun e W' ⟨d, v, M', r', he, ⟨hR, _⟩, _, hs, hvv⟩ => ?_
  subst hR
  obtain rfl := VR.bool_inv hvv
  exact ⟨he, hs.below⟩
end Go.Proofs.YtgdpcomemkimhaaGreatDoor
