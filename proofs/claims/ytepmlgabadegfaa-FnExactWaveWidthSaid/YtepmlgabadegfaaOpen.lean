/- What an argument of a law looks like, and what a pure call says of a law. -/
import Derived.Test.YtepmlgabadegfaaStep
import Derived.WalkKit
import Derived.ProofKit
import Derived.OpenShut
import Derived.ShutString
import Derived.ChangeOld
import Derived.Below
namespace Go.Proofs.Ytepmlgabadegfaa
open Go.RowKit Go.ChangeShapes Go.WideShapes Go.ChangeAt

/-- The kinds of cells of a type without pointers. -/
inductive Leaf where
  | bool
  | int (k : IntKind)
  | float (k : FloatKind)
  | str

def LeafOk : Leaf → Value → Prop
  | .bool, c => ∃ b, c = .bool b
  | .int k, c => ∃ n, c = .int k n ∧ (Lit.int k n).wf = true
  | .float k, c => ∃ b, c = .float k b ∧ (Lit.float k b).wf = true
  | .str, c => ∃ s : ByteArray, c = .string s ∧ s.size ≤ maxLen

def Leaves (ls : List Leaf) (cs : List Value) : Prop := cs.length = ls.length ∧ ∀ (i : Nat) l c, ls[i]? = some l → cs[i]? = some c → LeafOk l c

class LeafT (P : Program) (t : TypeId) (ls : outParam (List Leaf)) : Prop where
  cells : P.cellsOf t = ls.length
  op : ∀ {H : Type} {enc : TypeId × Value → H} {w : World} {base : Nat} {spare : Nat → Bool} {held : Bool} {fuel : Nat} {cs : List Value} {x : DataW H × List MemPlace},
    DataW.trod enc P w base spare held fuel t cs = some x → Leaves ls cs

theorem Leaves.one {l : Leaf} {c : Value} (h : LeafOk l c) : Leaves [l] [c] := ⟨rfl, fun i a b h1 h2 => by
  cases i with
  | zero => simp at h1 h2; subst h1; subst h2; exact h
  | succ i => simp at h1⟩

theorem Leaves.append {l1 l2 : List Leaf} {c1 c2 : List Value} (h1 : Leaves l1 c1) (h2 : Leaves l2 c2) : Leaves (l1 ++ l2) (c1 ++ c2) := by
  refine ⟨by simp [h1.1, h2.1], fun i l c e1 e2 => ?_⟩
  by_cases hi : i < l1.length
  · rw [List.getElem?_append_left hi] at e1
    rw [List.getElem?_append_left (by rw [h1.1]; exact hi)] at e2
    exact h1.2 i l c e1 e2
  · rw [List.getElem?_append_right (by omega)] at e1
    rw [List.getElem?_append_right (by rw [h1.1]; omega), h1.1] at e2
    exact h2.2 _ l c e1 e2

theorem Leaves.split {l1 l2 : List Leaf} {cs : List Value} (h : Leaves (l1 ++ l2) cs) : ∃ c1 c2, cs = c1 ++ c2 ∧ Leaves l1 c1 ∧ Leaves l2 c2 := by
  refine ⟨cs.take l1.length, cs.drop l1.length, (List.take_append_drop _ _).symm, ⟨?_, fun i l c e1 e2 => ?_⟩, ⟨?_, fun i l c e1 e2 => ?_⟩⟩
  · have := h.1; simp at this; simp; omega
  · have hi : i < l1.length := (List.getElem?_eq_some_iff.mp e1).1
    rw [List.getElem?_take_of_lt hi] at e2
    exact h.2 i l c (by rw [List.getElem?_append_left hi]; exact e1) e2
  · have := h.1; simp at this; simp; omega
  · rw [List.getElem?_drop] at e2
    exact h.2 _ l c (by rw [List.getElem?_append_right (by omega)]; simpa using e1) e2

theorem Leaves.nil {cs : List Value} (h : Leaves [] cs) : cs = [] := List.eq_nil_of_length_eq_zero h.1
theorem Leaves.cons {l : Leaf} {ls : List Leaf} {cs : List Value} (h : Leaves (l :: ls) cs) : ∃ c cs', cs = c :: cs' ∧ LeafOk l c ∧ Leaves ls cs' := by
  obtain ⟨c1, c2, rfl, h1, h2⟩ := Leaves.split (l1 := [l]) h
  match c1, h1 with
  | [c], h1 => exact ⟨c, c2, rfl, h1.2 0 l c rfl rfl, h2⟩

section
variable {P : Program} {t : TypeId}
theorem LeafT.bool (ht : P.underlying t = some .bool) (hc : P.cellsOf t = 1) : LeafT P t [.bool] := ⟨hc, fun h => by
  obtain ⟨b, rfl, _⟩ := DataW.trod_bool ht h; exact .one ⟨b, rfl⟩⟩
theorem LeafT.int {k : IntKind} (ht : P.underlying t = some (.int k)) (hc : P.cellsOf t = 1) : LeafT P t [.int k] := ⟨hc, fun h => by
  obtain ⟨n, rfl, _, hw⟩ := DataW.trod_int ht h; exact .one ⟨n, rfl, hw⟩⟩
theorem LeafT.str (ht : P.underlying t = some .string) (hc : P.cellsOf t = 1) : LeafT P t [.str] := ⟨hc, fun h => by
  obtain ⟨s, rfl, _, hw⟩ := DataW.trod_string ht h; exact .one ⟨s, rfl, hw⟩⟩
theorem trod_float {H : Type} {enc : TypeId × Value → H} {w : World} {base : Nat} {spare : Nat → Bool} {held : Bool} {fuel : Nat} {cs : List Value} {x : DataW H × List MemPlace} {k : FloatKind}
    (ht : P.underlying t = some (.float k)) (h : DataW.trod enc P w base spare held fuel t cs = some x) : ∃ n, cs = [.float k n] ∧ (Lit.float k n).wf = true := by
  cases fuel with
  | zero => simp [DataW.trod] at h
  | succ n =>
    unfold DataW.trod at h
    rw [ht] at h
    split at h <;> simp_all
theorem LeafT.float {k : FloatKind} (ht : P.underlying t = some (.float k)) (hc : P.cellsOf t = 1) : LeafT P t [.float k] := ⟨hc, fun h => by
  obtain ⟨n, rfl, hw⟩ := trod_float ht h; exact .one ⟨n, rfl, hw⟩⟩

def rep : Nat → List Leaf → List Leaf
  | 0, _ => []
  | n + 1, ls => ls ++ rep n ls
theorem rep_len (ls : List Leaf) : ∀ n, (rep n ls).length = n * ls.length
  | 0 => by simp [rep]
  | n + 1 => by simp [rep, rep_len ls n, Nat.add_mul, Nat.add_comm]

theorem Leaves.rep {ls : List Leaf} : ∀ (n : Nat) (cs : List Value), cs.length = n * ls.length → (∀ i, i < n → Leaves ls ((cs.drop (i * ls.length)).take ls.length)) → Leaves (rep n ls) cs
  | 0, cs, hl, _ => by
    have : cs = [] := List.eq_nil_of_length_eq_zero (by simpa using hl)
    subst this; exact ⟨rfl, by simp [Go.Proofs.Ytepmlgabadegfaa.rep]⟩
  | n + 1, cs, hl, h => by
    have h0 := h 0 (by omega)
    simp at h0
    have := Leaves.append h0 (Leaves.rep (ls := ls) n (cs.drop ls.length) (by simp [hl, Nat.add_mul]) fun i hi => by
      have := h (i + 1) (by omega)
      rw [List.drop_drop]
      rwa [Nat.add_mul, Nat.one_mul, Nat.add_comm] at this)
    rwa [List.take_append_drop] at this

theorem LeafT.array {e : TypeId} {n : Nat} {ls ks : List Leaf} [he : LeafT P e ls] (ht : P.underlying t = some (.array n e)) (hc : P.cellsOf t = n * ls.length) (hk : Go.Proofs.Ytepmlgabadegfaa.rep n ls = ks) : LeafT P t ks := by
  subst hk
  refine ⟨by rw [hc, rep_len], fun h => ?_⟩
  obtain ⟨xs, m, rfl, rfl, hl, hx, hi⟩ := DataW.trod_array ht h
  refine Leaves.rep n _ (by rw [hl, hc]) fun i hin => ?_
  have h1 := hi i hin
  rw [List.getElem?_eq_getElem (by omega), he.cells] at h1
  exact he.op h1

inductive FL (P : Program) : List Field → Nat → List Leaf → Prop
  | nil {o : Nat} : FL P [] o []
  | cons {f : Field} {fs : List Field} {o : Nat} {lf ls : List Leaf} (h : LeafT P f.type lf) (ho : f.offset = o) (hs : FL P fs (o + lf.length) ls) : FL P (f :: fs) o (lf ++ ls)

theorem FL.leaves {H : Type} {enc : TypeId × Value → H} {w : World} {base : Nat} {spare : Nat → Bool} {held : Bool} {m : Nat} {fs : List Field} {o : Nat} {ls : List Leaf} (h : FL P fs o ls) :
    ∀ (cs : List Value) (xs : List (DataW H × List MemPlace)), xs.length = fs.length → cs.length = o + ls.length →
      (∀ (i : Nat) (f : Field), fs[i]? = some f → DataW.trod enc P w base spare held m f.type ((cs.drop f.offset).take (P.cellsOf f.type)) = xs[i]?) → Leaves ls (cs.drop o) := by
  induction h with
  | nil => intro cs xs _ hl _; simp at hl; rw [← hl]; simp; exact ⟨rfl, by simp⟩
  | @cons f fs o lf ls h ho hs ih =>
    intro cs xs hx hl hi
    subst ho
    cases xs with
    | nil => simp at hx
    | cons x xs =>
      have h0 := hi 0 f rfl
      simp only [List.getElem?_cons_zero, h.cells] at h0
      have h1 := ih cs xs (by simpa using hx) (by simp at hl; omega) fun i g hg => by simpa using hi (i + 1) g (by simpa using hg)
      have h2 := Leaves.append (h.op h0) h1
      rwa [← List.drop_drop, List.take_append_drop] at h2

theorem LeafT.struct {fs : Array Field} {ls ks : List Leaf} (ht : P.underlying t = some (.struct fs)) (hf : FL P fs.toList 0 ls) (hc : P.cellsOf t = ls.length) (hk : ls = ks) : LeafT P t ks := by
  subst hk
  refine ⟨hc, fun h => ?_⟩
  obtain ⟨xs, m, rfl, rfl, hl, hx, hi⟩ := DataW.trod_struct ht h
  simpa using FL.leaves hf _ xs (by simpa using hx) (by rw [hl, hc]; simp) fun i f e => hi i f (by simpa using e)

theorem okWide_agg {fs : Array Field} {n : Nat} {e : TypeId} {w : World} {r : Reach} {base : Nat} {v : Value} (ht : P.underlying t = some (.struct fs) ∨ P.underlying t = some (.array n e)) (h : Value.okWide P w r base t v) : ∃ cs, v = .agg cs := by
  rcases ht with ht | ht <;> (simp only [Value.okWide, ht] at h; obtain ⟨cs, h1, h2, _⟩ := h; exact ⟨cs, h1⟩)
end

theorem open_flat {P : Program} {t : TypeId} {H : Type} {enc : TypeId × Value → H} {w : World} {base : Nat} {spare : Nat → Bool} {held : Bool} {fs : Array Field} {n : Nat} {e : TypeId} {ls : List Leaf} [hl : LeafT P t ls] {r : Reach} {b0 : Nat} {v : Value} {d : DataW H} {ps : List MemPlace}
    (ht : P.underlying t = some (.struct fs) ∨ P.underlying t = some (.array n e)) (hv : Value.okWide P w r b0 t v) (h : DataW.Trod enc P w base spare held t v d ps) : ∃ cs : List Value, v = .agg cs.toArray ∧ Leaves ls cs := by
  obtain ⟨cs, rfl⟩ := okWide_agg ht hv
  obtain ⟨fuel, hf⟩ := h
  exact ⟨cs.toList, rfl, hl.op hf⟩
theorem open_flt {P : Program} {t : TypeId} {H : Type} {enc : TypeId × Value → H} {w : World} {base : Nat} {spare : Nat → Bool} {held : Bool} {k : FloatKind} {r : Reach} {b0 : Nat} {v : Value} {d : DataW H} {ps : List MemPlace}
    (ht : P.underlying t = some (.float k)) (hv : Value.okWide P w r b0 t v) (h : DataW.Trod enc P w base spare held t v d ps) : ∃ n, v = .float k n ∧ (Lit.float k n).wf = true := by
  obtain ⟨fuel, hf⟩ := h
  simp only [Value.okWide, ht, Cell.okWide] at hv
  obtain ⟨n, hn, hw⟩ := trod_float ht hf
  cases v <;> simp_all [Cell.ok, Value.cells]

/-- What a walk sees of a cell that came in. -/
def canon : Value → Value
  | .float k b => .float k (cf k b)
  | v => v

theorem flt_wf {k : FloatKind} {b : Nat} (h : (Lit.float k b).wf = true) : b < fmax k := by
  cases k <;> simpa [Lit.wf, fmax] using h

theorem VS_canon (r : Ren) {l : Leaf} {c : Value} (h : LeafOk l c) : VR r (canon c) c := by
  cases l <;> obtain ⟨b, rfl, hb⟩ := h
  all_goals first | exact .base rfl | exact .base ⟨b, rfl, rfl, flt_wf hb⟩

theorem VR_canon (r : Ren) {ls : List Leaf} {cs : List Value} (h : Leaves ls cs) : VR r (.agg (cs.map canon).toArray) (.agg cs.toArray) := by
  refine VR.agg _ _ (by simp) fun i x y hx hy => ?_
  simp only [List.getElem?_map, hy, Option.map_some, Option.some.injEq] at hx
  subst hx
  have hi : i < ls.length := by rw [← h.1]; exact (List.getElem?_eq_some_iff.mp hy).1
  exact VS_canon r (h.2 i _ y (List.getElem?_eq_getElem hi) hy)

/-! ### Cells by their kinds, as tables -/
theorem tab_of {cs : List Value} {n : Nat} {f : Nat → Value} (hl : cs.length = n) (h : ∀ i, i < n → cs[i]? = some (f i)) : cs = tab n f := by
  refine List.ext_getElem? fun i => ?_
  by_cases hi : i < n
  · rw [h i hi, tab_get hi]
  · rw [List.getElem?_eq_none (by omega), List.getElem?_eq_none (by rw [tab_len]; omega)]

theorem leaf_at {l : Leaf} {n : Nat} {cs : List Value} (h : Leaves (List.replicate n l) cs) {i : Nat} (hi : i < n) : ∃ c, cs[i]? = some c ∧ LeafOk l c := by
  have hl : i < cs.length := by rw [h.1]; simpa using hi
  exact ⟨_, List.getElem?_eq_getElem hl, h.2 i l _ (by simp [hi]) (List.getElem?_eq_getElem hl)⟩

theorem leaf_bools {n : Nat} {cs : List Value} (h : Leaves (List.replicate n .bool) cs) : ∃ p : Nat → Bool, cs = tab n fun i => .bool (p i) := by
  refine ⟨fun i => match cs[i]? with | some (.bool b) => b | _ => false, tab_of (by simpa using h.1) fun i hi => ?_⟩
  obtain ⟨c, hc, b, rfl⟩ := leaf_at h hi
  simp [hc]

theorem leaf_ints {n : Nat} {k : IntKind} {cs : List Value} (h : Leaves (List.replicate n (.int k)) cs) : ∃ z : Nat → Int, cs = tab n (fun i => .int k (z i)) ∧ ∀ i, i < n → (Lit.int k (z i)).wf = true := by
  have key : ∀ i, i < n → cs[i]? = some (.int k ((fun i => match cs[i]? with | some (.int _ b) => b | _ => 0) i)) ∧ (Lit.int k ((fun i => match cs[i]? with | some (.int _ b) => b | _ => 0) i)).wf = true := fun i hi => by
    obtain ⟨c, hc, b, rfl, hw⟩ := leaf_at h hi
    simp [hc, hw]
  exact ⟨_, tab_of (by simpa using h.1) fun i hi => (key i hi).1, fun i hi => (key i hi).2⟩

theorem leaf_floats {n : Nat} {k : FloatKind} {cs : List Value} (h : Leaves (List.replicate n (.float k)) cs) : ∃ z : Nat → Nat, cs = tab n (fun i => .float k (z i)) ∧ ∀ i, i < n → (Lit.float k (z i)).wf = true := by
  have key : ∀ i, i < n → cs[i]? = some (.float k ((fun i => match cs[i]? with | some (.float _ b) => b | _ => 0) i)) ∧ (Lit.float k ((fun i => match cs[i]? with | some (.float _ b) => b | _ => 0) i)).wf = true := fun i hi => by
    obtain ⟨c, hc, b, rfl, hw⟩ := leaf_at h hi
    simp [hc, hw]
  exact ⟨_, tab_of (by simpa using h.1) fun i hi => (key i hi).1, fun i hi => (key i hi).2⟩

theorem tab_map (n : Nat) (f : Nat → Value) (g : Value → Value) : (tab n f).map g = tab n fun i => g (f i) := by simp [tab, Function.comp_def]

/-! ### A law -/
theorem Sim.start (W : World) (hg : Good W.heap.size W := by first | assumption | (unfold Good; exact trivial)) : Sim W.heap.size W (fun _ _ => none) [] W :=
  ⟨Below.refl _ _, ⟨Nat.le_refl _, hg⟩, by simp, by simp, by simp, by simp⟩

theorem law_calls {P : Program} {f : FuncId} {args cargs : List Value} {W : World} (h : Pure P f args [] (.bool true)) (hv : VRs (fun _ _ => none) args cargs) (hg : Good W.heap.size W := by first | assumption | (unfold Good; exact trivial)) :
    Calls P f cargs.toArray W fun e W' => e = .returned (.bool true) ∧ Below W.heap.size W W' := by
  unfold Pure ACalls at h
  refine Calls.mono (h _ _ _ W cargs (Sim.start W hg) hv) fun e W' ⟨d, v, M', r', he, ⟨hR, _⟩, _, hs, hvv⟩ => ?_
  subst hR
  obtain rfl := VR.bool_inv hvv
  exact ⟨he, hs.below⟩
end Go.Proofs.Ytepmlgabadegfaa
