/- New memory that a call hands out; loops whose rounds leave garbage. -/
import Derived.Test.YtjghdagcmombnaaSlice
import Derived.Test.YtjghdagcmombnaaStep
import Derived.WalkKit
import Derived.ProofKit
import Derived.OpenShut
import Derived.ShutString
import Derived.ChangeOld
import Derived.Below

namespace Go.Proofs.Ytjghdagcmombnaa
open Go.RowKit

/-- The value leads to blocks below L only. -/
def Bel (L : Nat) (x : Value) : Prop := ∀ r y, VR r x y → VR (cutR L r) x y
def Closed (L : Nat) (M : Mem) : Prop := ∀ b ∈ M, ∀ c ∈ b.cells, Bel L c

theorem Bel.mono {L L' : Nat} {x : Value} (hl : L ≤ L') (h : Bel L x) : Bel L' x := fun r y hv => (h r y hv).mono fun j t c hc => by
  unfold cutR at hc ⊢
  split at hc
  · rw [if_pos (by omega)]; exact hc
  · cases hc
theorem Bel.of_VR {r : Ren} {L : Nat} (hd : ∀ j t c, r j t = some c → j < L) {x y : Value} (h : VR r x y) : Bel L x := fun _ _ h' => h.cut hd h'
theorem Bel.cut {L : Nat} {x : Value} (h : Bel L x) {r : Ren} {y : Value} (hv : VR r x y) : VR (cutR L r) x y := h r y hv
theorem Bel.flat {L : Nat} {x : Value} (h : Flat x) : Bel L x := fun _ _ hv => hv.flat h
theorem Bel.ptr {L j o : Nat} {tg : Option Nat} (h : j < L) : Bel L (.pointer (some ⟨j, o, tg⟩)) := fun r y hv => by
  obtain ⟨c, z, hy, hr⟩ := hv.ptr_inv
  exact .base ⟨c, z, hy, by unfold cutR; rw [if_pos h]; exact hr⟩
theorem Bel.sl {L j o n m : Nat} {tg : Option Nat} (h : j < L) : Bel L (.slice (some ⟨j, o, tg⟩) n m) := fun r y hv => by
  obtain ⟨c, z, m', hy, hr, hm⟩ := hv.slice_inv
  exact .base ⟨c, z, m', hy, by unfold cutR; rw [if_pos h]; exact hr, hm⟩
theorem Bel.agg {L : Nat} {cs : List Value} (h : ∀ c ∈ cs, Bel L c) : Bel L (.agg cs.toArray) := fun r y hv => by
  obtain ⟨zs, rfl, hz⟩ := hv.agg_inv
  have hz' : VRs r cs zs := by simpa using hz
  exact .agg cs zs hz'.1 fun i x y hx hy => h x (List.mem_of_getElem? hx) r y (hz'.2 i x y hx hy)

theorem Closed.mono {L L' : Nat} {M : Mem} (hl : L ≤ L') (h : Closed L M) : Closed L' M := fun b hb c hc => (h b hb c hc).mono hl
theorem Closed.append {L : Nat} {M T : Mem} (h : Closed L M) (h' : Closed L T) : Closed L (M ++ T) := fun b hb c hc => by
  rcases List.mem_append.1 hb with hb | hb
  · exact h b hb c hc
  · exact h' b hb c hc

theorem Closed.one {M : Mem} {cells : List Value} {tg : Option Nat} {rw' : Bool} (hM : Closed M.length M) (hf : ∀ c ∈ cells, Flat c) : Closed (M ++ [(⟨cells, tg, rw'⟩ : Blk)]).length (M ++ [(⟨cells, tg, rw'⟩ : Blk)]) :=
  (hM.mono (by simp)).append fun b hb c hc => by
    simp only [List.mem_singleton] at hb
    subst hb
    exact Bel.flat (hf c hc)

theorem Sim.dom_lt {B0 : Nat} {w0 : World} {r : Ren} {M : Mem} {w : World} (hs : Sim B0 w0 r M w) : ∀ j t c, r j t = some c → j < M.length := fun j t c h => by
  obtain ⟨b, hb, _⟩ := hs.dom j t c h
  exact (List.getElem?_eq_some_iff.1 hb).1

theorem Sim.closed {B0 : Nat} {w0 : World} {r : Ren} {M : Mem} {w : World} (hs : Sim B0 w0 r M w) : Closed M.length M := fun b hb c hc => by
  obtain ⟨j, hj⟩ := List.getElem?_of_mem hb
  obtain ⟨i, hi⟩ := List.getElem?_of_mem hc
  rcases hs.blk j b hj with hg | ⟨c', z, _, hok⟩
  · rw [hg.1.1] at hi; cases hi
  unfold BlkOk at hok
  split at hok
  · obtain ⟨_, ds, ty, _, _, hlen, hcs⟩ := hok
    have hl : i < ds.size := by have := (List.getElem?_eq_some_iff.1 hi).1; have := hlen.le; omega
    exact Bel.of_VR hs.dom_lt (hcs i c ds[i] hi (by simp))
  · obtain ⟨y, _, hv⟩ := hok.2 i c hi
    exact Bel.of_VR hs.dom_lt hv

/-- The last blocks forgotten. -/
theorem Sim.cutTo {B0 : Nat} {w0 : World} {r : Ren} {M G : Mem} {w : World} (hs : Sim B0 w0 r (M ++ G) w) (hc : Closed M.length M) : Sim B0 w0 (cutR M.length r) M w := by
  have hin : ∀ {j t c}, cutR M.length r j t = some c → j < M.length ∧ r j t = some c := fun {j t c} hc => by
    unfold cutR at hc; split at hc
    · exact ⟨‹_›, hc⟩
    · cases hc
  have hget : ∀ j b, M[j]? = some b → (M ++ G)[j]? = some b := fun j b hb => by
    rw [List.getElem?_append_left (List.getElem?_eq_some_iff.1 hb).1]; exact hb
  refine ⟨hs.below, hs.base, fun j t c h => ?_, fun j t c z h => hs.lt j t c z (hin h).2, fun j b hb => ?_, fun j k b b' c z z' hb hb' hw h h' => hs.inj j k b b' c z z' (hget _ _ hb) (hget _ _ hb') hw (hin h).2 (hin h').2⟩
  · obtain ⟨hj, hr⟩ := hin h
    obtain ⟨b, hb, ht⟩ := hs.dom j t c hr
    rw [List.getElem?_append_left hj] at hb
    exact ⟨b, hb, ht⟩
  · rcases hs.blk j b (hget j b hb) with hg | ⟨c, z, hr, hok⟩
    · refine .inl ⟨hg.1, fun t => ?_⟩
      unfold cutR; split
      · exact hg.2 t
      · rfl
    have hmem := List.mem_of_getElem? hb
    refine .inr ⟨c, z, by unfold cutR; rw [if_pos (List.getElem?_eq_some_iff.1 hb).1]; exact hr, ?_⟩
    unfold BlkOk at hok ⊢
    split at hok
    · rename_i hrw
      rw [if_pos hrw]
      obtain ⟨hz, ds, ty, hh, hB, hlen, hcs⟩ := hok
      exact ⟨hz, ds, ty, hh, hB, hlen, fun i x y hx hy => (hc b hmem x (List.mem_of_getElem? hx)).cut (hcs i x y hx hy)⟩
    · rename_i hrw
      rw [if_neg hrw]
      refine ⟨hok.1, fun i x hx => ?_⟩
      obtain ⟨y, hy, hv⟩ := hok.2 i x hx
      exact ⟨y, hy, (hc b hmem x (List.mem_of_getElem? hx)).cut hv⟩

section
variable {P : Program}

theorem look_keep_none (t : Env) (i : Nat) : ∀ ks : List Nat, i ∉ ks → look (keepL ks t) i = Go.Proofs.Ytjghdagcmombnaa.dead
  | [], _ => rfl
  | q :: qs, hi => by
    have h1 : i ≠ q := fun e => hi (by simp [e])
    have h2 : (i == q) = false := by simpa using h1
    show (bif i == q then look t q else look (keepL qs t) i) = _
    rw [h2]
    exact look_keep_none t i qs fun h => hi (by simp [h])

/-- A loop whose rounds leave garbage behind: at the head only the blocks M1 and the slots ks are known. -/
theorem AW.loopT {c : Code} {Q : Exit → St → Prop} {s : St} (ks : List Nat) (I : Nat → St → Prop) (k0 : Nat)
    (h0 : I k0 (Go.Proofs.Ytjghdagcmombnaa.keep ks s))
    (round : ∀ k s', I k s' → AW P c (thenA (fun s2 => ∃ k' M1 G, k' < k ∧ s2.m = M1 ++ G ∧ s.m.length ≤ M1.length ∧ Closed M1.length M1 ∧ (∀ i, i ∈ ks → Bel M1.length (look s2.t i)) ∧ I k' ⟨s2.n, keepL ks s2.t, M1⟩) Q) s') : AW P (.loop c) Q s := by
  intro B0 w0 r a w hs
  have cl : ∀ {r : Ren} {s : St} {a : Act} {w : World}, SimSt B0 w0 r s a w → SimSt B0 w0 r (Go.Proofs.Ytjghdagcmombnaa.keep ks s) a w := fun {r s a w} hs => by
    refine ⟨hs.defers, hs.size, fun i => ?_, hs.sim⟩
    rcases look_keep s.t i ks with e | e
    · show VR r (look (keepL ks s.t) i) _
      rw [e]; exact VR.dead_any r _
    · show VR r (look (keepL ks s.t) i) _
      rw [e]; exact hs.vals i
  refine wp_loop_rounds (k0 + 1) ?_
  have key : ∀ n k s' r' a w, Ext r r' → k < n → I k s' → SimSt B0 w0 r' s' a w →
      Code.rounds P c (fun ex a' w' => ∃ r' s', Ext r r' ∧ SimSt B0 w0 r' s' a' w' ∧ Q ex s') n a w := by
    intro n
    induction n with
    | zero => intro k s r' a w _ hl; omega
    | succ n ih =>
      intro k s' r' a w he hl hI hs'
      rw [rounds_succ]
      refine wp_mono (round k s' hI B0 w0 r' a w hs') fun e a' w' ⟨r2, s2, he2, hs2, hq⟩ => ?_
      cases e
      case normal =>
        obtain ⟨k', M1, G, hk', hm, hlen, hcl, hbel, hI'⟩ := hq
        refine ih k' _ (cutR M1.length r2) a' w' (fun j t c hc => ?_) (by omega) hI' ⟨hs2.defers, hs2.size, fun i => ?_, (hm ▸ hs2.sim).cutTo hcl⟩
        · unfold cutR
          rw [if_pos (Nat.lt_of_lt_of_le (hs.sim.dom_lt j t c hc) hlen)]
          exact (he.trans he2) j t c hc
        · show VR _ (look (keepL ks s2.t) i) _
          by_cases hi : i ∈ ks
          · rcases look_keep s2.t i ks with e | e
            · rw [e]; exact VR.dead_any _ _
            · rw [e]; exact (hbel i hi).cut (hs2.vals i)
          · have := look_keep_none s2.t i ks hi
            rw [this]; exact VR.dead_any _ _
      all_goals exact ⟨r2, s2, he.trans he2, hs2, hq⟩
  exact key _ k0 _ r a w (Ext.refl r) (by omega) h0 (cl hs)

def BelL (L : Nat) (t : Env) : List Nat → Prop
  | [] => True
  | k :: ks => Bel L (look t k) ∧ BelL L t ks
theorem BelL.all {L : Nat} {t : Env} : ∀ {ks : List Nat}, BelL L t ks → ∀ i, i ∈ ks → Bel L (look t i)
  | [], _, i, hi => by simp at hi
  | k :: ks, h, i, hi => by
    rcases List.mem_cons.1 hi with rfl | hi
    · exact h.1
    · exact BelL.all h.2 i hi
/-- The same, as it is used: what the head keeps of the memory is M1. -/
theorem AW.loopG {c : Code} {Q : Exit → St → Prop} {s : St} (ks : List Nat) (I : Nat → St → Prop) (k0 : Nat)
    (h0 : I k0 (Go.Proofs.Ytjghdagcmombnaa.keep ks s))
    (round : ∀ k s', I k s' → AW P c (thenA (fun s2 => ∃ k' M1 G, k' < k ∧ s2.m = M1 ++ G ∧ s.m.length ≤ M1.length ∧ Closed M1.length M1 ∧ BelL M1.length s2.t ks ∧ I k' ⟨s2.n, keepL ks s2.t, M1⟩) Q) s') : AW P (.loop c) Q s :=
  AW.loopT ks I k0 h0 fun k s' hI B0 w0 r a w hs => wp_mono (round k s' hI B0 w0 r a w hs) fun e a' w' ⟨r2, s2, he2, hs2, hq⟩ => by
    refine ⟨r2, s2, he2, hs2, ?_⟩
    cases e
    case normal =>
      obtain ⟨k', M1, G, h1, h2, h3, h4, h5, h6⟩ := hq
      exact ⟨k', M1, G, h1, h2, h3, h4, h5.all, h6⟩
    all_goals exact hq
theorem Pure.closed {f : FuncId} {args : List Value} {M : Mem} {v : Value} (h : Closed M.length M → Pure P f args M v) : Pure P f args M v := by
  unfold Pure ACalls at h ⊢
  intro B0 w0 r w cargs hs hv
  exact h hs.closed B0 w0 r w cargs hs hv
theorem Alloc.closed {f : FuncId} {args : List Value} {M : Mem} {v : Value} {T : Mem} (h : Closed M.length M → ACalls P f args M fun x M' => x = v ∧ M' = M ++ T) : ACalls P f args M fun x M' => x = v ∧ M' = M ++ T := by
  unfold ACalls at h ⊢
  intro B0 w0 r w cargs hs hv
  exact h hs.closed B0 w0 r w cargs hs hv

/-! ### New memory, its blocks counted anew -/
/-- x' is x with its blocks counted by s. -/
def RenV (L : Nat) (s : Nat → Nat) (x' x : Value) : Prop := ∀ r y, VR r x y → VR (fun j t => if j < L then r (s j) t else none) x' y
theorem RenV.bel {L L0 : Nat} {s : Nat → Nat} (hs : ∀ j, j < L0 → s j = j) (hl : L0 ≤ L) {x : Value} (h : Bel L0 x) : RenV L s x x := fun r y hv => by
  refine (h.cut hv).mono fun j t c hc => ?_
  unfold cutR at hc
  split at hc
  · rename_i hj
    rw [if_pos (by omega), hs j hj]; exact hc
  · cases hc
theorem RenV.ptr {L j o : Nat} {tg : Option Nat} {s : Nat → Nat} (h : j < L) : RenV L s (.pointer (some ⟨j, o, tg⟩)) (.pointer (some ⟨s j, o, tg⟩)) := fun r y hv => by
  obtain ⟨c, z, hy, hr⟩ := hv.ptr_inv
  exact .base ⟨c, z, hy, by show (if j < L then r (s j) tg else none) = _; rw [if_pos h]; exact hr⟩
theorem RenV.sl {L j o n m : Nat} {tg : Option Nat} {s : Nat → Nat} (h : j < L) : RenV L s (.slice (some ⟨j, o, tg⟩) n m) (.slice (some ⟨s j, o, tg⟩) n m) := fun r y hv => by
  obtain ⟨c, z, m', hy, hr, hm⟩ := hv.slice_inv
  exact .base ⟨c, z, m', hy, by show (if j < L then r (s j) tg else none) = _; rw [if_pos h]; exact hr, hm⟩
theorem RenV.list {L : Nat} {s : Nat → Nat} {xs ys : List Value} (hl : xs.length = ys.length) (h : ∀ (i : Nat) (x y : Value), xs[i]? = some x → ys[i]? = some y → RenV L s x y) :
    ∀ r zs, VRs r ys zs → VRs (fun j t => if j < L then r (s j) t else none) xs zs := fun r zs hv => by
  refine ⟨hl.trans hv.1, fun i x z hx hz => ?_⟩
  have hi : i < ys.length := by rw [← hl]; exact (List.getElem?_eq_some_iff.1 hx).1
  exact h i x ys[i] hx (by simp) r z (hv.2 i _ z (List.getElem?_eq_getElem hi) hz)
theorem RenV.agg {L : Nat} {s : Nat → Nat} {xs ys : List Value} (hl : xs.length = ys.length) (h : ∀ (i : Nat) (x y : Value), xs[i]? = some x → ys[i]? = some y → RenV L s x y) : RenV L s (.agg xs.toArray) (.agg ys.toArray) := fun r y hv => by
  obtain ⟨zs, rfl, hz⟩ := hv.agg_inv
  have h2 := RenV.list hl h r zs (by simpa using hz)
  exact .agg xs zs h2.1 h2.2
theorem RenV.tuple {L : Nat} {s : Nat → Nat} {xs ys : List Value} (hl : xs.length = ys.length) (h : ∀ (i : Nat) (x y : Value), xs[i]? = some x → ys[i]? = some y → RenV L s x y) : RenV L s (.tuple xs.toArray) (.tuple ys.toArray) := fun r y hv => by
  obtain ⟨zs, rfl, hz⟩ := hv.tuple_inv
  have h2 := RenV.list hl h r zs (by simpa using hz)
  exact .tuple xs zs h2.1 h2.2

/-- The block b is the block b', its cells counted anew. -/
def RenB (L : Nat) (s : Nat → Nat) (b' b : Blk) : Prop := b'.tag = b.tag ∧ b'.rw = b.rw ∧ b'.cells.length = b.cells.length ∧ ∀ (i : Nat) (x y : Value), b'.cells[i]? = some x → b.cells[i]? = some y → RenV L s x y

theorem Sim.ren {B0 : Nat} {w0 : World} {r : Ren} {M N : Mem} {w : World} (hs : Sim B0 w0 r M w) (s : Nat → Nat) (hinj : ∀ i j, i < N.length → j < N.length → s i = s j → i = j)
    (hb : ∀ j b', N[j]? = some b' → ((b'.cells = [] ∧ b'.rw = false) ∧ M.length ≤ s j) ∨ ∃ b, M[s j]? = some b ∧ RenB N.length s b' b) : Sim B0 w0 (fun j t => if j < N.length then r (s j) t else none) N w := by
  have hin : ∀ {j t c}, (if j < N.length then r (s j) t else none) = some c → j < N.length ∧ r (s j) t = some c := fun {j t c} h => by
    split at h
    · exact ⟨‹_›, h⟩
    · cases h
  refine ⟨hs.below, hs.base, fun j t c h => ?_, fun j t c z h => hs.lt _ t c z (hin h).2, fun j b' hj => ?_, fun j k b1 b2 c z z' h1 h2 hw h h' => ?_⟩
  · obtain ⟨hj, hr⟩ := hin h
    rcases hb j N[j] (by simp) with ⟨_, hg⟩ | ⟨b, hb1, hb2⟩
    · have := hs.dom_lt _ _ _ hr; omega
    obtain ⟨b3, hb3, ht⟩ := hs.dom _ t c hr
    rw [hb1] at hb3; cases hb3
    exact ⟨N[j], by simp, by rw [hb2.1]; exact ht⟩
  · rcases hb j b' hj with ⟨hg, hsj⟩ | ⟨b, hb1, ht, hrw, hl, hc⟩
    · refine .inl ⟨hg, fun t => ?_⟩
      show (if j < N.length then r (s j) t else none) = none
      split
      · cases h : r (s j) t with
        | none => rfl
        | some x => have := hs.dom_lt _ _ _ h; omega
      · rfl
    have hjl : j < N.length := (List.getElem?_eq_some_iff.1 hj).1
    rcases hs.blk _ b hb1 with hg | ⟨c, z, hr, hok⟩
    · refine .inl ⟨⟨List.eq_nil_of_length_eq_zero (by rw [hl, hg.1.1]; rfl), by rw [hrw]; exact hg.1.2⟩, fun t => ?_⟩
      show (if j < N.length then r (s j) t else none) = none
      rw [if_pos hjl]; exact hg.2 t
    refine .inr ⟨c, z, by rw [if_pos hjl, ht]; exact hr, ?_⟩
    unfold BlkOk at hok ⊢
    rw [hrw]
    split at hok
    · rename_i hw
      rw [if_pos hw]
      obtain ⟨hz, ds, ty, hh, hB, hlen, hcs⟩ := hok
      refine ⟨by rw [ht]; exact hz, ds, ty, hh, hB, by rw [ht, hl]; exact hlen, fun i x y hx hy => ?_⟩
      have hi : i < b.cells.length := by rw [← hl]; exact (List.getElem?_eq_some_iff.1 hx).1
      exact hc i x b.cells[i] hx (by simp) r y (hcs i _ y (List.getElem?_eq_getElem hi) hy)
    · rename_i hw
      rw [if_neg hw]
      refine ⟨by rw [ht]; exact hok.1, fun i x hx => ?_⟩
      rw [ht]
      have hi : i < b.cells.length := by rw [← hl]; exact (List.getElem?_eq_some_iff.1 hx).1
      obtain ⟨y, hy, hv⟩ := hok.2 i _ (List.getElem?_eq_getElem hi)
      exact ⟨y, hy, hc i x b.cells[i] hx (by simp) r y hv⟩
  · obtain ⟨hj, hr⟩ := hin h
    obtain ⟨hk, hr'⟩ := hin h'
    rcases hb j b1 h1 with ⟨_, hg⟩ | ⟨b, hb1, hb2⟩
    · have := hs.dom_lt _ _ _ hr; omega
    rcases hb k b2 h2 with ⟨_, hg⟩ | ⟨b0, hb3, hb4⟩
    · have := hs.dom_lt _ _ _ hr'; omega
    exact hinj j k hj hk (hs.inj _ _ b b0 c z z' hb1 hb3 (by rw [← hb2.2.1]; exact hw) (by rw [← hb2.1]; exact hr) (by rw [← hb4.1]; exact hr'))

/-- A call that gives v, in new blocks T. -/
def Alloc (P : Program) (f : FuncId) (args : List Value) (M : Mem) (v : Value) (T : Mem) : Prop := ACalls P f args M fun x M' => x = v ∧ M' = M ++ T

/-- Where the blocks of the new memory lie in the walk's own: the old ones, and those at the places ks. -/
def placeOf (L : Nat) (ks : List Nat) (j : Nat) : Nat := if j < L then j else L + ks.getD (j - L) 0

theorem ACalls.alloc {f : FuncId} {args : List Value} {M : Mem} {v : Value} {T : Mem} (ks : List Nat) (hk : ks.length = T.length) (hnd : ∀ i, i < ks.length → ∀ j, j < ks.length → ks.getD i 0 = ks.getD j 0 → i = j)
    (h : ACalls P f args M fun x M' => ∃ G, M' = M ++ G ∧ RenV (M.length + T.length) (placeOf M.length ks) v x ∧
      ∀ i b', T[i]? = some b' → ∃ b, G[ks.getD i 0]? = some b ∧ RenB (M.length + T.length) (placeOf M.length ks) b' b) : Alloc P f args M v T := by
  intro B0 w0 r w cargs hs hv
  refine (h B0 w0 r w cargs hs hv).mono fun e w' ⟨d, x, M', r', h1, ⟨G, hM, hx, hT⟩, he, hs', hd⟩ => ?_
  subst hM
  have hcl := hs.closed
  have hlen : (M ++ T).length = M.length + T.length := by simp
  have hold : ∀ j, j < M.length → placeOf M.length ks j = j := fun j hj => by unfold placeOf; rw [if_pos hj]
  refine ⟨d, v, M ++ T, fun j t => if j < (M ++ T).length then r' (placeOf M.length ks j) t else none, h1, ⟨rfl, rfl⟩, fun j t c hc => ?_, hs'.ren (placeOf M.length ks) (fun i j hi hj hij => ?_) (fun j b' hj => ?_), ?_⟩
  · have hj := hs.dom_lt j t c hc
    show (if j < (M ++ T).length then r' (placeOf M.length ks j) t else none) = some c
    rw [if_pos (by omega), hold j hj]; exact he j t c hc
  · unfold placeOf at hij
    rw [hlen] at hi hj
    split at hij <;> split at hij
    · exact hij
    · omega
    · omega
    · have e1 : ks.getD (i - M.length) 0 = ks.getD (j - M.length) 0 := by omega
      have hi' : i - M.length < ks.length := by omega
      have hj' : j - M.length < ks.length := by omega
      have := hnd _ hi' _ hj' e1
      omega
  · by_cases hjm : j < M.length
    · rw [List.getElem?_append_left hjm] at hj
      refine .inr ⟨b', by rw [hold j hjm, List.getElem?_append_left hjm]; exact hj, rfl, rfl, rfl, fun i x y hx hy => ?_⟩
      rw [hx] at hy; cases hy
      exact RenV.bel hold (by omega) (hcl b' (List.mem_of_getElem? hj) x (List.mem_of_getElem? hx))
    · rw [List.getElem?_append_right (by omega)] at hj
      obtain ⟨b, hb1, hb2⟩ := hT _ b' hj
      refine .inr ⟨b, ?_, by rw [hlen]; exact hb2⟩
      unfold placeOf
      rw [if_neg hjm, List.getElem?_append_right (by omega), Nat.add_sub_cancel_left]
      exact hb1
  · rw [hlen]; exact hx r' d hd

/-- What a walk must end with for 'Alloc'. -/
def RelA (M : Mem) (ks : List Nat) (v : Value) (T : Mem) : Value → Mem → Prop := fun x M' => ∃ G, M' = M ++ G ∧ RenV (M.length + T.length) (placeOf M.length ks) v x ∧
  ∀ i b', T[i]? = some b' → ∃ b, G[ks.getD i 0]? = some b ∧ RenB (M.length + T.length) (placeOf M.length ks) b' b
theorem alloc_of {f : FuncId} {fn : Func} {c : Code} {args : List Value} {M : Mem} {v : Value} {k : Nat} {T : Mem} (ks : List Nat) (hf : P.funcs[f]? = some fn) (hk : fn.ntmps = k) (hb : fn.body = some c) (hn : Nat.ble args.length k = true)
    (hkl : ks.length = T.length) (hnd : ∀ i, i < ks.length → ∀ j, j < ks.length → ks.getD i 0 = ks.getD j 0 → i = j)
    (h : AW P c (postA P fn (RelA M ks v T)) ⟨k, envOf 0 args, M⟩) : Alloc P f args M v T := by
  subst hk
  exact ACalls.alloc ks hkl hnd (ACalls.enter hf hb (Nat.le_of_ble_eq_true hn) h)

theorem RenV.flat {L : Nat} {s : Nat → Nat} {x : Value} (h : Flat x) : RenV L s x x := fun _ _ hv => hv.flat h
theorem RenB.flat {L : Nat} {s : Nat → Nat} {b : Blk} (h : ∀ c ∈ b.cells, Flat c) : RenB L s b b := ⟨rfl, rfl, rfl, fun i x y hx hy => by
  rw [hx] at hy; cases hy; exact RenV.flat (h x (List.mem_of_getElem? hx))⟩

theorem flat_tabs {n : Nat} {f : Nat → Value} (h : ∀ i, Flat (f i)) : ∀ c ∈ tab n f, Flat c := fun c hc => by
  unfold tab at hc
  obtain ⟨i, _, rfl⟩ := List.mem_map.1 hc
  exact h i

section
variable {fn : Func} {n : Nat} {t : Env} {m M G : Mem}
end

section
variable {ops l : List Oper} {K : St → Prop} {n : Nat} {t : Env} {m : Mem} {d ty : Nat} {pos : String} {af : Array Edge}
/-- A call that hands out new memory. -/
theorem o_callA {f : FuncId} [hf : FnT P f] {xs : List Operand} {ats : Array TypeId} {args : List Value} {v v' : Value} {T m' : Mem} (hargs : xs.map (evalA t) = args := by first | (simp only [List.map_cons, List.map_nil, evalA, look, cond_true, cond_false, Nat.reduceBEq, constOk, constOk1]; done) | (simp only [List.map_cons, List.map_nil, evalA, look, cond_true, cond_false, Nat.reduceBEq, constOk, constOk1]; rfl) | rfl) (hc : Alloc P f args m v T) (hv : v = v' := by first | (simp only [List.length_append, List.length_cons, List.length_nil, Nat.reduceAdd, Nat.zero_add]; rfl) | rfl) (hm : m ++ T = m' := by first | (simp only [List.append_assoc, cellsA, List.cons_append, List.nil_append]; rfl) | rfl) (hd : Nat.blt d n = true := by rfl)
    (h : AOs P ops l K ⟨n, (d, v') :: t, m'⟩) :
    AOs P ops (⟨some d, .call { callee := .value (.func f), args := xs.toArray, argTypes := ats }, ty, pos, af, none⟩ :: l) K ⟨n, t, m⟩ :=
  o_callR hargs hc hd fun _ _ ⟨h1, h2⟩ => by subst h1; subst h2; rw [hm, hv]; exact h
end

end
end Go.Proofs.Ytjghdagcmombnaa

/- What an argument of a law looks like, and what a pure call says of a law. -/
namespace Go.Proofs.Ytjghdagcmombnaa
open Go.RowKit Go.ChangeShapes Go.WideShapes Go.ChangeAt

/-- The kinds of cells of a type without pointers. -/
inductive Leaf where
  | bool
  | int (k : IntKind)
  | float (k : FloatKind)
  | str

def LeafOk : Leaf → Value → Prop
  | .bool, c => ∃ b, c = .bool b
  | .int k, c => ∃ n, c = .int k n ∧ (Lit.int k n).wf = true
  | .float k, c => ∃ b, c = .float k b ∧ (Lit.float k b).wf = true
  | .str, c => ∃ s : ByteArray, c = .string s ∧ s.size ≤ maxLen

def Leaves (ls : List Leaf) (cs : List Value) : Prop := cs.length = ls.length ∧ ∀ (i : Nat) l c, ls[i]? = some l → cs[i]? = some c → LeafOk l c

class LeafT (P : Program) (t : TypeId) (ls : outParam (List Leaf)) : Prop where
  cells : P.cellsOf t = ls.length
  op : ∀ {H : Type} {enc : TypeId × Value → H} {w : World} {base : Nat} {spare : Nat → Bool} {held : Bool} {fuel : Nat} {cs : List Value} {x : DataW H × List MemPlace},
    DataW.trod enc P w base spare held fuel t cs = some x → Leaves ls cs

theorem Leaves.one {l : Leaf} {c : Value} (h : LeafOk l c) : Leaves [l] [c] := ⟨rfl, fun i a b h1 h2 => by
  cases i with
  | zero => simp at h1 h2; subst h1; subst h2; exact h
  | succ i => simp at h1⟩

theorem Leaves.append {l1 l2 : List Leaf} {c1 c2 : List Value} (h1 : Leaves l1 c1) (h2 : Leaves l2 c2) : Leaves (l1 ++ l2) (c1 ++ c2) := by
  refine ⟨by simp [h1.1, h2.1], fun i l c e1 e2 => ?_⟩
  by_cases hi : i < l1.length
  · rw [List.getElem?_append_left hi] at e1
    rw [List.getElem?_append_left (by rw [h1.1]; exact hi)] at e2
    exact h1.2 i l c e1 e2
  · rw [List.getElem?_append_right (by omega)] at e1
    rw [List.getElem?_append_right (by rw [h1.1]; omega), h1.1] at e2
    exact h2.2 _ l c e1 e2

theorem Leaves.split {l1 l2 : List Leaf} {cs : List Value} (h : Leaves (l1 ++ l2) cs) : ∃ c1 c2, cs = c1 ++ c2 ∧ Leaves l1 c1 ∧ Leaves l2 c2 := by
  refine ⟨cs.take l1.length, cs.drop l1.length, (List.take_append_drop _ _).symm, ⟨?_, fun i l c e1 e2 => ?_⟩, ⟨?_, fun i l c e1 e2 => ?_⟩⟩
  · have := h.1; simp at this; simp; omega
  · have hi : i < l1.length := (List.getElem?_eq_some_iff.mp e1).1
    rw [List.getElem?_take_of_lt hi] at e2
    exact h.2 i l c (by rw [List.getElem?_append_left hi]; exact e1) e2
  · have := h.1; simp at this; simp; omega
  · rw [List.getElem?_drop] at e2
    exact h.2 _ l c (by rw [List.getElem?_append_right (by omega)]; simpa using e1) e2

theorem Leaves.nil {cs : List Value} (h : Leaves [] cs) : cs = [] := List.eq_nil_of_length_eq_zero h.1
theorem Leaves.cons {l : Leaf} {ls : List Leaf} {cs : List Value} (h : Leaves (l :: ls) cs) : ∃ c cs', cs = c :: cs' ∧ LeafOk l c ∧ Leaves ls cs' := by
  obtain ⟨c1, c2, rfl, h1, h2⟩ := Leaves.split (l1 := [l]) h
  match c1, h1 with
  | [c], h1 => exact ⟨c, c2, rfl, h1.2 0 l c rfl rfl, h2⟩

section
variable {P : Program} {t : TypeId}
theorem LeafT.bool (ht : P.underlying t = some .bool) (hc : P.cellsOf t = 1) : LeafT P t [.bool] := ⟨hc, fun h => by
  obtain ⟨b, rfl, _⟩ := DataW.trod_bool ht h; exact .one ⟨b, rfl⟩⟩
theorem LeafT.int {k : IntKind} (ht : P.underlying t = some (.int k)) (hc : P.cellsOf t = 1) : LeafT P t [.int k] := ⟨hc, fun h => by
  obtain ⟨n, rfl, _, hw⟩ := DataW.trod_int ht h; exact .one ⟨n, rfl, hw⟩⟩
theorem LeafT.str (ht : P.underlying t = some .string) (hc : P.cellsOf t = 1) : LeafT P t [.str] := ⟨hc, fun h => by
  obtain ⟨s, rfl, _, hw⟩ := DataW.trod_string ht h; exact .one ⟨s, rfl, hw⟩⟩
theorem trod_float {H : Type} {enc : TypeId × Value → H} {w : World} {base : Nat} {spare : Nat → Bool} {held : Bool} {fuel : Nat} {cs : List Value} {x : DataW H × List MemPlace} {k : FloatKind}
    (ht : P.underlying t = some (.float k)) (h : DataW.trod enc P w base spare held fuel t cs = some x) : ∃ n, cs = [.float k n] ∧ (Lit.float k n).wf = true := by
  cases fuel with
  | zero => simp [DataW.trod] at h
  | succ n =>
    unfold DataW.trod at h
    rw [ht] at h
    split at h <;> simp_all
theorem LeafT.float {k : FloatKind} (ht : P.underlying t = some (.float k)) (hc : P.cellsOf t = 1) : LeafT P t [.float k] := ⟨hc, fun h => by
  obtain ⟨n, rfl, hw⟩ := trod_float ht h; exact .one ⟨n, rfl, hw⟩⟩

def rep : Nat → List Leaf → List Leaf
  | 0, _ => []
  | n + 1, ls => ls ++ rep n ls
theorem rep_len (ls : List Leaf) : ∀ n, (rep n ls).length = n * ls.length
  | 0 => by simp [rep]
  | n + 1 => by simp [rep, rep_len ls n, Nat.add_mul, Nat.add_comm]

theorem Leaves.rep {ls : List Leaf} : ∀ (n : Nat) (cs : List Value), cs.length = n * ls.length → (∀ i, i < n → Leaves ls ((cs.drop (i * ls.length)).take ls.length)) → Leaves (rep n ls) cs
  | 0, cs, hl, _ => by
    have : cs = [] := List.eq_nil_of_length_eq_zero (by simpa using hl)
    subst this; exact ⟨rfl, by simp [Go.Proofs.Ytjghdagcmombnaa.rep]⟩
  | n + 1, cs, hl, h => by
    have h0 := h 0 (by omega)
    simp at h0
    have := Leaves.append h0 (Leaves.rep (ls := ls) n (cs.drop ls.length) (by simp [hl, Nat.add_mul]) fun i hi => by
      have := h (i + 1) (by omega)
      rw [List.drop_drop]
      rwa [Nat.add_mul, Nat.one_mul, Nat.add_comm] at this)
    rwa [List.take_append_drop] at this

theorem LeafT.array {e : TypeId} {n : Nat} {ls ks : List Leaf} [he : LeafT P e ls] (ht : P.underlying t = some (.array n e)) (hc : P.cellsOf t = n * ls.length) (hk : Go.Proofs.Ytjghdagcmombnaa.rep n ls = ks) : LeafT P t ks := by
  subst hk
  refine ⟨by rw [hc, rep_len], fun h => ?_⟩
  obtain ⟨xs, m, rfl, rfl, hl, hx, hi⟩ := DataW.trod_array ht h
  refine Leaves.rep n _ (by rw [hl, hc]) fun i hin => ?_
  have h1 := hi i hin
  rw [List.getElem?_eq_getElem (by omega), he.cells] at h1
  exact he.op h1

inductive FL (P : Program) : List Field → Nat → List Leaf → Prop
  | nil {o : Nat} : FL P [] o []
  | cons {f : Field} {fs : List Field} {o : Nat} {lf ls : List Leaf} (h : LeafT P f.type lf) (ho : f.offset = o) (hs : FL P fs (o + lf.length) ls) : FL P (f :: fs) o (lf ++ ls)

theorem FL.leaves {H : Type} {enc : TypeId × Value → H} {w : World} {base : Nat} {spare : Nat → Bool} {held : Bool} {m : Nat} {fs : List Field} {o : Nat} {ls : List Leaf} (h : FL P fs o ls) :
    ∀ (cs : List Value) (xs : List (DataW H × List MemPlace)), xs.length = fs.length → cs.length = o + ls.length →
      (∀ (i : Nat) (f : Field), fs[i]? = some f → DataW.trod enc P w base spare held m f.type ((cs.drop f.offset).take (P.cellsOf f.type)) = xs[i]?) → Leaves ls (cs.drop o) := by
  induction h with
  | nil => intro cs xs _ hl _; simp at hl; rw [← hl]; simp; exact ⟨rfl, by simp⟩
  | @cons f fs o lf ls h ho hs ih =>
    intro cs xs hx hl hi
    subst ho
    cases xs with
    | nil => simp at hx
    | cons x xs =>
      have h0 := hi 0 f rfl
      simp only [List.getElem?_cons_zero, h.cells] at h0
      have h1 := ih cs xs (by simpa using hx) (by simp at hl; omega) fun i g hg => by simpa using hi (i + 1) g (by simpa using hg)
      have h2 := Leaves.append (h.op h0) h1
      rwa [← List.drop_drop, List.take_append_drop] at h2

theorem LeafT.struct {fs : Array Field} {ls ks : List Leaf} (ht : P.underlying t = some (.struct fs)) (hf : FL P fs.toList 0 ls) (hc : P.cellsOf t = ls.length) (hk : ls = ks) : LeafT P t ks := by
  subst hk
  refine ⟨hc, fun h => ?_⟩
  obtain ⟨xs, m, rfl, rfl, hl, hx, hi⟩ := DataW.trod_struct ht h
  simpa using FL.leaves hf _ xs (by simpa using hx) (by rw [hl, hc]; simp) fun i f e => hi i f (by simpa using e)

end

/-- What a walk sees of a cell that came in. -/
def canon : Value → Value
  | .float k b => .float k (cf k b)
  | v => v

theorem flt_wf {k : FloatKind} {b : Nat} (h : (Lit.float k b).wf = true) : b < fmax k := by
  cases k <;> simpa [Lit.wf, fmax] using h

theorem VS_canon (r : Ren) {l : Leaf} {c : Value} (h : LeafOk l c) : VR r (canon c) c := by
  cases l <;> obtain ⟨b, rfl, hb⟩ := h
  all_goals first | exact .base rfl | exact .base ⟨b, rfl, rfl, flt_wf hb⟩

/-! ### Cells by their kinds, as tables -/
/-! ### A law -/
theorem Sim.start (W : World) (hg : Good W.heap.size W := by first | assumption | (unfold Good; exact trivial)) : Sim W.heap.size W (fun _ _ => none) [] W :=
  ⟨Below.refl _ _, ⟨Nat.le_refl _, hg⟩, by simp, by simp, by simp, by simp⟩

end Go.Proofs.Ytjghdagcmombnaa
