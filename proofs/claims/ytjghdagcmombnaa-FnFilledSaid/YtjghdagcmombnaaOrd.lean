/- Regions whose order is open, walked in each of their orders; structs that lead to memory as results; equal structs. -/
import Derived.Test.YtjghdagcmombnaaApp

namespace Go.Proofs.Ytjghdagcmombnaa
open Go.RowKit

def pick (l : List Oper) (p : List Nat) : List Oper := p.filterMap (l[·]?)
/-- The list os holds every order. -/
def goAll (ops : Array Oper) (os : List (List Nat)) : Nat → Array Bool → List Nat → Bool
  | 0, _, acc => os.contains acc.reverse
  | fuel + 1, listed, acc => bif (Region.ready .any ops listed).isEmpty then os.contains acc.reverse else (Region.ready .any ops listed).all fun i => goAll ops os fuel (listed.setIfInBounds i true) (i :: acc)
theorem goAll_sound {ops : Array Oper} {os : List (List Nat)} : ∀ (fuel t : Nat) (listed : Array Bool) (acc : List Nat), goAll ops os fuel listed acc = true → Region.linearise.go .any ops fuel t listed acc ∈ os := by
  intro fuel
  induction fuel with
  | zero => intro t listed acc h; simpa [goAll, Region.linearise.go] using h
  | succ fuel ih =>
    intro t listed acc h
    simp only [goAll] at h
    simp only [Region.linearise.go]
    change (match (Region.ready .any ops listed)[t % (Region.ready .any ops listed).length]? with
      | some i => Region.linearise.go .any ops fuel (t / (Region.ready .any ops listed).length) (listed.setIfInBounds i true) (i :: acc)
      | none => acc.reverse) ∈ os
    cases hr : Region.ready .any ops listed with
    | nil => rw [hr] at h; simpa using h
    | cons x xs =>
      rw [hr] at h
      simp only [List.isEmpty_cons, cond_false] at h
      have hlt : t % (x :: xs).length < (x :: xs).length := Nat.mod_lt _ (by simp)
      rw [List.getElem?_eq_getElem hlt]
      simp only
      rw [List.all_eq_true] at h
      exact ih _ _ _ (h _ (List.getElem_mem hlt))

def AAllL (P : Program) (l : List Oper) : List (List Nat) → (St → Prop) → St → Prop
  | [], _, _ => True
  | p :: os, K, s => AOs P l (pick l p) K s ∧ AAllL P l os K s
theorem AAllL.mem {P : Program} {l : List Oper} {K : St → Prop} {s : St} : ∀ {os : List (List Nat)}, AAllL P l os K s → ∀ p ∈ os, AOs P l (pick l p) K s
  | [], _, p, hp => by cases hp
  | q :: os, h, p, hp => by
    rcases List.mem_cons.1 hp with rfl | hp
    · exact h.1
    · exact AAllL.mem h.2 p hp

section
variable {P : Program}
theorem AOs.soundP {l : List Oper} {K : St → Prop} {Q : Exit → Act → World → Prop} {B0 : Nat} {w0 : World} {r0 : Ren}
    (hQ : ∀ r' s' a' w', Ext r0 r' → SimSt B0 w0 r' s' a' w' → K s' → Q .normal a' w') : ∀ (p : List Nat) (s : St) (r : Ren) (a : Act) (w : World),
    Ext r0 r → SimSt B0 w0 r s a w → AOs P l (pick l p) K s → wpOps P l.toArray Q p a w := by
  intro p
  induction p with
  | nil => intro s r a w he hs h; exact hQ r s a w he hs h
  | cons i p ih =>
    intro s r a w he hs h
    rw [wpOps_cons]
    unfold wpOp
    simp only [List.getElem?_toArray]
    cases ho : l[i]? with
    | none =>
      simp only
      have e : pick l (i :: p) = pick l p := by simp [pick, ho]
      rw [e] at h
      exact ih s r a w he hs h
    | some o =>
      simp only
      have e : pick l (i :: p) = o :: pick l p := by simp [pick, ho]
      rw [e] at h
      unfold AOs at h
      cases hw : wantA l o s.t with
      | none => rw [hw] at h; exact h.elim
      | some b =>
        have hk := want_sound (ops := l.toArray) hs (by simpa using hw)
        rw [hw] at h
        cases b with
        | true =>
          rw [if_pos hk]
          exact .inl (Oper.wp_mono (fun a' w' ⟨r', s', he', hs', hK⟩ => ih s' r' a' w' (he.trans he') hs' hK) (h B0 w0 r a w _ hs))
        | false =>
          rw [if_neg (by rw [hk]; simp)]
          exact ih _ r _ w he (hs.put (Ext.refl r) hs.sim h.1 (undef_VR r)) h.2

theorem AW.orders [hm : MixT P] {id : Nat} {l : List Oper} {Q : Exit → St → Prop} {s : St} (os : List (List Nat)) (hc : goAll l.toArray os l.toArray.size (Array.replicate l.toArray.size false) [] = true) (h : AAllL P l os (Q .normal) s) : AW P (.region id l.toArray true) Q s := by
  intro B0 w0 r a w hs
  refine wp_region_draw fun t => ?_
  have hmm := hm.out
  simp only [Region.schedule, hmm, Bool.true_or, if_true]
  have hp := goAll_sound (ops := l.toArray) l.toArray.size t _ [] hc
  have hsim := hs.sim
  exact AOs.soundP (fun r' s' a' w' he hs' hK => ⟨r', s', he, hs', hK⟩) _ s r a _ (Ext.refl r)
    ⟨hs.defers, hs.size, hs.vals, ⟨⟨hsim.below.os, hsim.below.tape, hsim.below.output, hsim.below.size, hsim.below.block⟩, hsim.base, hsim.dom, hsim.lt, hsim.blk, hsim.inj⟩⟩ (h.mem _ hp)
end

section
variable {P : Program}
/-- Five operations, of which the first one is free beside the second and the third. -/
theorem AW.open5 [hm : MixT P] {id : Nat} {o0 o1 o2 o3 o4 : Oper} {Q : Exit → St → Prop} {s : St} (hc : goAll [o0, o1, o2, o3, o4].toArray [[0, 1, 2, 3, 4], [1, 0, 2, 3, 4], [1, 2, 0, 3, 4]] 5 (Array.replicate 5 false) [] = true := by decide +kernel)
    (h1 : AOs P [o0, o1, o2, o3, o4] [o0, o1, o2, o3, o4] (Q .normal) s) (h2 : AOs P [o0, o1, o2, o3, o4] [o1, o0, o2, o3, o4] (Q .normal) s) (h3 : AOs P [o0, o1, o2, o3, o4] [o1, o2, o0, o3, o4] (Q .normal) s) : AW P (.region id [o0, o1, o2, o3, o4].toArray true) Q s :=
  AW.orders [[0, 1, 2, 3, 4], [1, 0, 2, 3, 4], [1, 2, 0, 3, 4]] hc ⟨h1, h2, h3, trivial⟩
end

/-! ### Results -/
section
variable {fn : Func} {n : Nat} {t : Env} {m M G : Mem}
end

/-! ### Cells behind a table -/
theorem whole_tabR {n : Nat} {f : Nat → Value} {ys : List Value} (h : ∀ i, one (f i) = true) (hy : ys.all one = true) : whole (.agg (tab n f ++ ys).toArray) = true := by
  show (tab n f ++ ys).all one = true
  rw [List.all_append, tab_one h, hy]; rfl
theorem ld_tabL {n : Nat} {f : Nat → Value} {ys : List Value} : ldA (.agg n) 0 (tab n f ++ ys) = some (.agg (tab n f).toArray) := by
  show (if 0 + n ≤ (tab n f ++ ys).length then some (Value.agg (((tab n f ++ ys).drop 0).take n).toArray) else none) = _
  rw [if_pos (by simp [tab_len])]
  rw [List.drop_zero, List.take_append_of_le_length (by simp [tab_len]), List.take_of_length_le (by simp [tab_len])]
theorem ld_tabR {n : Nat} {f : Nat → Value} {v : Value} {ys : List Value} : ldA .one n (tab n f ++ v :: ys) = some v := by
  show (tab n f ++ v :: ys)[n]? = some v
  rw [List.getElem?_append_right (by rw [tab_len]; exact Nat.le_refl _), tab_len, Nat.sub_self]; rfl
theorem ld_tabI {n i : Nat} {f : Nat → Value} {ys : List Value} {v : Value} (h : i < n) (hv : f i = v) : ldA .one i (tab n f ++ ys) = some v := by
  show (tab n f ++ ys)[i]? = some v
  rw [List.getElem?_append_left (by rw [tab_len]; exact h), tab_get h, hv]
theorem st_tabL {n : Nat} {f g : Nat → Value} {ys : List Value} : (tab n f ++ ys).take 0 ++ tab n g ++ (tab n f ++ ys).drop (0 + (tab n g).length) = tab n g ++ ys := by
  rw [List.take_zero, List.nil_append, tab_len, Nat.zero_add]
  rw [List.drop_append_of_le_length (by rw [tab_len]; exact Nat.le_refl _), List.drop_eq_nil_of_le (by rw [tab_len]; exact Nat.le_refl _), List.nil_append]
theorem st_tabR {n : Nat} {f : Nat → Value} {u v : Value} {ys : List Value} : (tab n f ++ u :: ys).take n ++ [v] ++ (tab n f ++ u :: ys).drop (n + ([v] : List Value).length) = tab n f ++ v :: ys := by
  rw [List.take_append_of_le_length (by rw [tab_len]; exact Nat.le_refl _), List.take_of_length_le (by rw [tab_len]; exact Nat.le_refl _), List.drop_append]
  rw [List.drop_eq_nil_of_le (by rw [tab_len]; simp)]
  simp [tab_len]
theorem st_tabI {n i : Nat} {f : Nat → Value} {v : Value} {ys : List Value} (h : i < n) : (tab n f ++ ys).take i ++ [v] ++ (tab n f ++ ys).drop (i + ([v] : List Value).length) = tab n (fun q => if q = i then v else f q) ++ ys := by
  have h1 : i ≤ (tab n f).length := by rw [tab_len]; omega
  have h2 : i + ([v] : List Value).length ≤ (tab n f).length := by rw [tab_len]; simp; omega
  rw [List.take_append_of_le_length h1, List.drop_append_of_le_length h2, ← List.append_assoc, st_tab1 h]
/-- A part of a row that is a table. -/
theorem ld_rowL {n i k m : Nat} {f : Nat → List Value} {g : Nat → Value} {ys : List Value} (hi : i < n) (hk : ∀ i, i < n → (f i).length = k) (hf : f i = tab m g ++ ys) : ldA (.agg m) (i * k) (rows n f) = some (.agg (tab m g).toArray) := by
  have hm : m ≤ k := by rw [← hk i hi, hf, List.length_append, tab_len]; omega
  show (if i * k + m ≤ (rows n f).length then some (Value.agg (((rows n f).drop (i * k)).take m).toArray) else none) = _
  rw [if_pos (rows_le0 hi hk hm), rows_drop hi hk, hf, List.append_assoc, List.take_append_of_le_length (by rw [tab_len]; exact Nat.le_refl _), List.take_of_length_le (by rw [tab_len]; exact Nat.le_refl _)]
section
variable {P : Program} {ops l : List Oper} {K : St → Prop} {n : Nat} {t : Env} {m : Mem} {d ty : Nat} {pos : String} {af : Array Edge}
/-- A call through a value that only reckons. -/
theorem o_callVP {f : FuncId} [hf : FnT P f] {x : Operand} {xs : List Operand} {ats : Array TypeId} {args us vs all : List Value} {v : Value} (hx : evalA t x = .func (.func f) us.toArray vs.toArray := by (conv => (lhs; whnf)); first | done | rfl) (hargs : xs.map (evalA t) = args := by first | (simp only [List.map_cons, List.map_nil, evalA, look, cond_true, cond_false, Nat.reduceBEq, constOk, constOk1]; done) | (simp only [List.map_cons, List.map_nil, evalA, look, cond_true, cond_false, Nat.reduceBEq, constOk, constOk1]; rfl) | rfl) (hall : us ++ args ++ vs = all := by rfl) (hc : Pure P f all m v) (hd : Nat.blt d n = true := by rfl)
    (h : AOs P ops l K ⟨n, (d, v) :: t, m⟩) :
    AOs P ops (⟨some d, .call { callee := .value x, args := xs.toArray, argTypes := ats }, ty, pos, af, none⟩ :: l) K ⟨n, t, m⟩ := by
  subst hall
  exact o_callV hx hargs hc hd fun v' m' ⟨h1, h2⟩ => by subst h1; subst h2; exact h
end
end Go.Proofs.Ytjghdagcmombnaa
