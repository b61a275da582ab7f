/- A region whose order is open, and whose operations leave the clean memory alone: the order of the text serves for all. No program in sight. -/
import Derived.Test.YtjghdagcmombnaaTabs
import Derived.Orders

namespace Go.Proofs.Ytjghdagcmombnaa
open Go.RowKit

/-- What an operation looks at. -/
def looksO (ops : List Oper) (o : Oper) : List Nat := Oper.looksAt ops.toArray o

/-- One operation, asked of the slots alone that it looks at. -/
def QO (P : Program) (ops : List Oper) (o : Oper) (s : St) (v : Value) : Prop :=
  AO P o (fun s' => s' = (keep (looksO ops o) s).put o.dst v) (keep (looksO ops o) s)

/-- What comes ahead of each operation, by the edges that bind. -/
def pres (l : List Oper) : List (List Nat) :=
  l.foldl (fun acc o => acc ++ [o.after.toList.foldl (fun s e => if Region.binds .any e then (if s.contains e.on then s else e.on :: (s ++ (acc.getD e.on []).filter fun x => !s.contains x && x != e.on)) else s) []]) []

/-- 'pre' tells of each operation only what must come ahead of it. -/
def preOk (l : List Oper) (pre : List (List Nat)) : Bool :=
  (List.range l.length).all fun i => match l[i]? with
    | none => true
    | some o => (pre.getD i []).all fun j => o.after.toList.any fun e => Region.binds .any e && Nat.blt e.on i && (e.on == j || (pre.getD e.on []).contains j)

/-- From the k-th operation on each has all earlier ones ahead of it. -/
def seqOk (l : List Oper) (k : Nat) : Bool :=
  (List.range (l.length - k)).all fun i => (List.range (k + i)).all fun q => ((pres l).getD (k + i) []).contains q
theorem seqOk_iff {l : List Oper} {k : Nat} (h : seqOk l k = true) : ∀ i, k ≤ i → i < l.length → ∀ q, q < i → q ∈ (pres l).getD i [] := fun i hi hl q hq => by
  unfold seqOk at h
  rw [List.all_eq_true] at h
  have h1 := h (i - k) (List.mem_range.2 (by omega))
  rw [List.all_eq_true, show k + (i - k) = i by omega] at h1
  have := h1 q (List.mem_range.2 hq)
  simpa using this
theorem seqOk_end (l : List Oper) : seqOk l l.length = true := by simp [seqOk]

/-- The walk in the order of the text; where the order is told from some operation on, the walk goes on as in a told region. -/
def AQ (P : Program) (ops : List Oper) : List Oper → (St → Prop) → St → Prop
  | [], K, s => K s
  | o :: l, K, s =>
    (seqOk ops (ops.length - (l.length + 1)) = true ∧ AOs P ops (o :: l) K s) ∨
    match wantA ops o s.t with
    | some true => dlt o.dst s.n = true ∧ ∃ v, QO P ops o s v ∧ AQ P ops l K (s.put o.dst v)
    | some false => dlt o.dst s.n = true ∧ AQ P ops l K (s.put o.dst undef)
    | none => False

def edgesOk (l : List Oper) : Bool :=
  (List.range l.length).all fun i => match l[i]? with
    | none => true
    | some o => o.after.toList.all fun e => !Region.binds .any e || Nat.blt e.on i

/-- Whoever writes a slot that another looks at or writes stands in a fixed order to it. -/
def slotsOk (l : List Oper) (pre : List (List Nat)) : Bool :=
  (List.range l.length).all fun i => (List.range l.length).all fun k => match l[i]?, l[k]? with
    | some oi, some ok =>
      match ok.dst with
      | none => true
      | some d => i == k ||
        ((!(looksO l oi).contains d && oi.dst != some d) || (if Nat.blt k i then (pre.getD i []).contains k else (pre.getD k []).contains i))
    | _, _ => true

def noSel (l : List Oper) : Bool := l.all fun o => match o.op with | .select .. => false | _ => true

def drawOk (l : List Oper) : Bool := noSel l && edgesOk l && preOk l (pres l) && slotsOk l (pres l)

section
variable {P : Program}

/-- The slots behind the operations of a list of indices, the last one first. -/
def envI (ops : List Oper) (vals : Nat → Value) (t : Env) : List Nat → Env
  | [] => t
  | i :: is => match (ops[i]?).bind (·.dst) with
    | some d => (d, vals i) :: envI ops vals t is
    | none => envI ops vals t is

theorem envI_some {ops : List Oper} {vals : Nat → Value} {t : Env} {i d : Nat} {is : List Nat} (h : (ops[i]?).bind (·.dst) = some d) : envI ops vals t (i :: is) = (d, vals i) :: envI ops vals t is := by
  show (match (ops[i]?).bind (·.dst) with | some d => (d, vals i) :: envI ops vals t is | none => envI ops vals t is) = _
  rw [h]
theorem envI_none {ops : List Oper} {vals : Nat → Value} {t : Env} {i : Nat} {is : List Nat} (h : (ops[i]?).bind (·.dst) = none) : envI ops vals t (i :: is) = envI ops vals t is := by
  show (match (ops[i]?).bind (·.dst) with | some d => (d, vals i) :: envI ops vals t is | none => envI ops vals t is) = _
  rw [h]
theorem range_rev (k : Nat) : (List.range (k + 1)).reverse = k :: (List.range k).reverse := by
  rw [List.range_succ, List.reverse_append]; rfl

/-- The walk, told index by index. -/
theorem AQ.told {ops : List Oper} {K : St → Prop} {n : Nat} {t0 : Env} {m : Mem} : ∀ (l : List Oper) (k : Nat) (vals : Nat → Value) , (∀ j, l[j]? = ops[k + j]?) →
    AQ P ops l K ⟨n, envI ops vals t0 (List.range k).reverse, m⟩ →
    ∃ (L : Nat) (vals' : Nat → Value), (∀ j, j < k → vals' j = vals j) ∧ (∀ i o, k ≤ i → i < L → ops[i]? = some o → dlt o.dst n = true ∧
        ((wantA ops o (envI ops vals' t0 (List.range i).reverse) = some true ∧ QO P ops o ⟨n, envI ops vals' t0 (List.range i).reverse, m⟩ (vals' i)) ∨
         (wantA ops o (envI ops vals' t0 (List.range i).reverse) = some false ∧ vals' i = undef))) ∧ L ≤ ops.length ∧ seqOk ops L = true ∧
      AOs P ops (ops.drop L) K ⟨n, envI ops vals' t0 (List.range L).reverse, m⟩ := by
  have cong : ∀ (vals vals' : Nat → Value) (t : Env) (is : List Nat), (∀ j ∈ is, vals j = vals' j) → envI ops vals t is = envI ops vals' t is := by
    intro vals vals' t is
    induction is with
    | nil => intro _; rfl
    | cons i is ih =>
      intro h
      have e := ih (fun j hj => h j (by simp [hj]))
      cases hd : (ops[i]?).bind (·.dst) with
      | none => rw [envI_none hd, envI_none hd, e]
      | some d => rw [envI_some hd, envI_some hd, e, h i (by simp)]
  intro l
  induction l with
  | nil =>
    intro k vals hl h
    have hk : ops.length ≤ k := by
      have := hl 0
      simp at this
      exact this
    refine ⟨ops.length, vals, fun _ _ => rfl, fun i o hi hiL ho => ?_, Nat.le_refl _, seqOk_end ops, ?_⟩
    · omega
    · rw [List.drop_length]
      have h' : K ⟨n, envI ops vals t0 (List.range k).reverse, m⟩ := h
      have e : envI ops vals t0 (List.range k).reverse = envI ops vals t0 (List.range ops.length).reverse := by
        clear h h'
        obtain ⟨q, rfl⟩ : ∃ q, k = ops.length + q := ⟨k - ops.length, by omega⟩
        clear hl hk
        induction q with
        | zero => rfl
        | succ q ih =>
          have : (ops[ops.length + q]?).bind (·.dst) = none := by simp
          rw [← Nat.add_assoc, range_rev, envI_none this]
          exact ih
      rwa [e] at h'
  | cons o l ih =>
    intro k vals hl h
    have h0 : ops[k]? = some o := by simpa using (hl 0).symm
    unfold AQ at h
    rcases h with ⟨hseq, hA⟩ | h
    · have hdrop : ops.drop k = o :: l := List.ext_getElem? fun j => by rw [List.getElem?_drop]; exact (hl j).symm
      have hlen : ops.length = k + (l.length + 1) := by
        have := congrArg List.length hdrop
        rw [List.length_drop] at this
        have hk := (List.getElem?_eq_some_iff.1 h0).1
        simp at this; omega
      rw [show ops.length - (l.length + 1) = k by omega] at hseq
      exact ⟨k, vals, fun _ _ => rfl, fun i o hi hiL _ => by omega, by omega, hseq, by rw [hdrop]; exact hA⟩
    have hl' : ∀ j, l[j]? = ops[k + 1 + j]? := fun j => by have := hl (j + 1); simpa [Nat.add_assoc, Nat.add_comm 1 j] using this
    have step : ∀ v, dlt o.dst n = true → AQ P ops l K ((⟨n, envI ops vals t0 (List.range k).reverse, m⟩ : St).put o.dst v) →
        AQ P ops l K ⟨n, envI ops (fun j => if j = k then v else vals j) t0 (List.range (k + 1)).reverse, m⟩ := fun v _ hq => by
      have e : envI ops (fun j => if j = k then v else vals j) t0 (List.range (k + 1)).reverse = ((⟨n, envI ops vals t0 (List.range k).reverse, m⟩ : St).put o.dst v).t := by
        have ec := cong (fun j => if j = k then v else vals j) vals t0 (List.range k).reverse (fun j hj => by
          have : j < k := by simpa using hj
          simp; omega)
        rw [range_rev]
        cases hd : o.dst with
        | none => rw [envI_none (by rw [h0]; exact hd), ec]; rfl
        | some d => rw [envI_some (d := d) (by rw [h0]; exact hd), ec]; simp [St.put]
      rw [e]
      cases hd : o.dst <;> rw [hd] at hq <;> exact hq
    have fin : ∀ v, dlt o.dst n = true → AQ P ops l K ((⟨n, envI ops vals t0 (List.range k).reverse, m⟩ : St).put o.dst v) →
        ((wantA ops o (envI ops vals t0 (List.range k).reverse) = some true ∧ QO P ops o ⟨n, envI ops vals t0 (List.range k).reverse, m⟩ v) ∨
         (wantA ops o (envI ops vals t0 (List.range k).reverse) = some false ∧ v = undef)) →
        ∃ (L : Nat) (vals' : Nat → Value), (∀ j, j < k → vals' j = vals j) ∧ (∀ i o, k ≤ i → i < L → ops[i]? = some o → dlt o.dst n = true ∧
        ((wantA ops o (envI ops vals' t0 (List.range i).reverse) = some true ∧ QO P ops o ⟨n, envI ops vals' t0 (List.range i).reverse, m⟩ (vals' i)) ∨
         (wantA ops o (envI ops vals' t0 (List.range i).reverse) = some false ∧ vals' i = undef))) ∧ L ≤ ops.length ∧ seqOk ops L = true ∧
      AOs P ops (ops.drop L) K ⟨n, envI ops vals' t0 (List.range L).reverse, m⟩ := fun v hd hq hw => by
      obtain ⟨L, vals', h1, h2, h3, h4, h5⟩ := ih (k + 1) (fun j => if j = k then v else vals j) hl' (step v hd hq)
      have hlow : ∀ j, j < k → vals' j = vals j := fun j hj => by rw [h1 j (by omega), if_neg (by omega)]
      refine ⟨L, vals', hlow, fun i o' hi hiL ho' => ?_, h3, h4, h5⟩
      by_cases e : i = k
      · subst e
        rw [h0] at ho'; cases ho'
        have ec : envI ops vals' t0 (List.range i).reverse = envI ops vals t0 (List.range i).reverse := cong _ _ _ _ fun j hj => hlow j (by simpa using hj)
        have ev : vals' i = v := by rw [h1 i (by omega), if_pos rfl]
        rw [ec, ev]
        exact ⟨hd, hw⟩
      · exact h2 i o' (by omega) hiL ho'
    cases hw : wantA ops o (envI ops vals t0 (List.range k).reverse) with
    | none => simp only [hw] at h
    | some b =>
      simp only [hw] at h
      cases b with
      | true =>
        obtain ⟨hd, v, hq, hr⟩ := h
        exact fin v hd hr (.inl ⟨hw, hq⟩)
      | false => exact fin undef h.1 h.2 (.inr ⟨hw, rfl⟩)

theorem look_keep_mem {t : Env} {i : Nat} : ∀ {ks : List Nat}, i ∈ ks → look (keepL ks t) i = look t i := by
  intro ks
  induction ks with
  | nil => intro h; cases h
  | cons k ks ih =>
    intro h
    unfold keepL at *
    simp only [List.map_cons, look]
    cases e : (i == k)
    · have hne : i ≠ k := fun h => by rw [h] at e; simp at e
      exact ih (by cases h with | head => exact (hne rfl).elim | tail _ h => exact h)
    · rw [eq_of_beq e]; rfl

/-- Who writes the slot x. -/
def writes (ops : List Oper) (x : Nat) (i : Nat) : Bool := (ops[i]?).bind (·.dst) == some x

theorem look_envI {ops : List Oper} {vals : Nat → Value} {t : Env} {x : Nat} : ∀ is : List Nat, look (envI ops vals t is) x = match (is.filter (writes ops x)).head? with | some i => vals i | none => look t x := by
  intro is
  induction is with
  | nil => rfl
  | cons i is ih =>
    rw [List.filter_cons]
    cases hd : (ops[i]?).bind (·.dst) with
    | none =>
      have : writes ops x i = false := by unfold writes; rw [hd]; rfl
      rw [envI_none hd, this]
      simpa using ih
    | some d =>
      rw [envI_some hd]
      by_cases e : d = x
      · subst e
        have : writes ops d i = true := by unfold writes; rw [hd]; simp
        rw [this]
        simp [look]
      · have : writes ops x i = false := by unfold writes; rw [hd]; simpa using e
        rw [this]
        simp only [look]
        have e2 : (x == d) = false := by simpa using fun h => e h.symm
        rw [e2]
        simpa using ih

theorem range_split {i n : Nat} (h : i < n) : (List.range n).reverse = (List.range' (i + 1) (n - (i + 1))).reverse ++ i :: (List.range i).reverse := by
  have e : List.range n = List.range i ++ [i] ++ List.range' (i + 1) (n - (i + 1)) := by
    rw [← List.range_succ, List.range_eq_range', List.range_eq_range']
    have := @List.range'_append_1 0 (i + 1) (n - (i + 1))
    rw [Nat.zero_add] at this
    rw [this]; congr 1; omega
  rw [e]; simp

def listedI (n : Nat) (listed : Array Bool) : List Nat := (List.range n).reverse.filter fun i => listed.getD i false

theorem drawOk_parts {l : List Oper} (h : drawOk l = true) : noSel l = true ∧ edgesOk l = true ∧ preOk l (pres l) = true ∧ slotsOk l (pres l) = true := by
  unfold drawOk at h
  simp only [Bool.and_eq_true] at h
  exact ⟨h.1.1.1, h.1.1.2, h.1.2, h.2⟩

theorem edges_lt {l : List Oper} (h : edgesOk l = true) {i : Nat} {o : Oper} (ho : l[i]? = some o) {e : Edge} (he : e ∈ o.after) (hb : Region.binds .any e = true) : e.on < i := by
  unfold edgesOk at h
  rw [List.all_eq_true] at h
  have := h i (List.mem_range.2 (List.getElem?_eq_some_iff.1 ho).1)
  simp only [ho, List.all_eq_true] at this
  have := this e (by simpa using he)
  rw [hb] at this
  simpa [Nat.blt_eq] using this

/-- What must come ahead has come. -/
theorem pre_listed {l : List Oper} {pre : List (List Nat)} (h : preOk l pre = true) {L : Nat → Prop} (closed : ∀ i o, L i → l[i]? = some o → ∀ e ∈ o.after, Region.binds .any e = true → L e.on) :
    ∀ (i : Nat) (o : Oper), l[i]? = some o → (∀ e ∈ o.after, Region.binds .any e = true → L e.on) → ∀ j, j ∈ pre.getD i [] → L j := by
  intro i
  induction i using Nat.strongRecOn with
  | _ i ih =>
    intro o ho hall j hj
    have hp := h
    unfold preOk at hp
    rw [List.all_eq_true] at hp
    have h1 := hp i (List.mem_range.2 (List.getElem?_eq_some_iff.1 ho).1)
    simp only [ho, List.all_eq_true, List.any_eq_true, Bool.and_eq_true, Bool.or_eq_true] at h1
    obtain ⟨e, he, ⟨hb, hlt⟩, hc⟩ := h1 j hj
    have hlt' : e.on < i := by simpa [Nat.blt_eq] using hlt
    have hL : L e.on := hall e (by simpa using he) hb
    rcases hc with hc | hc
    · rw [← eq_of_beq hc]; exact hL
    · have hlen : e.on < l.length := by have := (List.getElem?_eq_some_iff.1 ho).1; omega
      obtain ⟨o', ho'⟩ : ∃ o', l[e.on]? = some o' := ⟨l[e.on], by simp [hlen]⟩
      exact ih e.on hlt' o' ho' (fun e' he' hb' => closed e.on o' hL ho' e' he' hb') j (by simpa using hc)

theorem wp_put {P : Program} {o : Oper} {a : Act} {w : World} {K : Act → World → Prop} {Q : Exit → Act → World → Prop} (h : o.wp P a w K Q) :
    o.wp P a w (fun a' w' => K a' w' ∧ ∃ d ds, a' = ({ a with defers := ds } : Act).put o.dst d) Q := by
  unfold Oper.wp at *
  generalize (execOp a.eval o).run P w = res at *
  cases res with
  | ok x w' =>
    cases x <;> simp only [Oper.upon] at h ⊢
    case value v => exact ⟨h, v, a.defers, rfl⟩
    case skip => exact ⟨h, undef, a.defers, rfl⟩
    case defer d => exact ⟨h, undef, d :: a.defers, rfl⟩
    case enter f args =>
      refine Calls.mono h fun e w'' he => ?_
      cases e
      case returned v => exact ⟨he, v, a.defers, rfl⟩
      case panicked c => exact he
      case outgrown => exact he
    case row rw args => exact Rows.mono h fun v w'' he => ⟨he, v, a.defers, rfl⟩
  | halt x w' => cases x <;> simp only [Oper.upon] at h ⊢ <;> exact h

theorem AW.draw {id : Nat} {l : List Oper} {Q : Exit → St → Prop} {s : St} (hm : P.follows .mixedOrders = true) (hd : drawOk l = true) (h : AQ P l l (Q .normal) s) : AW P (.region id l.toArray true) Q s := by
  intro B0 w0 r a w hs
  obtain ⟨n, t0, m⟩ := s
  obtain ⟨hsel, hedge, hpre, hslot⟩ := drawOk_parts hd
  obtain ⟨L, vals, _, htold, hLle, hseq, hK⟩ := AQ.told (P := P) (ops := l) l 0 (fun _ => undef) (by simp) (by simpa [envI] using h)
  refine wp_region_any hm ?_
  have slots : ∀ {i k oi ok d}, l[i]? = some oi → l[k]? = some ok → ok.dst = some d → i ≠ k → (d ∈ looksO l oi ∨ oi.dst = some d) → (k < i → k ∈ (pres l).getD i []) ∧ (i < k → i ∈ (pres l).getD k []) := by
    intro i k oi ok d hi hk hdst hne hl
    have hq := hslot
    unfold slotsOk at hq
    rw [List.all_eq_true] at hq
    have h1 := hq i (List.mem_range.2 (List.getElem?_eq_some_iff.1 hi).1)
    rw [List.all_eq_true] at h1
    have h2 := h1 k (List.mem_range.2 (List.getElem?_eq_some_iff.1 hk).1)
    simp only [hi, hk, hdst, Bool.or_eq_true] at h2
    rcases h2 with h2 | h2 | h2
    · exact (hne (eq_of_beq h2)).elim
    · simp only [Bool.and_eq_true, Bool.not_eq_true', bne_iff_ne] at h2
      rcases hl with hl | hl
      · have := h2.1; simp [hl] at this
      · exact (h2.2 hl).elim
    · constructor
      · intro hlt
        rw [if_pos (by simpa [Nat.blt_eq] using hlt)] at h2
        simpa using h2
      · intro hlt
        rw [if_neg (by simp; omega)] at h2
        simpa using h2
  have tail : ∀ (fuel k : Nat) (listed : Array Bool) (s : St) (a : Act) (w : World) (r1 : Ren), listed.size = l.length → L ≤ k → k + fuel = l.length → (∀ i, listed.getD i false = true ↔ i < k) →
      AOs P l (l.drop k) (Q .normal) s → Ext r r1 → SimSt B0 w0 r1 s a w →
      wpAny P .any l.toArray (fun ex a' w' => ∃ r' s', Ext r r' ∧ SimSt B0 w0 r' s' a' w' ∧ Q ex s') fuel listed a w := by
    intro fuel
    induction fuel with
    | zero =>
      intro k listed s a w r1 hsz hLk hk hls hA he hs
      rw [show l.drop k = [] from List.drop_eq_nil_of_le (by omega)] at hA
      refine ⟨?_, r1, s, he, hs, hA⟩
      cases hr : Region.ready .any l.toArray listed with
      | nil => rfl
      | cons i is =>
        have := mem_ready.1 (show i ∈ Region.ready .any l.toArray listed by rw [hr]; simp)
        obtain ⟨h1, o, h2, _⟩ := this
        have hi : i < l.length := by have := (Array.getElem?_eq_some_iff.1 h2).1; simpa using this
        have h3 := (hls i).2 (by omega)
        rw [Array.getD_eq_getD_getElem?] at h1 h3
        cases hx : listed[i]? with
        | none => simp [hx] at h3
        | some y => simp [hx] at h1 h3; rw [h1] at h3; cases h3
    | succ fuel ih =>
      intro k listed s a w r1 hsz hLk hk hls hA he hs
      have hkl : k < l.length := by omega
      have hkr : k ∈ Region.ready .any l.toArray listed := by
        rw [mem_ready]
        refine ⟨?_, l[k], by simp [hkl], fun e he hb => (hls _).2 (edges_lt hedge (i := k) (by simp [hkl]) he hb)⟩
        have hku : listed.getD k false = false := by
          cases hx : listed.getD k false
          · rfl
          · have := (hls k).1 hx; omega
        rw [Array.getD_eq_getD_getElem?] at hku ⊢
        have hjs : k < listed.size := by omega
        simp [hjs] at hku ⊢
        exact hku
      refine ⟨fun hr => (by rw [hr] at hkr; cases hkr), fun i hi => ?_⟩
      obtain ⟨h1, o, h2, h3⟩ := mem_ready.1 hi
      have hil : i < l.length := by have := (Array.getElem?_eq_some_iff.1 h2).1; simpa using this
      have hcl : ∀ i o, listed.getD i false = true → l[i]? = some o → ∀ e ∈ o.after, Region.binds .any e = true → listed.getD e.on false = true := fun i o hi ho e he hb => by
        have := edges_lt hedge ho he hb
        have := (hls i).1 hi
        exact (hls _).2 (by omega)
      have hik : i = k := by
        by_cases hlt : i < k
        · exfalso
          have h4 := (hls i).2 hlt
          rw [Array.getD_eq_getD_getElem?] at h1 h4
          cases hx : listed[i]? with
          | none => simp [hx] at h4
          | some y => simp [hx] at h1 h4; rw [h1] at h4; cases h4
        · by_cases hgt : k < i
          · exfalso
            have hm := seqOk_iff hseq i (by omega) hil k hgt
            have := pre_listed hpre (L := fun q => listed.getD q false = true) hcl i o (by simpa using h2) h3 k hm
            have := (hls k).1 this
            omega
          · omega
      subst hik
      have ho : l[i]? = some o := by simpa using h2
      have hdrop : l.drop i = o :: l.drop (i + 1) := by
        rw [List.drop_eq_getElem_cons hil]
        congr 1
        have := (List.getElem?_eq_some_iff.1 ho).2
        exact this
      rw [hdrop] at hA
      have hls' : ∀ q, (listed.setIfInBounds i true).getD q false = true ↔ q < i + 1 := fun q => by
        by_cases e : q = i
        · subst e
          rw [Array.getD_eq_getD_getElem?]
          simp [show q < listed.size by omega]
        · rw [getD_set_ne false (fun h => e h.symm), hls q]; omega
      unfold wpOp
      simp only [List.getElem?_toArray, ho]
      unfold AOs at hA
      cases hw : wantA l o s.t with
      | none => rw [hw] at hA; exact hA.elim
      | some b =>
        have hwk := want_sound (ops := l.toArray) hs (by simpa using hw)
        rw [hw] at hA
        cases b with
        | true =>
          rw [if_pos hwk]
          exact .inl (Oper.wp_mono (fun a' w' ⟨r', s', he', hs', hK'⟩ => ih (i + 1) _ s' a' w' r' (by simpa using hsz) (by omega) (by omega) hls' hK' (he.trans he') hs') (hA B0 w0 r1 a w _ hs))
        | false =>
          rw [if_neg (by rw [hwk]; simp)]
          exact ih (i + 1) _ _ _ w r1 (by simpa using hsz) (by omega) (by omega) hls' hA.2 he (hs.put (Ext.refl r1) hs.sim hA.1 (undef_VR r1))
  have key : ∀ (fuel : Nat) (listed : Array Bool) (a : Act) (w : World) (r1 : Ren), listed.size = l.length → (listedI l.length listed).length + fuel = l.length → (∀ i, listed.getD i false = true → i < L) →
      (∀ i o, listed.getD i false = true → l[i]? = some o → ∀ e ∈ o.after, Region.binds .any e = true → listed.getD e.on false = true) →
      Ext r r1 → Sim B0 w0 r1 m w → a.defers = [] → a.tmps.size = n → (∀ x, VR r1 (look (envI l vals t0 (listedI l.length listed)) x) (a.tmps.getD x undef)) →
      wpAny P .any l.toArray (fun ex a' w' => ∃ r' s', Ext r r' ∧ SimSt B0 w0 r' s' a' w' ∧ Q ex s') fuel listed a w := by
    intro fuel
    induction fuel with
    | zero =>
      intro listed a w r1 hsz hcnt hltL hcl he hsim hdf hts hv
      have hall : ∀ i, i < l.length → listed.getD i false = true := by
        have hlen : (listedI l.length listed).length = ((List.range l.length).reverse).length := by simp; omega
        have := List.length_filter_eq_length_iff.1 hlen
        intro i hi
        exact this i (by simpa using hi)
      have hli : listedI l.length listed = (List.range l.length).reverse := by
        unfold listedI
        exact List.filter_eq_self.2 fun i hi => hall i (by simpa using hi)
      have hLe : L = l.length := by
        by_cases h : L < l.length
        · have := hltL L (hall L h); omega
        · omega
      have hK' : AOs P l [] (Q .normal) ⟨n, envI l vals t0 (List.range L).reverse, m⟩ := by
        have := hK
        rwa [show l.drop L = [] from List.drop_eq_nil_of_le (by omega)] at this
      refine ⟨?_, r1, ⟨n, _, m⟩, he, ⟨hdf, hts, by rw [hli, ← hLe] at hv; exact hv, hsim⟩, hK'⟩
      cases hr : Region.ready .any l.toArray listed with
      | nil => rfl
      | cons i is =>
        have := mem_ready.1 (show i ∈ Region.ready .any l.toArray listed by rw [hr]; simp)
        obtain ⟨h1, o, h2, _⟩ := this
        have hi : i < l.length := by have := (Array.getElem?_eq_some_iff.1 h2).1; simpa using this
        have h3 := hall i hi
        rw [Array.getD_eq_getD_getElem?] at h1 h3
        cases hx : listed[i]? with
        | none => simp [hx] at h3
        | some y => simp [hx] at h1 h3; rw [h1] at h3; cases h3
    | succ fuel ih =>
      intro listed a w r1 hsz hcnt hltL hcl he hsim hdf hts hv
      by_cases hallL : ∀ i, i < L → listed.getD i false = true
      · have hls : ∀ i, listed.getD i false = true ↔ i < L := fun i => ⟨hltL i, hallL i⟩
        have hli : listedI l.length listed = (List.range L).reverse := by
          unfold listedI
          have e : List.range l.length = List.range L ++ List.range' L (l.length - L) := by
            rw [List.range_eq_range', List.range_eq_range']
            have := @List.range'_append_1 0 L (l.length - L)
            rw [Nat.zero_add] at this
            rw [this]; congr 1; omega
          rw [e, List.reverse_append, List.filter_append]
          have e1 : ((List.range' L (l.length - L)).reverse).filter (fun i => listed.getD i false) = [] := by
            rw [List.filter_eq_nil_iff]
            intro k hk hh
            have := (hls k).1 hh
            simp at hk; omega
          have e2 : ((List.range L).reverse).filter (fun i => listed.getD i false) = (List.range L).reverse :=
            List.filter_eq_self.2 fun i hi => hallL i (by simpa using hi)
          rw [e1, e2, List.nil_append]
        rw [hli] at hv hcnt
        exact tail (fuel + 1) L listed _ a w r1 hsz (Nat.le_refl _) (by simpa using hcnt) hls hK he ⟨hdf, hts, hv, hsim⟩
      have unl : ∀ {i}, i ∈ Region.ready .any l.toArray listed → i < l.length ∧ listed.getD i false = false ∧ ∃ o, l[i]? = some o ∧ ∀ e ∈ o.after, Region.binds .any e = true → listed.getD e.on false = true := fun {i} hi => by
        obtain ⟨h1, o, h2, h3⟩ := mem_ready.1 hi
        have hi' : i < l.length := by have := (Array.getElem?_eq_some_iff.1 h2).1; simpa using this
        refine ⟨hi', ?_, o, by simpa using h2, h3⟩
        rw [Array.getD_eq_getD_getElem?] at h1 ⊢
        cases hx : listed[i]? with
        | none => rfl
        | some y => simp [hx] at h1; simp [h1]
      refine ⟨fun hr => ?_, fun i hi => ?_⟩
      · -- none is ready, but one is left: the least of those
        exfalso
        have hex : ∃ i, i < l.length ∧ listed.getD i false = false := by
          refine Classical.byContradiction fun hno => ?_
          have hall : ∀ i, i < l.length → listed.getD i false = true := fun i hi => by
            cases hx : listed.getD i false
            · exact (hno ⟨i, hi, hx⟩).elim
            · rfl
          have : listedI l.length listed = (List.range l.length).reverse := by
            unfold listedI
            exact List.filter_eq_self.2 fun i hi => hall i (by simpa using hi)
          rw [this] at hcnt; simp at hcnt
        have least : ∀ k i, i ≤ k → i < l.length → listed.getD i false = false → ∃ j, j < l.length ∧ listed.getD j false = false ∧ ∀ q, q < j → listed.getD q false = true := by
          intro k
          induction k with
          | zero => intro i hi h1 h2; exact ⟨i, h1, h2, fun q hq => by omega⟩
          | succ k ihk =>
            intro i hi h1 h2
            by_cases hq : ∃ q, q < i ∧ listed.getD q false = false
            · obtain ⟨q, hq1, hq2⟩ := hq
              exact ihk q (by omega) (by omega) hq2
            · refine ⟨i, h1, h2, fun q hq' => ?_⟩
              cases hx : listed.getD q false
              · exact (hq ⟨q, hq', hx⟩).elim
              · rfl
        obtain ⟨i, hi1, hi2⟩ := hex
        obtain ⟨j, hj1, hj2, hj3⟩ := least i i (Nat.le_refl _) hi1 hi2
        have hmem : j ∈ Region.ready .any l.toArray listed := by
          rw [mem_ready]
          refine ⟨?_, l[j], by simp [hj1], fun e he hb => hj3 _ (edges_lt hedge (i := j) (by simp [hj1]) he hb)⟩
          rw [Array.getD_eq_getD_getElem?] at hj2 ⊢
          have hjs : j < listed.size := by omega
          simp [hjs] at hj2 ⊢
          exact hj2
        rw [hr] at hmem; cases hmem
      · obtain ⟨hil, hiu, o, ho, hafter⟩ := unl hi
        have hiL : i < L := by
          by_cases h : i < L
          · exact h
          · exfalso
            exact hallL fun q hq => pre_listed hpre (L := fun q => listed.getD q false = true) hcl i o ho hafter q (seqOk_iff hseq i (by omega) hil q (by omega))
        -- who writes a slot that o looks at or writes, and has come up, stands before i
        have back : ∀ {k ok d}, l[k]? = some ok → ok.dst = some d → (d ∈ looksO l o ∨ o.dst = some d) → listed.getD k false = true → k < i := fun {k ok d} hk hdst hl hlk => by
          by_cases hki : k < i
          · exact hki
          · exfalso
            by_cases e : i = k
            · subst e; rw [hiu] at hlk; cases hlk
            · have := (slots ho hk hdst e hl).2 (by omega)
              have hcome := pre_listed hpre (L := fun q => listed.getD q false = true) hcl k ok hk (hcl k ok hlk hk) i this
              rw [hiu] at hcome; cases hcome
        have fore : ∀ {k ok d}, l[k]? = some ok → ok.dst = some d → d ∈ looksO l o → k < i → listed.getD k false = true := fun {k ok d} hk hdst hl hki => by
          have := (slots ho hk hdst (by omega) (.inl hl)).1 hki
          exact pre_listed hpre (L := fun q => listed.getD q false = true) hcl i o ho hafter k this
        have wr : ∀ {x k}, writes l x k = true → ∃ ok, l[k]? = some ok ∧ ok.dst = some x := fun {x k} hw => by
          unfold writes at hw
          cases hk : l[k]? with
          | none => rw [hk] at hw; simp at hw
          | some ok => rw [hk] at hw; exact ⟨ok, rfl, by simpa using hw⟩
        have same : ∀ x, x ∈ looksO l o → look (envI l vals t0 (listedI l.length listed)) x = look (envI l vals t0 (List.range i).reverse) x := fun x hx => by
          rw [look_envI, look_envI]
          have : (listedI l.length listed).filter (writes l x) = ((List.range i).reverse).filter (writes l x) := by
            unfold listedI
            rw [List.filter_filter, range_split hil, List.filter_append, List.filter_cons]
            have e1 : ((List.range' (i + 1) (l.length - (i + 1))).reverse).filter (fun a => writes l x a && listed.getD a false) = [] := by
              rw [List.filter_eq_nil_iff]
              intro k hk hh
              simp only [Bool.and_eq_true] at hh
              obtain ⟨ok, hok, hdst⟩ := wr hh.1
              have := back hok hdst (.inl hx) hh.2
              simp at hk; omega
            have e2 : (writes l x i && listed.getD i false) = false := by rw [hiu]; simp
            rw [e1, e2, List.nil_append]
            simp only [Bool.false_eq_true, if_false]
            refine List.filter_congr fun k hk => ?_
            cases hw : writes l x k
            · rfl
            · obtain ⟨ok, hok, hdst⟩ := wr hw
              rw [fore hok hdst hx (by simpa using hk)]; rfl
          rw [this]
        have hst : ∀ {r2 : Ren} , Ext r1 r2 → True := fun _ => trivial
        have hsr : SimSt B0 w0 r1 (Go.Proofs.Ytjghdagcmombnaa.keep (looksO l o) ⟨n, envI l vals t0 (List.range i).reverse, m⟩) a w := ⟨hdf, hts, fun x => by
          by_cases hx : x ∈ looksO l o
          · show VR r1 (look (keepL (looksO l o) _) x) _
            rw [look_keep_mem hx, ← same x hx]; exact hv x
          · have : look (keepL (looksO l o) (envI l vals t0 (List.range i).reverse)) x = dead := by
              clear same
              generalize looksO l o = ks at hx
              induction ks with
              | nil => rfl
              | cons k ks ihk =>
                unfold keepL at *
                simp only [List.map_cons, look]
                have : (x == k) = false := by simp at hx ⊢; exact hx.1
                rw [this]
                exact ihk (fun h => hx (by simp [h]))
            show VR r1 (look (keepL (looksO l o) _) x) _
            rw [this]; exact VR.dead_any r1 _, hsim⟩
        have hwantk : ∀ b, wantA l o (envI l vals t0 (List.range i).reverse) = some b → Region.wanted o (yielded l.toArray a.tmps) = b := fun b hb => by
          refine want_sound (ops := l.toArray) hsr ?_
          rw [← hb]
          unfold wantA
          cases hg : o.guard with
          | none => rfl
          | some p =>
            obtain ⟨g, wnt⟩ := p
            simp only
            cases hgd : (l[g]?).bind (·.dst) with
            | none => simp
            | some d =>
              have hin : d ∈ looksO l o := by
                unfold looksO Oper.looksAt
                rw [hg]
                simp only [List.mem_append]
                right
                simpa using hgd
              simp only
              rw [show look (Go.Proofs.Ytjghdagcmombnaa.keep (looksO l o) ⟨n, envI l vals t0 (List.range i).reverse, m⟩).t d = look (envI l vals t0 (List.range i).reverse) d from look_keep_mem hin]
        -- one step further
        have go : ∀ (r2 : Ren) (a' : Act) (w' : World) (y : Value), Ext r1 r2 → Sim B0 w0 r2 m w' → a'.defers = [] → a'.tmps = (a.put o.dst y).tmps → (∀ d, o.dst = some d → d < n → VR r2 (vals i) y) → dlt o.dst n = true →
            wpAny P .any l.toArray (fun ex a' w' => ∃ r' s', Ext r r' ∧ SimSt B0 w0 r' s' a' w' ∧ Q ex s') fuel (listed.setIfInBounds i true) a' w' := by
          intro r2 a' w' y he2 hs2 hdf2 hta hvy hdl
          have hgi : ∀ k, (listed.setIfInBounds i true).getD k false = if k = i then true else listed.getD k false := fun k => by
            by_cases e : k = i
            · subst e
              rw [if_pos rfl, Array.getD_eq_getD_getElem?]
              simp [show k < listed.size by omega]
            · rw [if_neg e]; exact getD_set_ne false (fun h => e h.symm)
          have hli : ∀ (p : Nat → Bool), (listedI l.length (listed.setIfInBounds i true)).filter p = ((List.range' (i + 1) (l.length - (i + 1))).reverse.filter (fun k => p k && listed.getD k false)) ++ (if p i then [i] else []) ++ ((List.range i).reverse.filter (fun k => p k && listed.getD k false)) := fun p => by
            unfold listedI
            rw [List.filter_filter, range_split hil, List.filter_append, List.filter_cons, List.append_assoc]
            congr 1
            · refine List.filter_congr fun k hk => ?_
              rw [hgi, if_neg (by simp at hk; omega)]
            · rw [hgi i, if_pos rfl, Bool.and_true]
              have : ((List.range i).reverse).filter (fun a => p a && (listed.setIfInBounds i true).getD a false) = ((List.range i).reverse).filter (fun k => p k && listed.getD k false) :=
                List.filter_congr fun k hk => by rw [hgi, if_neg (by simp at hk; omega)]
              rw [this]
              cases p i <;> simp
          have hlo : ∀ (p : Nat → Bool), (listedI l.length listed).filter p = ((List.range' (i + 1) (l.length - (i + 1))).reverse.filter (fun k => p k && listed.getD k false)) ++ ((List.range i).reverse.filter (fun k => p k && listed.getD k false)) := fun p => by
            unfold listedI
            rw [List.filter_filter, range_split hil, List.filter_append, List.filter_cons, hiu]
            simp
          refine ih _ a' w' r2 (by simpa using hsz) ?_ (fun q hq => if e : q = i then by omega else hltL q (by rwa [hgi, if_neg e] at hq)) ?_ (he.trans he2) hs2 hdf2 ?_ ?_
          · have h1 := hli (fun _ => true)
            have h2 := hlo (fun _ => true)
            have e1 : ∀ q : List Nat, q.filter (fun _ => true) = q := fun q => List.filter_eq_self.2 (by simp)
            rw [e1] at h1 h2
            rw [h1]; rw [h2] at hcnt
            simp at hcnt ⊢
            omega
          · intro k ok hk hok e heo hb
            rw [hgi] at hk ⊢
            by_cases ek : e.on = i
            · rw [if_pos ek]
            · rw [if_neg ek]
              by_cases hki : k = i
              · subst hki; rw [ho] at hok; cases hok; exact hafter e heo hb
              · rw [if_neg hki] at hk; exact hcl k ok hk hok e heo hb
          · rw [hta]; cases hdst : o.dst <;> simp [Act.put, hts]
          · intro x
            rw [hta]
            rw [look_envI, hli]
            by_cases hx : writes l x i = true
            · have hdx : o.dst = some x := by
                obtain ⟨ok, hok, hdst⟩ := wr hx
                rw [ho] at hok; cases hok; exact hdst
              have e1 : (List.range' (i + 1) (l.length - (i + 1))).reverse.filter (fun k => writes l x k && listed.getD k false) = [] := by
                rw [List.filter_eq_nil_iff]
                intro k hk hh
                simp only [Bool.and_eq_true] at hh
                obtain ⟨ok, hok, hdst⟩ := wr hh.1
                have := back hok hdst (.inr hdx) hh.2
                simp at hk; omega
              rw [e1, if_pos hx]
              simp only [List.nil_append, List.cons_append, List.head?_cons]
              have hxn : x < n := by rw [hdx] at hdl; simpa [dlt, Nat.blt_eq] using hdl
              have : (a.put o.dst y).tmps.getD x undef = y := by
                rw [hdx]; simp [Act.put, show x < a.tmps.size by omega]
              rw [this]
              exact hvy x hdx hxn
            · rw [if_neg hx]
              have h2 := hv x
              rw [look_envI, hlo] at h2
              simp only [List.append_nil]
              have : (a.put o.dst y).tmps.getD x undef = a.tmps.getD x undef := by
                cases hdst : o.dst with
                | none => rfl
                | some d =>
                  have hne : d ≠ x := fun e => hx (by unfold writes; rw [ho]; simp [hdst, e])
                  simp [Act.put, Array.getElem?_setIfInBounds_ne hne]
              rw [this]
              exact h2.mono he2
        obtain ⟨hdl, hcase⟩ := htold i o (Nat.zero_le _) hiL ho
        unfold wpOp
        simp only [List.getElem?_toArray, ho]
        rcases hcase with ⟨hw, hq⟩ | ⟨hw, hu⟩
        · rw [if_pos (hwantk true hw)]
          refine .inl (Oper.wp_mono (fun a' w' ⟨⟨r2, s', he2, hs2, hs'⟩, y, ds, ha'⟩ => ?_) (wp_put (hq B0 w0 r1 a w _ hsr)))
          subst hs'
          have htm : a'.tmps = (a.put o.dst y).tmps := by rw [ha']; cases o.dst <;> rfl
          refine go r2 a' w' y he2 ?_ hs2.defers htm (fun d hdd hdn => ?_) hdl
          · have := hs2.sim
            cases hdd : o.dst <;> rw [hdd] at this <;> exact this
          · have := hs2.vals d
            rw [hdd] at this htm
            rw [htm] at this
            simp only [St.put, look, beq_self_eq_true, cond_true, Act.put] at this
            simpa [show d < a.tmps.size by rw [hts]; exact hdn] using this
        · rw [if_neg (by rw [hwantk false hw]; simp)]
          exact go r1 _ w undef (Ext.refl r1) hsim (by cases o.dst <;> exact hdf) rfl (fun _ _ _ => by rw [hu]; exact undef_VR r1) hdl
  have hempty : ∀ k, (Array.replicate l.length false).getD k false = false := fun k => by simp [Array.getElem?_replicate]; split <;> rfl
  have hl0 : listedI l.length (Array.replicate l.toArray.size false) = [] := by
    unfold listedI
    rw [List.filter_eq_nil_iff]
    intro k _ hh
    simp only [List.size_toArray] at hh
    rw [hempty] at hh; cases hh
  refine key l.toArray.size _ a _ r (by simp) (by rw [hl0]; simp) (fun i hi => ?_) (fun i o hi => ?_) (Ext.refl r) ?_ hs.defers hs.size (by rw [hl0]; exact hs.vals)
  · simp only [List.size_toArray] at hi
    rw [hempty] at hi; cases hi
  · simp only [List.size_toArray] at hi
    rw [hempty] at hi; cases hi
  · have := hs.sim
    exact ⟨⟨this.below.os, this.below.tape, this.below.output, this.below.size, this.below.block⟩, this.base, this.dom, this.lt, this.blk, this.inj⟩
end
end Go.Proofs.Ytjghdagcmombnaa
