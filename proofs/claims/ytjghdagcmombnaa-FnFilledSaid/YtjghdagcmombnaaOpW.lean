/- Regions whose order is open, and whose operations may change memory: mem S is the clean memory where the operations S have come. No program in sight. -/
import Derived.Test.YtjghdagcmombnaaOrd

namespace Go.Proofs.Ytjghdagcmombnaa
open Go.RowKit
set_option linter.unusedSimpArgs false
set_option linter.unusedVariables false

/-- The set with one more. -/
def withI (S : Nat → Bool) (i : Nat) : Nat → Bool := fun q => if q = i then true else S q
/-- One operation, whatever has come beside it. -/
def OW (P : Program) (ops : List Oper) (mem : (Nat → Bool) → Mem) (i : Nat) (o : Oper) (n : Nat) (t : Env) (v : Value) : Prop :=
  ∀ S : Nat → Bool, (∀ p, p ∈ (pres ops).getD i [] → S p = true) → (∀ p, i ∈ (pres ops).getD p [] → S p = false) → S i = false →
    AO P o (fun s' => s' = (⟨n, keepL (looksO ops o) t, mem (withI S i)⟩ : St).put o.dst v) ⟨n, keepL (looksO ops o) t, mem S⟩
def AQW (P : Program) (ops : List Oper) (mem : (Nat → Bool) → Mem) (n : Nat) : List Oper → (St → Prop) → Env → Prop
  | [], K, t => K ⟨n, t, mem fun _ => true⟩
  | o :: l, K, t =>
    match wantA ops o t with
    | some true => dlt o.dst n = true ∧ ∃ v, OW P ops mem (ops.length - (l.length + 1)) o n t v ∧ AQW P ops mem n l K ((⟨n, t, []⟩ : St).put o.dst v).t
    | some false => (dlt o.dst n = true ∧ ∀ S, mem (withI S (ops.length - (l.length + 1))) = mem S) ∧ AQW P ops mem n l K ((⟨n, t, []⟩ : St).put o.dst undef).t
    | none => False

section
variable {P : Program}
theorem pres_len (l : List Oper) : (pres l).length = l.length := by
  have key : ∀ (l : List Oper) (acc : List (List Nat)), (l.foldl (fun acc o => acc ++ [o.after.toList.foldl (fun s e => if Region.binds .any e then (if s.contains e.on then s else e.on :: (s ++ (acc.getD e.on []).filter fun x => !s.contains x && x != e.on)) else s) []]) acc).length = acc.length + l.length := by
    intro l
    induction l with
    | nil => intro acc; simp
    | cons o l ih => intro acc; rw [List.foldl_cons, ih]; simp; omega
  have := key l []
  simpa [pres] using this

/-- The walk, told index by index. -/
theorem AQW.told {ops : List Oper} {mem : (Nat → Bool) → Mem} {K : St → Prop} {n : Nat} {t0 : Env} : ∀ (l : List Oper) (k : Nat) (vals : Nat → Value) , (∀ j, l[j]? = ops[k + j]?) →
    AQW P ops mem n l K (envI ops vals t0 (List.range k).reverse) →
    ∃ (vals' : Nat → Value), (∀ j, j < k → vals' j = vals j) ∧ (∀ i o, k ≤ i → ops[i]? = some o → dlt o.dst n = true ∧
        ((wantA ops o (envI ops vals' t0 (List.range i).reverse) = some true ∧ OW P ops mem i o n (envI ops vals' t0 (List.range i).reverse) (vals' i)) ∨
         (wantA ops o (envI ops vals' t0 (List.range i).reverse) = some false ∧ vals' i = undef ∧ ∀ S, mem (withI S i) = mem S))) ∧
      K ⟨n, envI ops vals' t0 (List.range ops.length).reverse, mem fun _ => true⟩ := by
  have cong : ∀ (vals vals' : Nat → Value) (t : Env) (is : List Nat), (∀ j ∈ is, vals j = vals' j) → envI ops vals t is = envI ops vals' t is := by
    intro vals vals' t is
    induction is with
    | nil => intro _; rfl
    | cons i is ih =>
      intro h
      have e := ih (fun j hj => h j (by simp [hj]))
      cases hd : (ops[i]?).bind (·.dst) with
      | none => rw [envI_none hd, envI_none hd, e]
      | some d => rw [envI_some hd, envI_some hd, e, h i (by simp)]
  intro l
  induction l with
  | nil =>
    intro k vals hl h
    have hk : ops.length ≤ k := by
      have := hl 0
      simp at this
      exact this
    refine ⟨vals, fun _ _ => rfl, fun i o hi ho => ?_, ?_⟩
    · have := (List.getElem?_eq_some_iff.1 ho).1; omega
    · have h' : K ⟨n, envI ops vals t0 (List.range k).reverse, mem fun _ => true⟩ := h
      have e : envI ops vals t0 (List.range k).reverse = envI ops vals t0 (List.range ops.length).reverse := by
        clear h h'
        obtain ⟨q, rfl⟩ : ∃ q, k = ops.length + q := ⟨k - ops.length, by omega⟩
        clear hl hk
        induction q with
        | zero => rfl
        | succ q ih =>
          have : (ops[ops.length + q]?).bind (·.dst) = none := by simp
          rw [← Nat.add_assoc, range_rev, envI_none this]
          exact ih
      rwa [e] at h'
  | cons o l ih =>
    intro k vals hl h
    have h0 : ops[k]? = some o := by simpa using (hl 0).symm
    unfold AQW at h
    have hkl : ops.length - (l.length + 1) = k := by
      have hdrop : ops.drop k = o :: l := List.ext_getElem? fun j => by rw [List.getElem?_drop]; exact (hl j).symm
      have := congrArg List.length hdrop
      rw [List.length_drop] at this
      have hk := (List.getElem?_eq_some_iff.1 h0).1
      simp at this; omega
    rw [hkl] at h
    have hl' : ∀ j, l[j]? = ops[k + 1 + j]? := fun j => by have := hl (j + 1); simpa [Nat.add_assoc, Nat.add_comm 1 j] using this
    have step : ∀ v, AQW P ops mem n l K ((⟨n, envI ops vals t0 (List.range k).reverse, []⟩ : St).put o.dst v).t →
        AQW P ops mem n l K (envI ops (fun j => if j = k then v else vals j) t0 (List.range (k + 1)).reverse) := fun v hq => by
      have e : envI ops (fun j => if j = k then v else vals j) t0 (List.range (k + 1)).reverse = ((⟨n, envI ops vals t0 (List.range k).reverse, []⟩ : St).put o.dst v).t := by
        have ec := cong (fun j => if j = k then v else vals j) vals t0 (List.range k).reverse (fun j hj => by
          have : j < k := by simpa using hj
          simp; omega)
        rw [range_rev]
        cases hd : o.dst with
        | none => rw [envI_none (by rw [h0]; exact hd), ec]; rfl
        | some d => rw [envI_some (d := d) (by rw [h0]; exact hd), ec]; simp [St.put]
      rw [e]; exact hq
    have fin : ∀ v, dlt o.dst n = true → AQW P ops mem n l K ((⟨n, envI ops vals t0 (List.range k).reverse, []⟩ : St).put o.dst v).t →
        ((wantA ops o (envI ops vals t0 (List.range k).reverse) = some true ∧ OW P ops mem k o n (envI ops vals t0 (List.range k).reverse) v) ∨
         (wantA ops o (envI ops vals t0 (List.range k).reverse) = some false ∧ v = undef ∧ ∀ S, mem (withI S k) = mem S)) →
        ∃ (vals' : Nat → Value), (∀ j, j < k → vals' j = vals j) ∧ (∀ i o, k ≤ i → ops[i]? = some o → dlt o.dst n = true ∧
        ((wantA ops o (envI ops vals' t0 (List.range i).reverse) = some true ∧ OW P ops mem i o n (envI ops vals' t0 (List.range i).reverse) (vals' i)) ∨
         (wantA ops o (envI ops vals' t0 (List.range i).reverse) = some false ∧ vals' i = undef ∧ ∀ S, mem (withI S i) = mem S))) ∧
      K ⟨n, envI ops vals' t0 (List.range ops.length).reverse, mem fun _ => true⟩ := fun v hd hq hw => by
      obtain ⟨vals', h1, h2, h3⟩ := ih (k + 1) (fun j => if j = k then v else vals j) hl' (step v hq)
      have hlow : ∀ j, j < k → vals' j = vals j := fun j hj => by rw [h1 j (by omega), if_neg (by omega)]
      refine ⟨vals', hlow, fun i o' hi ho' => ?_, h3⟩
      by_cases e : i = k
      · subst e
        rw [h0] at ho'; cases ho'
        have ec : envI ops vals' t0 (List.range i).reverse = envI ops vals t0 (List.range i).reverse := cong _ _ _ _ fun j hj => hlow j (by simpa using hj)
        have ev : vals' i = v := by rw [h1 i (by omega), if_pos rfl]
        rw [ec, ev]
        exact ⟨hd, hw⟩
      · exact h2 i o' (by omega) ho'
    cases hw : wantA ops o (envI ops vals t0 (List.range k).reverse) with
    | none => simp only [hw] at h
    | some b =>
      simp only [hw] at h
      cases b with
      | true =>
        obtain ⟨hd, v, hq, hr⟩ := h
        exact fin v hd hr (.inl ⟨hw, hq⟩)
      | false => exact fin undef h.1.1 h.2 (.inr ⟨hw, rfl, h.1.2⟩)

theorem AW.drawW {id : Nat} {l : List Oper} {Q : Exit → St → Prop} {n : Nat} {t0 : Env} {m : Mem} (mem : (Nat → Bool) → Mem) (hm0 : (mem fun q => bif Nat.blt q l.length then false else true) = m) (hm : P.follows .mixedOrders = true) (hd : drawOk l = true) (h : AQW P l mem n l (Q .normal) t0) : AW P (.region id l.toArray true) Q ⟨n, t0, m⟩ := by
  intro B0 w0 r a w hs
  obtain ⟨hsel, hedge, hpre, hslot⟩ := drawOk_parts hd
  obtain ⟨vals, _, htold, hK⟩ := AQW.told (P := P) (ops := l) (mem := mem) l 0 (fun _ => undef) (by simp) (by simpa [envI] using h)
  refine wp_region_any hm ?_
  have slots : ∀ {i k oi ok d}, l[i]? = some oi → l[k]? = some ok → ok.dst = some d → i ≠ k → (d ∈ looksO l oi ∨ oi.dst = some d) → (k < i → k ∈ (pres l).getD i []) ∧ (i < k → i ∈ (pres l).getD k []) := by
    intro i k oi ok d hi hk hdst hne hl
    have hq := hslot
    unfold slotsOk at hq
    rw [List.all_eq_true] at hq
    have h1 := hq i (List.mem_range.2 (List.getElem?_eq_some_iff.1 hi).1)
    rw [List.all_eq_true] at h1
    have h2 := h1 k (List.mem_range.2 (List.getElem?_eq_some_iff.1 hk).1)
    simp only [hi, hk, hdst, Bool.or_eq_true] at h2
    rcases h2 with h2 | h2 | h2
    · exact (hne (eq_of_beq h2)).elim
    · simp only [Bool.and_eq_true, Bool.not_eq_true', bne_iff_ne] at h2
      rcases hl with hl | hl
      · have := h2.1; simp [hl] at this
      · exact (h2.2 hl).elim
    · constructor
      · intro hlt
        rw [if_pos (by simpa [Nat.blt_eq] using hlt)] at h2
        simpa using h2
      · intro hlt
        rw [if_neg (by simp; omega)] at h2
        simpa using h2
  have mcong : ∀ (A B : Nat → Bool), (∀ q, A q = B q) → mem A = mem B := fun A B h => by rw [funext h]
  have key : ∀ (fuel : Nat) (listed : Array Bool) (a : Act) (w : World) (r1 : Ren), listed.size = l.length → (listedI l.length listed).length + fuel = l.length →
      (∀ i o, listed.getD i false = true → l[i]? = some o → ∀ e ∈ o.after, Region.binds .any e = true → listed.getD e.on false = true) →
      Ext r r1 → Sim B0 w0 r1 (mem fun q => bif Nat.blt q l.length then listed.getD q false else true) w → a.defers = [] → a.tmps.size = n → (∀ x, VR r1 (look (envI l vals t0 (listedI l.length listed)) x) (a.tmps.getD x undef)) →
      wpAny P .any l.toArray (fun ex a' w' => ∃ r' s', Ext r r' ∧ SimSt B0 w0 r' s' a' w' ∧ Q ex s') fuel listed a w := by
    intro fuel
    induction fuel with
    | zero =>
      intro listed a w r1 hsz hcnt hcl he hsim hdf hts hv
      have hall : ∀ i, i < l.length → listed.getD i false = true := by
        have hlen : (listedI l.length listed).length = ((List.range l.length).reverse).length := by simp; omega
        have := List.length_filter_eq_length_iff.1 hlen
        intro i hi
        exact this i (by simpa using hi)
      have hli : listedI l.length listed = (List.range l.length).reverse := by
        unfold listedI
        exact List.filter_eq_self.2 fun i hi => hall i (by simpa using hi)
      have hme : (mem fun q => bif Nat.blt q l.length then listed.getD q false else true) = mem fun _ => true := mcong _ _ fun q => by
        cases hq : Nat.blt q l.length
        · rfl
        · rw [cond_true]; exact hall q (by simpa [Nat.blt_eq] using hq)
      rw [hme] at hsim
      refine ⟨?_, r1, ⟨n, _, mem fun _ => true⟩, he, ⟨hdf, hts, by rw [hli] at hv; exact hv, hsim⟩, hK⟩
      cases hr : Region.ready .any l.toArray listed with
      | nil => rfl
      | cons i is =>
        have := mem_ready.1 (show i ∈ Region.ready .any l.toArray listed by rw [hr]; simp)
        obtain ⟨h1, o, h2, _⟩ := this
        have hi : i < l.length := by have := (Array.getElem?_eq_some_iff.1 h2).1; simpa using this
        have h3 := hall i hi
        rw [Array.getD_eq_getD_getElem?] at h1 h3
        cases hx : listed[i]? with
        | none => simp [hx] at h3
        | some y => simp [hx] at h1 h3; rw [h1] at h3; cases h3
    | succ fuel ih =>
      intro listed a w r1 hsz hcnt hcl he hsim hdf hts hv
      have unl : ∀ {i}, i ∈ Region.ready .any l.toArray listed → i < l.length ∧ listed.getD i false = false ∧ ∃ o, l[i]? = some o ∧ ∀ e ∈ o.after, Region.binds .any e = true → listed.getD e.on false = true := fun {i} hi => by
        obtain ⟨h1, o, h2, h3⟩ := mem_ready.1 hi
        have hi' : i < l.length := by have := (Array.getElem?_eq_some_iff.1 h2).1; simpa using this
        refine ⟨hi', ?_, o, by simpa using h2, h3⟩
        rw [Array.getD_eq_getD_getElem?] at h1 ⊢
        cases hx : listed[i]? with
        | none => rfl
        | some y => simp [hx] at h1; simp [h1]
      refine ⟨fun hr => ?_, fun i hi => ?_⟩
      · -- none is ready, but one is left: the least of those
        exfalso
        have hex : ∃ i, i < l.length ∧ listed.getD i false = false := by
          refine Classical.byContradiction fun hno => ?_
          have hall : ∀ i, i < l.length → listed.getD i false = true := fun i hi => by
            cases hx : listed.getD i false
            · exact (hno ⟨i, hi, hx⟩).elim
            · rfl
          have : listedI l.length listed = (List.range l.length).reverse := by
            unfold listedI
            exact List.filter_eq_self.2 fun i hi => hall i (by simpa using hi)
          rw [this] at hcnt; simp at hcnt
        have least : ∀ k i, i ≤ k → i < l.length → listed.getD i false = false → ∃ j, j < l.length ∧ listed.getD j false = false ∧ ∀ q, q < j → listed.getD q false = true := by
          intro k
          induction k with
          | zero => intro i hi h1 h2; exact ⟨i, h1, h2, fun q hq => by omega⟩
          | succ k ihk =>
            intro i hi h1 h2
            by_cases hq : ∃ q, q < i ∧ listed.getD q false = false
            · obtain ⟨q, hq1, hq2⟩ := hq
              exact ihk q (by omega) (by omega) hq2
            · refine ⟨i, h1, h2, fun q hq' => ?_⟩
              cases hx : listed.getD q false
              · exact (hq ⟨q, hq', hx⟩).elim
              · rfl
        obtain ⟨i, hi1, hi2⟩ := hex
        obtain ⟨j, hj1, hj2, hj3⟩ := least i i (Nat.le_refl _) hi1 hi2
        have hmem : j ∈ Region.ready .any l.toArray listed := by
          rw [mem_ready]
          refine ⟨?_, l[j], by simp [hj1], fun e he hb => hj3 _ (edges_lt hedge (i := j) (by simp [hj1]) he hb)⟩
          rw [Array.getD_eq_getD_getElem?] at hj2 ⊢
          have hjs : j < listed.size := by omega
          simp [hjs] at hj2 ⊢
          exact hj2
        rw [hr] at hmem; cases hmem
      · obtain ⟨hil, hiu, o, ho, hafter⟩ := unl hi
        -- who writes a slot that o looks at or writes, and has come up, stands before i
        have back : ∀ {k ok d}, l[k]? = some ok → ok.dst = some d → (d ∈ looksO l o ∨ o.dst = some d) → listed.getD k false = true → k < i := fun {k ok d} hk hdst hl hlk => by
          by_cases hki : k < i
          · exact hki
          · exfalso
            by_cases e : i = k
            · subst e; rw [hiu] at hlk; cases hlk
            · have := (slots ho hk hdst e hl).2 (by omega)
              have hcome := pre_listed hpre (L := fun q => listed.getD q false = true) hcl k ok hk (hcl k ok hlk hk) i this
              rw [hiu] at hcome; cases hcome
        have fore : ∀ {k ok d}, l[k]? = some ok → ok.dst = some d → d ∈ looksO l o → k < i → listed.getD k false = true := fun {k ok d} hk hdst hl hki => by
          have := (slots ho hk hdst (by omega) (.inl hl)).1 hki
          exact pre_listed hpre (L := fun q => listed.getD q false = true) hcl i o ho hafter k this
        have wr : ∀ {x k}, writes l x k = true → ∃ ok, l[k]? = some ok ∧ ok.dst = some x := fun {x k} hw => by
          unfold writes at hw
          cases hk : l[k]? with
          | none => rw [hk] at hw; simp at hw
          | some ok => rw [hk] at hw; exact ⟨ok, rfl, by simpa using hw⟩
        have same : ∀ x, x ∈ looksO l o → look (envI l vals t0 (listedI l.length listed)) x = look (envI l vals t0 (List.range i).reverse) x := fun x hx => by
          rw [look_envI, look_envI]
          have : (listedI l.length listed).filter (writes l x) = ((List.range i).reverse).filter (writes l x) := by
            unfold listedI
            rw [List.filter_filter, range_split hil, List.filter_append, List.filter_cons]
            have e1 : ((List.range' (i + 1) (l.length - (i + 1))).reverse).filter (fun a => writes l x a && listed.getD a false) = [] := by
              rw [List.filter_eq_nil_iff]
              intro k hk hh
              simp only [Bool.and_eq_true] at hh
              obtain ⟨ok, hok, hdst⟩ := wr hh.1
              have := back hok hdst (.inl hx) hh.2
              simp at hk; omega
            have e2 : (writes l x i && listed.getD i false) = false := by rw [hiu]; simp
            rw [e1, e2, List.nil_append]
            simp only [Bool.false_eq_true, if_false]
            refine List.filter_congr fun k hk => ?_
            cases hw : writes l x k
            · rfl
            · obtain ⟨ok, hok, hdst⟩ := wr hw
              rw [fore hok hdst hx (by simpa using hk)]; rfl
          rw [this]
        have hst : ∀ {r2 : Ren} , Ext r1 r2 → True := fun _ => trivial
        have hsr : SimSt B0 w0 r1 ⟨n, keepL (looksO l o) (envI l vals t0 (List.range i).reverse), mem fun q => bif Nat.blt q l.length then listed.getD q false else true⟩ a w := ⟨hdf, hts, fun x => by
          by_cases hx : x ∈ looksO l o
          · show VR r1 (look (keepL (looksO l o) _) x) _
            rw [look_keep_mem hx, ← same x hx]; exact hv x
          · have : look (keepL (looksO l o) (envI l vals t0 (List.range i).reverse)) x = dead := by
              clear same
              generalize looksO l o = ks at hx
              induction ks with
              | nil => rfl
              | cons k ks ihk =>
                unfold keepL at *
                simp only [List.map_cons, look]
                have : (x == k) = false := by simp at hx ⊢; exact hx.1
                rw [this]
                exact ihk (fun h => hx (by simp [h]))
            show VR r1 (look (keepL (looksO l o) _) x) _
            rw [this]; exact VR.dead_any r1 _, hsim⟩
        have hwantk : ∀ b, wantA l o (envI l vals t0 (List.range i).reverse) = some b → Region.wanted o (yielded l.toArray a.tmps) = b := fun b hb => by
          refine want_sound (ops := l.toArray) hsr ?_
          rw [← hb]
          unfold wantA
          cases hg : o.guard with
          | none => rfl
          | some p =>
            obtain ⟨g, wnt⟩ := p
            simp only
            cases hgd : (l[g]?).bind (·.dst) with
            | none => simp
            | some d =>
              have hin : d ∈ looksO l o := by
                unfold looksO Oper.looksAt
                rw [hg]
                simp only [List.mem_append]
                right
                simpa using hgd
              simp only
              rw [show look (keepL (looksO l o) (envI l vals t0 (List.range i).reverse)) d = look (envI l vals t0 (List.range i).reverse) d from look_keep_mem hin]
        -- one step further
        have go : ∀ (r2 : Ren) (a' : Act) (w' : World) (y : Value), Ext r1 r2 → Sim B0 w0 r2 (mem (withI (fun q => bif Nat.blt q l.length then listed.getD q false else true) i)) w' → a'.defers = [] → a'.tmps = (a.put o.dst y).tmps → (∀ d, o.dst = some d → d < n → VR r2 (vals i) y) → dlt o.dst n = true →
            wpAny P .any l.toArray (fun ex a' w' => ∃ r' s', Ext r r' ∧ SimSt B0 w0 r' s' a' w' ∧ Q ex s') fuel (listed.setIfInBounds i true) a' w' := by
          intro r2 a' w' y he2 hs2 hdf2 hta hvy hdl
          have hgi : ∀ k, (listed.setIfInBounds i true).getD k false = if k = i then true else listed.getD k false := fun k => by
            by_cases e : k = i
            · subst e
              rw [if_pos rfl, Array.getD_eq_getD_getElem?]
              simp [show k < listed.size by omega]
            · rw [if_neg e]; exact getD_set_ne false (fun h => e h.symm)
          have hli : ∀ (p : Nat → Bool), (listedI l.length (listed.setIfInBounds i true)).filter p = ((List.range' (i + 1) (l.length - (i + 1))).reverse.filter (fun k => p k && listed.getD k false)) ++ (if p i then [i] else []) ++ ((List.range i).reverse.filter (fun k => p k && listed.getD k false)) := fun p => by
            unfold listedI
            rw [List.filter_filter, range_split hil, List.filter_append, List.filter_cons, List.append_assoc]
            congr 1
            · refine List.filter_congr fun k hk => ?_
              rw [hgi, if_neg (by simp at hk; omega)]
            · rw [hgi i, if_pos rfl, Bool.and_true]
              have : ((List.range i).reverse).filter (fun a => p a && (listed.setIfInBounds i true).getD a false) = ((List.range i).reverse).filter (fun k => p k && listed.getD k false) :=
                List.filter_congr fun k hk => by rw [hgi, if_neg (by simp at hk; omega)]
              rw [this]
              cases p i <;> simp
          have hlo : ∀ (p : Nat → Bool), (listedI l.length listed).filter p = ((List.range' (i + 1) (l.length - (i + 1))).reverse.filter (fun k => p k && listed.getD k false)) ++ ((List.range i).reverse.filter (fun k => p k && listed.getD k false)) := fun p => by
            unfold listedI
            rw [List.filter_filter, range_split hil, List.filter_append, List.filter_cons, hiu]
            simp
          have hme : (mem (withI (fun q => bif Nat.blt q l.length then listed.getD q false else true) i)) = mem fun q => bif Nat.blt q l.length then (listed.setIfInBounds i true).getD q false else true := mcong _ _ fun q => by
            unfold withI
            rw [hgi]
            by_cases e : q = i
            · subst e; simp [Nat.blt_eq, hil]
            · simp [e]
          rw [hme] at hs2
          refine ih _ a' w' r2 (by simpa using hsz) ?_ ?_ (he.trans he2) hs2 hdf2 ?_ ?_
          · have h1 := hli (fun _ => true)
            have h2 := hlo (fun _ => true)
            have e1 : ∀ q : List Nat, q.filter (fun _ => true) = q := fun q => List.filter_eq_self.2 (by simp)
            rw [e1] at h1 h2
            rw [h1]; rw [h2] at hcnt
            simp at hcnt ⊢
            omega
          · intro k ok hk hok e heo hb
            rw [hgi] at hk ⊢
            by_cases ek : e.on = i
            · rw [if_pos ek]
            · rw [if_neg ek]
              by_cases hki : k = i
              · subst hki; rw [ho] at hok; cases hok; exact hafter e heo hb
              · rw [if_neg hki] at hk; exact hcl k ok hk hok e heo hb
          · rw [hta]; cases hdst : o.dst <;> simp [Act.put, hts]
          · intro x
            rw [hta]
            rw [look_envI, hli]
            by_cases hx : writes l x i = true
            · have hdx : o.dst = some x := by
                obtain ⟨ok, hok, hdst⟩ := wr hx
                rw [ho] at hok; cases hok; exact hdst
              have e1 : (List.range' (i + 1) (l.length - (i + 1))).reverse.filter (fun k => writes l x k && listed.getD k false) = [] := by
                rw [List.filter_eq_nil_iff]
                intro k hk hh
                simp only [Bool.and_eq_true] at hh
                obtain ⟨ok, hok, hdst⟩ := wr hh.1
                have := back hok hdst (.inr hdx) hh.2
                simp at hk; omega
              rw [e1, if_pos hx]
              simp only [List.nil_append, List.cons_append, List.head?_cons]
              have hxn : x < n := by rw [hdx] at hdl; simpa [dlt, Nat.blt_eq] using hdl
              have : (a.put o.dst y).tmps.getD x undef = y := by
                rw [hdx]; simp [Act.put, show x < a.tmps.size by omega]
              rw [this]
              exact hvy x hdx hxn
            · rw [if_neg hx]
              have h2 := hv x
              rw [look_envI, hlo] at h2
              simp only [List.append_nil]
              have : (a.put o.dst y).tmps.getD x undef = a.tmps.getD x undef := by
                cases hdst : o.dst with
                | none => rfl
                | some d =>
                  have hne : d ≠ x := fun e => hx (by unfold writes; rw [ho]; simp [hdst, e])
                  simp [Act.put, Array.getElem?_setIfInBounds_ne hne]
              rw [this]
              exact h2.mono he2
        obtain ⟨hdl, hcase⟩ := htold i o (Nat.zero_le _) ho
        unfold wpOp
        simp only [List.getElem?_toArray, ho]
        have hS1 : ∀ p, p ∈ (pres l).getD i [] → (bif Nat.blt p l.length then listed.getD p false else true) = true := fun p hp => by
          cases Nat.blt p l.length
          · rfl
          · exact pre_listed hpre (L := fun q => listed.getD q false = true) hcl i o ho hafter p hp
        have hS2 : ∀ p, i ∈ (pres l).getD p [] → (bif Nat.blt p l.length then listed.getD p false else true) = false := fun p hp => by
          have hpl : p < l.length := by
            by_cases h : p < l.length
            · exact h
            · exfalso
              have : (pres l).getD p [] = [] := by
                rw [List.getD_eq_getElem?_getD, List.getElem?_eq_none (by rw [pres_len]; omega)]; rfl
              rw [this] at hp; cases hp
          rw [show Nat.blt p l.length = true by simpa [Nat.blt_eq] using hpl, cond_true]
          cases hlp : listed.getD p false
          · rfl
          · exfalso
            obtain ⟨op, hop⟩ : ∃ op, l[p]? = some op := ⟨l[p], by simp [hpl]⟩
            have := pre_listed hpre (L := fun q => listed.getD q false = true) hcl p op hop (hcl p op hlp hop) i hp
            rw [hiu] at this; cases this
        have hS3 : (bif Nat.blt i l.length then listed.getD i false else true) = false := by
          rw [show Nat.blt i l.length = true by simpa [Nat.blt_eq] using hil, cond_true]; exact hiu
        rcases hcase with ⟨hw, hq⟩ | ⟨hw, hu, hmS⟩
        · rw [if_pos (hwantk true hw)]
          refine .inl (Oper.wp_mono (fun a' w' ⟨⟨r2, s', he2, hs2, hs'⟩, y, ds, ha'⟩ => ?_) (wp_put (hq _ hS1 hS2 hS3 B0 w0 r1 a w _ hsr)))
          subst hs'
          have htm : a'.tmps = (a.put o.dst y).tmps := by rw [ha']; cases o.dst <;> rfl
          refine go r2 a' w' y he2 ?_ hs2.defers htm (fun d hdd hdn => ?_) hdl
          · have := hs2.sim
            cases hdd : o.dst <;> rw [hdd] at this <;> exact this
          · have := hs2.vals d
            rw [hdd] at this htm
            rw [htm] at this
            simp only [St.put, look, beq_self_eq_true, cond_true, Act.put] at this
            simpa [show d < a.tmps.size by rw [hts]; exact hdn] using this
        · rw [if_neg (by rw [hwantk false hw]; simp)]
          exact go r1 _ w undef (Ext.refl r1) (by rw [hmS]; exact hsim) (by cases o.dst <;> exact hdf) rfl (fun _ _ _ => by rw [hu]; exact undef_VR r1) hdl
  have hempty : ∀ k, (Array.replicate l.length false).getD k false = false := fun k => by simp [Array.getElem?_replicate]; split <;> rfl
  have hl0 : listedI l.length (Array.replicate l.toArray.size false) = [] := by
    unfold listedI
    rw [List.filter_eq_nil_iff]
    intro k _ hh
    simp only [List.size_toArray] at hh
    rw [hempty] at hh; cases hh
  refine key l.toArray.size _ a _ r (by simp) (by rw [hl0]; simp) (fun i o hi => ?_) (Ext.refl r) ?_ hs.defers hs.size (by rw [hl0]; exact hs.vals)
  · simp only [List.size_toArray] at hi
    rw [hempty] at hi; cases hi
  · have h1 : (mem fun q => bif Nat.blt q l.length then (Array.replicate l.toArray.size false).getD q false else true) = mem fun q => bif Nat.blt q l.length then false else true := mcong _ _ fun q => by
      simp only [List.size_toArray]
      rw [hempty]
    rw [h1, hm0]
    have := hs.sim
    exact ⟨⟨this.below.os, this.below.tape, this.below.output, this.below.size, this.below.block⟩, this.base, this.dom, this.lt, this.blk, this.inj⟩
end

/-! ### Rules -/
/-- How an operation stands to one that changes memory. -/
inductive Kn where
  | yes
  | no
  | free
  | self
  deriving DecidableEq
def knW (ops : List Oper) (p i : Nat) : Kn := bif Nat.beq p i then .self else bif ((pres ops).getD i []).contains p then .yes else bif ((pres ops).getD p []).contains i then .no else .free
def ObK : Kn → (Bool → Prop) → Prop
  | .yes, f => f true
  | .no, f => f false
  | .free, f => f false ∧ f true
  | .self, f => f false
def aft : Kn → Bool → Bool
  | .self, _ => true
  | _, c => c
theorem ObK.at {ops : List Oper} {p i : Nat} {S : Nat → Bool} {f : Bool → Prop} (h : ObK (knW ops p i) f) (h1 : ∀ q, q ∈ (pres ops).getD i [] → S q = true) (h2 : ∀ q, i ∈ (pres ops).getD q [] → S q = false) (h3 : S i = false) :
    f (S p) ∧ withI S i p = aft (knW ops p i) (S p) := by
  unfold knW at h ⊢
  unfold withI
  cases hb : Nat.beq p i
  · have hne : p ≠ i := fun e => by subst e; simp at hb
    rw [hb] at h
    simp only [cond_false, if_neg hne] at h ⊢
    cases hc : ((pres ops).getD i []).contains p
    · rw [hc] at h
      simp only [cond_false] at h ⊢
      cases hd : ((pres ops).getD p []).contains i
      · rw [hd] at h
        simp only [cond_false, ObK, aft] at h ⊢
        cases S p
        · exact ⟨h.1, trivial⟩
        · exact ⟨h.2, trivial⟩
      · rw [hd] at h
        simp only [cond_true, ObK, aft] at h ⊢
        rw [h2 p (by simpa using hd)]
        exact ⟨h, trivial⟩
    · rw [hc] at h
      simp only [cond_true, ObK, aft] at h ⊢
      rw [h1 p (by simpa using hc)]
      exact ⟨h, trivial⟩
  · have e : p = i := Nat.eq_of_beq_eq_true hb
    subst e
    rw [hb] at h
    simp only [cond_true, ObK, aft, if_true] at h ⊢
    rw [h3]
    exact ⟨h, trivial⟩

def mem1 (p : Nat) (m0 m1 : Mem) (S : Nat → Bool) : Mem := bif S p then m1 else m0
def mem2 (p q : Nat) (m0 m1 m2 m12 : Mem) (S : Nat → Bool) : Mem := bif S p then (bif S q then m12 else m1) else (bif S q then m2 else m0)
section
variable {P : Program} {ops l : List Oper} {K : St → Prop} {n : Nat} {t : Env} {m0 m1 m2 m12 : Mem} {d ty : Nat} {pos : String} {af : Array Edge} {op : Op} {p q : Nat}
theorem AW.openW1 [hm : MixT P] {id : Nat} {Q : Exit → St → Prop} (p : Nat) (m1 : Mem) (hp : Nat.blt p l.length = true := by rfl) (hd : drawOk l = true := by kernel_rfl) (h : AQW P l (mem1 p m0 m1) n l (Q .normal) t) : AW P (.region id l.toArray true) Q ⟨n, t, m0⟩ :=
  AW.drawW (mem1 p m0 m1) (by simp only [mem1, hp]; rfl) hm.out hd h
theorem AW.openW2 [hm : MixT P] {id : Nat} {Q : Exit → St → Prop} (p q : Nat) (m1 m2 m12 : Mem) (hp : Nat.blt p l.length = true := by rfl) (hq : Nat.blt q l.length = true := by rfl) (hd : drawOk l = true := by kernel_rfl) (h : AQW P l (mem2 p q m0 m1 m2 m12) n l (Q .normal) t) : AW P (.region id l.toArray true) Q ⟨n, t, m0⟩ :=
  AW.drawW (mem2 p q m0 m1 m2 m12) (by simp only [mem2, hp, hq]; rfl) hm.out hd h
theorem AW.openW1M [hm : MixT P] {id : Nat} {Q : Exit → St → Prop} (m0' : Mem) (p : Nat) (m1 : Mem) (he : m0 = m0' := by rfl) (hp : Nat.blt p l.length = true := by rfl) (hd : drawOk l = true := by kernel_rfl) (h : AQW P l (mem1 p m0 m1) n l (Q .normal) t) : AW P (.region id l.toArray true) Q ⟨n, t, m0⟩ := AW.openW1 p m1 hp hd h
theorem AW.openW2M [hm : MixT P] {id : Nat} {Q : Exit → St → Prop} (m0' : Mem) (p q : Nat) (m1 m2 m12 : Mem) (he : m0 = m0' := by rfl) (hp : Nat.blt p l.length = true := by rfl) (hq : Nat.blt q l.length = true := by rfl) (hd : drawOk l = true := by kernel_rfl) (h : AQW P l (mem2 p q m0 m1 m2 m12) n l (Q .normal) t) : AW P (.region id l.toArray true) Q ⟨n, t, m0⟩ := AW.openW2 p q m1 m2 m12 hp hq hd h
theorem d_W {mem : (Nat → Bool) → Mem} (h : AQW P ops mem n l K t) : AQW P ops mem n l K t := h
theorem w1_nil (h : K ⟨n, t, m1⟩) : AQW P ops (mem1 p m0 m1) n [] K t := h
theorem w2_nil (h : K ⟨n, t, m12⟩) : AQW P ops (mem2 p q m0 m1 m2 m12) n [] K t := h
theorem w1_step {v : Value} {ks : List Nat} {k : Kn} (hk : knW ops p (ops.length - (l.length + 1)) = k := by first | (refine (?_ : _ = Kn.yes); decide +kernel) | (refine (?_ : _ = Kn.free); decide +kernel) | (refine (?_ : _ = Kn.no); decide +kernel) | (refine (?_ : _ = Kn.self); decide +kernel)) (hks : looksO ops ⟨some d, op, ty, pos, af, none⟩ = ks := by rfl) (hd : Nat.blt d n = true := by rfl)
    (h1 : ObK k fun c => AOs P ops [⟨some d, op, ty, pos, af, none⟩] (fun s' => s' = ⟨n, (d, v) :: keepL ks t, bif aft k c then m1 else m0⟩) ⟨n, keepL ks t, bif c then m1 else m0⟩ := by (simp only [ObK, aft, cond_true, cond_false]; repeat' (first | refine And.intro ?_ ?_ | (((refine d_AOs (h := ?_) ; first | refine o_move (h := ?_) | refine o_assign (h := ?_) | refine AOs.nil (h := ?_) | (refine d_bin (h := ?_) ; first | refine o_eqNil (h := ?_) | refine o_addS (h := ?_) | refine o_add (h := ?_) | refine o_lss (h := ?_) | refine o_eqi (h := ?_) | refine o_eqB (h := ?_) | refine o_neB (h := ?_) | refine o_nei (h := ?_) | refine o_leq (h := ?_) | refine o_gtr (h := ?_) | refine o_geq (h := ?_) | refine o_subS (h := ?_) | refine o_sub (h := ?_) | refine o_mulS (h := ?_) | refine o_mul (h := ?_) | refine o_remS (h := ?_) | refine o_rem (h := ?_) | refine o_quo (h := ?_) | refine o_shl (h := ?_) | refine o_shr (h := ?_) | refine o_bits (h := ?_) | refine o_fisnan (h := ?_) | refine o_fne (h := ?_) | refine o_feq (h := ?_) | refine o_flt (h := ?_) | refine o_fle (h := ?_) | refine o_fgt (h := ?_) | refine o_fge (h := ?_) | refine o_fadd (h := ?_) | refine o_fsub (h := ?_) | refine o_fmul (h := ?_) | refine o_fdiv (h := ?_) ) | (refine d_grd (h := ?_) ; first | refine g_yes (h := ?_) | refine g_no (h := ?_) | refine g_undef (h := ?_) | (refine g_true (h1 := (fun hg => ?_)) (h0 := (fun hg => ?_)) <;> (try rw [hg]) <;> (try simp only [decide_eq_true_eq, decide_eq_false_iff_not, Int.ofNat_inj, Bool.not_eq_true', Bool.not_eq_false', Int.not_lt, Int.not_le] at hg) <;> (try (exfalso; omega)) <;> (try (exact absurd hg (by decide)))) | (refine g_false (h1 := (fun hg => ?_)) (h0 := (fun hg => ?_)) <;> (try rw [hg]) <;> (try simp only [decide_eq_true_eq, decide_eq_false_iff_not, Int.ofNat_inj, Bool.not_eq_true', Bool.not_eq_false', Int.not_lt, Int.not_le] at hg) <;> (try (exfalso; omega)) <;> (try (exact absurd hg (by decide))))) | refine o_load (h := ?_) | refine o_at (h := ?_) | refine o_field (h := ?_) | refine o_nil (h := ?_) | refine o_pick (h := ?_) | refine o_not (h := ?_) | refine o_len (h := ?_) | refine o_lenS (h := ?_) | refine o_ixS (h := ?_) | refine o_mkS1 (h := ?_) | refine o_mkS (h := ?_) | refine o_buildS0 (h := ?_) | refine o_buildS (h := ?_) | refine o_app (h := ?_) | refine o_appN (h := ?_) | refine o_app0 (h := ?_) | refine o_slHi (h := ?_) | refine o_slLo (h := ?_) | refine o_slLH (h := ?_) | refine o_mkF (h := ?_) | refine o_store (h := ?_) | refine o_box (h := ?_) | refine o_alloc (h := ?_) | refine o_ix (h := ?_) | refine o_convS (h := ?_) | refine o_conv (h := ?_) | refine o_fconv (h := ?_) | refine o_fofInt (h := ?_) | refine o_bits32 (h := ?_) | refine o_bits64 (h := ?_) | refine o_integral (h := ?_) | refine o_fneg (h := ?_) | refine o_extract (h := ?_) | refine o_build (h := ?_) ) <;> exact AOs.nil rfl)) | ((refine AOs.overR (fun j => .pointer (some ⟨j, 0, none⟩)) OneRef.ptr _ (by repeat' (first | exact Flat.bool _ | exact Flat.int _ _ | exact Flat.float _ _ | exact Flat.string _ | exact flat_nil | exact flat_tabL (fun _ => Flat.bool _) | exact flat_tabL (fun _ => Flat.int _ _) | exact flat_tabL (fun _ => Flat.float _ _) | refine flat_tuple ?_ | refine flat_agg ?_ | refine flat_cons ?_ ?_ | refine flat_append ?_ ?_)) (h := ?_)); (simp only [List.cons_append, List.nil_append, List.length_cons, List.length_nil, Nat.reduceAdd, Nat.zero_add]); (((refine d_AOs (h := ?_) ; first | refine o_move (h := ?_) | refine o_assign (h := ?_) | refine AOs.nil (h := ?_) | (refine d_bin (h := ?_) ; first | refine o_eqNil (h := ?_) | refine o_addS (h := ?_) | refine o_add (h := ?_) | refine o_lss (h := ?_) | refine o_eqi (h := ?_) | refine o_eqB (h := ?_) | refine o_neB (h := ?_) | refine o_nei (h := ?_) | refine o_leq (h := ?_) | refine o_gtr (h := ?_) | refine o_geq (h := ?_) | refine o_subS (h := ?_) | refine o_sub (h := ?_) | refine o_mulS (h := ?_) | refine o_mul (h := ?_) | refine o_remS (h := ?_) | refine o_rem (h := ?_) | refine o_quo (h := ?_) | refine o_shl (h := ?_) | refine o_shr (h := ?_) | refine o_bits (h := ?_) | refine o_fisnan (h := ?_) | refine o_fne (h := ?_) | refine o_feq (h := ?_) | refine o_flt (h := ?_) | refine o_fle (h := ?_) | refine o_fgt (h := ?_) | refine o_fge (h := ?_) | refine o_fadd (h := ?_) | refine o_fsub (h := ?_) | refine o_fmul (h := ?_) | refine o_fdiv (h := ?_) ) | (refine d_grd (h := ?_) ; first | refine g_yes (h := ?_) | refine g_no (h := ?_) | refine g_undef (h := ?_) | (refine g_true (h1 := (fun hg => ?_)) (h0 := (fun hg => ?_)) <;> (try rw [hg]) <;> (try simp only [decide_eq_true_eq, decide_eq_false_iff_not, Int.ofNat_inj, Bool.not_eq_true', Bool.not_eq_false', Int.not_lt, Int.not_le] at hg) <;> (try (exfalso; omega)) <;> (try (exact absurd hg (by decide)))) | (refine g_false (h1 := (fun hg => ?_)) (h0 := (fun hg => ?_)) <;> (try rw [hg]) <;> (try simp only [decide_eq_true_eq, decide_eq_false_iff_not, Int.ofNat_inj, Bool.not_eq_true', Bool.not_eq_false', Int.not_lt, Int.not_le] at hg) <;> (try (exfalso; omega)) <;> (try (exact absurd hg (by decide))))) | refine o_load (h := ?_) | refine o_at (h := ?_) | refine o_field (h := ?_) | refine o_nil (h := ?_) | refine o_pick (h := ?_) | refine o_not (h := ?_) | refine o_len (h := ?_) | refine o_lenS (h := ?_) | refine o_ixS (h := ?_) | refine o_mkS1 (h := ?_) | refine o_mkS (h := ?_) | refine o_buildS0 (h := ?_) | refine o_buildS (h := ?_) | refine o_app (h := ?_) | refine o_appN (h := ?_) | refine o_app0 (h := ?_) | refine o_slHi (h := ?_) | refine o_slLo (h := ?_) | refine o_slLH (h := ?_) | refine o_mkF (h := ?_) | refine o_store (h := ?_) | refine o_box (h := ?_) | refine o_alloc (h := ?_) | refine o_ix (h := ?_) | refine o_convS (h := ?_) | refine o_conv (h := ?_) | refine o_fconv (h := ?_) | refine o_fofInt (h := ?_) | refine o_bits32 (h := ?_) | refine o_bits64 (h := ?_) | refine o_integral (h := ?_) | refine o_fneg (h := ?_) | refine o_extract (h := ?_) | refine o_build (h := ?_) ) <;> exact AOs.nil rfl)))))) (h2 : AQW P ops (mem1 p m0 m1) n l K ((d, v) :: t)) :
    AQW P ops (mem1 p m0 m1) n (⟨some d, op, ty, pos, af, none⟩ :: l) K t := by
  subst hks hk
  have hw : wantA ops (⟨some d, op, ty, pos, af, none⟩ : Oper) t = some true := rfl
  unfold AQW
  simp only [hw]
  refine ⟨hd, v, fun S g1 g2 g3 => ?_, h2⟩
  obtain ⟨h3, h4⟩ := h1.at g1 g2 g3
  unfold mem1
  rw [h4]
  exact h3
theorem w1_stepN {ks : List Nat} {k : Kn} (hk : knW ops p (ops.length - (l.length + 1)) = k := by first | (refine (?_ : _ = Kn.yes); decide +kernel) | (refine (?_ : _ = Kn.free); decide +kernel) | (refine (?_ : _ = Kn.no); decide +kernel) | (refine (?_ : _ = Kn.self); decide +kernel)) (hks : looksO ops ⟨none, op, ty, pos, af, none⟩ = ks := by rfl)
    (h1 : ObK k fun c => AOs P ops [⟨none, op, ty, pos, af, none⟩] (fun s' => s' = ⟨n, keepL ks t, bif aft k c then m1 else m0⟩) ⟨n, keepL ks t, bif c then m1 else m0⟩ := by (simp only [ObK, aft, cond_true, cond_false]; repeat' (first | refine And.intro ?_ ?_ | (((refine d_AOs (h := ?_) ; first | refine o_move (h := ?_) | refine o_assign (h := ?_) | refine AOs.nil (h := ?_) | (refine d_bin (h := ?_) ; first | refine o_eqNil (h := ?_) | refine o_addS (h := ?_) | refine o_add (h := ?_) | refine o_lss (h := ?_) | refine o_eqi (h := ?_) | refine o_eqB (h := ?_) | refine o_neB (h := ?_) | refine o_nei (h := ?_) | refine o_leq (h := ?_) | refine o_gtr (h := ?_) | refine o_geq (h := ?_) | refine o_subS (h := ?_) | refine o_sub (h := ?_) | refine o_mulS (h := ?_) | refine o_mul (h := ?_) | refine o_remS (h := ?_) | refine o_rem (h := ?_) | refine o_quo (h := ?_) | refine o_shl (h := ?_) | refine o_shr (h := ?_) | refine o_bits (h := ?_) | refine o_fisnan (h := ?_) | refine o_fne (h := ?_) | refine o_feq (h := ?_) | refine o_flt (h := ?_) | refine o_fle (h := ?_) | refine o_fgt (h := ?_) | refine o_fge (h := ?_) | refine o_fadd (h := ?_) | refine o_fsub (h := ?_) | refine o_fmul (h := ?_) | refine o_fdiv (h := ?_) ) | (refine d_grd (h := ?_) ; first | refine g_yes (h := ?_) | refine g_no (h := ?_) | refine g_undef (h := ?_) | (refine g_true (h1 := (fun hg => ?_)) (h0 := (fun hg => ?_)) <;> (try rw [hg]) <;> (try simp only [decide_eq_true_eq, decide_eq_false_iff_not, Int.ofNat_inj, Bool.not_eq_true', Bool.not_eq_false', Int.not_lt, Int.not_le] at hg) <;> (try (exfalso; omega)) <;> (try (exact absurd hg (by decide)))) | (refine g_false (h1 := (fun hg => ?_)) (h0 := (fun hg => ?_)) <;> (try rw [hg]) <;> (try simp only [decide_eq_true_eq, decide_eq_false_iff_not, Int.ofNat_inj, Bool.not_eq_true', Bool.not_eq_false', Int.not_lt, Int.not_le] at hg) <;> (try (exfalso; omega)) <;> (try (exact absurd hg (by decide))))) | refine o_load (h := ?_) | refine o_at (h := ?_) | refine o_field (h := ?_) | refine o_nil (h := ?_) | refine o_pick (h := ?_) | refine o_not (h := ?_) | refine o_len (h := ?_) | refine o_lenS (h := ?_) | refine o_ixS (h := ?_) | refine o_mkS1 (h := ?_) | refine o_mkS (h := ?_) | refine o_buildS0 (h := ?_) | refine o_buildS (h := ?_) | refine o_app (h := ?_) | refine o_appN (h := ?_) | refine o_app0 (h := ?_) | refine o_slHi (h := ?_) | refine o_slLo (h := ?_) | refine o_slLH (h := ?_) | refine o_mkF (h := ?_) | refine o_store (h := ?_) | refine o_box (h := ?_) | refine o_alloc (h := ?_) | refine o_ix (h := ?_) | refine o_convS (h := ?_) | refine o_conv (h := ?_) | refine o_fconv (h := ?_) | refine o_fofInt (h := ?_) | refine o_bits32 (h := ?_) | refine o_bits64 (h := ?_) | refine o_integral (h := ?_) | refine o_fneg (h := ?_) | refine o_extract (h := ?_) | refine o_build (h := ?_) ) <;> exact AOs.nil rfl)) | ((refine AOs.overR (fun j => .pointer (some ⟨j, 0, none⟩)) OneRef.ptr _ (by repeat' (first | exact Flat.bool _ | exact Flat.int _ _ | exact Flat.float _ _ | exact Flat.string _ | exact flat_nil | exact flat_tabL (fun _ => Flat.bool _) | exact flat_tabL (fun _ => Flat.int _ _) | exact flat_tabL (fun _ => Flat.float _ _) | refine flat_tuple ?_ | refine flat_agg ?_ | refine flat_cons ?_ ?_ | refine flat_append ?_ ?_)) (h := ?_)); (simp only [List.cons_append, List.nil_append, List.length_cons, List.length_nil, Nat.reduceAdd, Nat.zero_add]); (((refine d_AOs (h := ?_) ; first | refine o_move (h := ?_) | refine o_assign (h := ?_) | refine AOs.nil (h := ?_) | (refine d_bin (h := ?_) ; first | refine o_eqNil (h := ?_) | refine o_addS (h := ?_) | refine o_add (h := ?_) | refine o_lss (h := ?_) | refine o_eqi (h := ?_) | refine o_eqB (h := ?_) | refine o_neB (h := ?_) | refine o_nei (h := ?_) | refine o_leq (h := ?_) | refine o_gtr (h := ?_) | refine o_geq (h := ?_) | refine o_subS (h := ?_) | refine o_sub (h := ?_) | refine o_mulS (h := ?_) | refine o_mul (h := ?_) | refine o_remS (h := ?_) | refine o_rem (h := ?_) | refine o_quo (h := ?_) | refine o_shl (h := ?_) | refine o_shr (h := ?_) | refine o_bits (h := ?_) | refine o_fisnan (h := ?_) | refine o_fne (h := ?_) | refine o_feq (h := ?_) | refine o_flt (h := ?_) | refine o_fle (h := ?_) | refine o_fgt (h := ?_) | refine o_fge (h := ?_) | refine o_fadd (h := ?_) | refine o_fsub (h := ?_) | refine o_fmul (h := ?_) | refine o_fdiv (h := ?_) ) | (refine d_grd (h := ?_) ; first | refine g_yes (h := ?_) | refine g_no (h := ?_) | refine g_undef (h := ?_) | (refine g_true (h1 := (fun hg => ?_)) (h0 := (fun hg => ?_)) <;> (try rw [hg]) <;> (try simp only [decide_eq_true_eq, decide_eq_false_iff_not, Int.ofNat_inj, Bool.not_eq_true', Bool.not_eq_false', Int.not_lt, Int.not_le] at hg) <;> (try (exfalso; omega)) <;> (try (exact absurd hg (by decide)))) | (refine g_false (h1 := (fun hg => ?_)) (h0 := (fun hg => ?_)) <;> (try rw [hg]) <;> (try simp only [decide_eq_true_eq, decide_eq_false_iff_not, Int.ofNat_inj, Bool.not_eq_true', Bool.not_eq_false', Int.not_lt, Int.not_le] at hg) <;> (try (exfalso; omega)) <;> (try (exact absurd hg (by decide))))) | refine o_load (h := ?_) | refine o_at (h := ?_) | refine o_field (h := ?_) | refine o_nil (h := ?_) | refine o_pick (h := ?_) | refine o_not (h := ?_) | refine o_len (h := ?_) | refine o_lenS (h := ?_) | refine o_ixS (h := ?_) | refine o_mkS1 (h := ?_) | refine o_mkS (h := ?_) | refine o_buildS0 (h := ?_) | refine o_buildS (h := ?_) | refine o_app (h := ?_) | refine o_appN (h := ?_) | refine o_app0 (h := ?_) | refine o_slHi (h := ?_) | refine o_slLo (h := ?_) | refine o_slLH (h := ?_) | refine o_mkF (h := ?_) | refine o_store (h := ?_) | refine o_box (h := ?_) | refine o_alloc (h := ?_) | refine o_ix (h := ?_) | refine o_convS (h := ?_) | refine o_conv (h := ?_) | refine o_fconv (h := ?_) | refine o_fofInt (h := ?_) | refine o_bits32 (h := ?_) | refine o_bits64 (h := ?_) | refine o_integral (h := ?_) | refine o_fneg (h := ?_) | refine o_extract (h := ?_) | refine o_build (h := ?_) ) <;> exact AOs.nil rfl)))))) (h2 : AQW P ops (mem1 p m0 m1) n l K t) :
    AQW P ops (mem1 p m0 m1) n (⟨none, op, ty, pos, af, none⟩ :: l) K t := by
  subst hks hk
  have hw : wantA ops (⟨none, op, ty, pos, af, none⟩ : Oper) t = some true := rfl
  unfold AQW
  simp only [hw]
  refine ⟨rfl, dead, fun S g1 g2 g3 => ?_, h2⟩
  obtain ⟨h3, h4⟩ := h1.at g1 g2 g3
  unfold mem1
  rw [h4]
  exact h3
theorem w2_step {v : Value} {ks : List Nat} {k k' : Kn} (hk : knW ops p (ops.length - (l.length + 1)) = k := by first | (refine (?_ : _ = Kn.yes); decide +kernel) | (refine (?_ : _ = Kn.free); decide +kernel) | (refine (?_ : _ = Kn.no); decide +kernel) | (refine (?_ : _ = Kn.self); decide +kernel)) (hk' : knW ops q (ops.length - (l.length + 1)) = k' := by first | (refine (?_ : _ = Kn.yes); decide +kernel) | (refine (?_ : _ = Kn.free); decide +kernel) | (refine (?_ : _ = Kn.no); decide +kernel) | (refine (?_ : _ = Kn.self); decide +kernel)) (hks : looksO ops ⟨some d, op, ty, pos, af, none⟩ = ks := by rfl) (hd : Nat.blt d n = true := by rfl)
    (h1 : ObK k fun c => ObK k' fun c' => AOs P ops [⟨some d, op, ty, pos, af, none⟩] (fun s' => s' = ⟨n, (d, v) :: keepL ks t, bif aft k c then (bif aft k' c' then m12 else m1) else (bif aft k' c' then m2 else m0)⟩) ⟨n, keepL ks t, bif c then (bif c' then m12 else m1) else (bif c' then m2 else m0)⟩ := by (simp only [ObK, aft, cond_true, cond_false]; repeat' (first | refine And.intro ?_ ?_ | (((refine d_AOs (h := ?_) ; first | refine o_move (h := ?_) | refine o_assign (h := ?_) | refine AOs.nil (h := ?_) | (refine d_bin (h := ?_) ; first | refine o_eqNil (h := ?_) | refine o_addS (h := ?_) | refine o_add (h := ?_) | refine o_lss (h := ?_) | refine o_eqi (h := ?_) | refine o_eqB (h := ?_) | refine o_neB (h := ?_) | refine o_nei (h := ?_) | refine o_leq (h := ?_) | refine o_gtr (h := ?_) | refine o_geq (h := ?_) | refine o_subS (h := ?_) | refine o_sub (h := ?_) | refine o_mulS (h := ?_) | refine o_mul (h := ?_) | refine o_remS (h := ?_) | refine o_rem (h := ?_) | refine o_quo (h := ?_) | refine o_shl (h := ?_) | refine o_shr (h := ?_) | refine o_bits (h := ?_) | refine o_fisnan (h := ?_) | refine o_fne (h := ?_) | refine o_feq (h := ?_) | refine o_flt (h := ?_) | refine o_fle (h := ?_) | refine o_fgt (h := ?_) | refine o_fge (h := ?_) | refine o_fadd (h := ?_) | refine o_fsub (h := ?_) | refine o_fmul (h := ?_) | refine o_fdiv (h := ?_) ) | (refine d_grd (h := ?_) ; first | refine g_yes (h := ?_) | refine g_no (h := ?_) | refine g_undef (h := ?_) | (refine g_true (h1 := (fun hg => ?_)) (h0 := (fun hg => ?_)) <;> (try rw [hg]) <;> (try simp only [decide_eq_true_eq, decide_eq_false_iff_not, Int.ofNat_inj, Bool.not_eq_true', Bool.not_eq_false', Int.not_lt, Int.not_le] at hg) <;> (try (exfalso; omega)) <;> (try (exact absurd hg (by decide)))) | (refine g_false (h1 := (fun hg => ?_)) (h0 := (fun hg => ?_)) <;> (try rw [hg]) <;> (try simp only [decide_eq_true_eq, decide_eq_false_iff_not, Int.ofNat_inj, Bool.not_eq_true', Bool.not_eq_false', Int.not_lt, Int.not_le] at hg) <;> (try (exfalso; omega)) <;> (try (exact absurd hg (by decide))))) | refine o_load (h := ?_) | refine o_at (h := ?_) | refine o_field (h := ?_) | refine o_nil (h := ?_) | refine o_pick (h := ?_) | refine o_not (h := ?_) | refine o_len (h := ?_) | refine o_lenS (h := ?_) | refine o_ixS (h := ?_) | refine o_mkS1 (h := ?_) | refine o_mkS (h := ?_) | refine o_buildS0 (h := ?_) | refine o_buildS (h := ?_) | refine o_app (h := ?_) | refine o_appN (h := ?_) | refine o_app0 (h := ?_) | refine o_slHi (h := ?_) | refine o_slLo (h := ?_) | refine o_slLH (h := ?_) | refine o_mkF (h := ?_) | refine o_store (h := ?_) | refine o_box (h := ?_) | refine o_alloc (h := ?_) | refine o_ix (h := ?_) | refine o_convS (h := ?_) | refine o_conv (h := ?_) | refine o_fconv (h := ?_) | refine o_fofInt (h := ?_) | refine o_bits32 (h := ?_) | refine o_bits64 (h := ?_) | refine o_integral (h := ?_) | refine o_fneg (h := ?_) | refine o_extract (h := ?_) | refine o_build (h := ?_) ) <;> exact AOs.nil rfl)) | ((refine AOs.overR (fun j => .pointer (some ⟨j, 0, none⟩)) OneRef.ptr _ (by repeat' (first | exact Flat.bool _ | exact Flat.int _ _ | exact Flat.float _ _ | exact Flat.string _ | exact flat_nil | exact flat_tabL (fun _ => Flat.bool _) | exact flat_tabL (fun _ => Flat.int _ _) | exact flat_tabL (fun _ => Flat.float _ _) | refine flat_tuple ?_ | refine flat_agg ?_ | refine flat_cons ?_ ?_ | refine flat_append ?_ ?_)) (h := ?_)); (simp only [List.cons_append, List.nil_append, List.length_cons, List.length_nil, Nat.reduceAdd, Nat.zero_add]); (((refine d_AOs (h := ?_) ; first | refine o_move (h := ?_) | refine o_assign (h := ?_) | refine AOs.nil (h := ?_) | (refine d_bin (h := ?_) ; first | refine o_eqNil (h := ?_) | refine o_addS (h := ?_) | refine o_add (h := ?_) | refine o_lss (h := ?_) | refine o_eqi (h := ?_) | refine o_eqB (h := ?_) | refine o_neB (h := ?_) | refine o_nei (h := ?_) | refine o_leq (h := ?_) | refine o_gtr (h := ?_) | refine o_geq (h := ?_) | refine o_subS (h := ?_) | refine o_sub (h := ?_) | refine o_mulS (h := ?_) | refine o_mul (h := ?_) | refine o_remS (h := ?_) | refine o_rem (h := ?_) | refine o_quo (h := ?_) | refine o_shl (h := ?_) | refine o_shr (h := ?_) | refine o_bits (h := ?_) | refine o_fisnan (h := ?_) | refine o_fne (h := ?_) | refine o_feq (h := ?_) | refine o_flt (h := ?_) | refine o_fle (h := ?_) | refine o_fgt (h := ?_) | refine o_fge (h := ?_) | refine o_fadd (h := ?_) | refine o_fsub (h := ?_) | refine o_fmul (h := ?_) | refine o_fdiv (h := ?_) ) | (refine d_grd (h := ?_) ; first | refine g_yes (h := ?_) | refine g_no (h := ?_) | refine g_undef (h := ?_) | (refine g_true (h1 := (fun hg => ?_)) (h0 := (fun hg => ?_)) <;> (try rw [hg]) <;> (try simp only [decide_eq_true_eq, decide_eq_false_iff_not, Int.ofNat_inj, Bool.not_eq_true', Bool.not_eq_false', Int.not_lt, Int.not_le] at hg) <;> (try (exfalso; omega)) <;> (try (exact absurd hg (by decide)))) | (refine g_false (h1 := (fun hg => ?_)) (h0 := (fun hg => ?_)) <;> (try rw [hg]) <;> (try simp only [decide_eq_true_eq, decide_eq_false_iff_not, Int.ofNat_inj, Bool.not_eq_true', Bool.not_eq_false', Int.not_lt, Int.not_le] at hg) <;> (try (exfalso; omega)) <;> (try (exact absurd hg (by decide))))) | refine o_load (h := ?_) | refine o_at (h := ?_) | refine o_field (h := ?_) | refine o_nil (h := ?_) | refine o_pick (h := ?_) | refine o_not (h := ?_) | refine o_len (h := ?_) | refine o_lenS (h := ?_) | refine o_ixS (h := ?_) | refine o_mkS1 (h := ?_) | refine o_mkS (h := ?_) | refine o_buildS0 (h := ?_) | refine o_buildS (h := ?_) | refine o_app (h := ?_) | refine o_appN (h := ?_) | refine o_app0 (h := ?_) | refine o_slHi (h := ?_) | refine o_slLo (h := ?_) | refine o_slLH (h := ?_) | refine o_mkF (h := ?_) | refine o_store (h := ?_) | refine o_box (h := ?_) | refine o_alloc (h := ?_) | refine o_ix (h := ?_) | refine o_convS (h := ?_) | refine o_conv (h := ?_) | refine o_fconv (h := ?_) | refine o_fofInt (h := ?_) | refine o_bits32 (h := ?_) | refine o_bits64 (h := ?_) | refine o_integral (h := ?_) | refine o_fneg (h := ?_) | refine o_extract (h := ?_) | refine o_build (h := ?_) ) <;> exact AOs.nil rfl))))))
    (h2 : AQW P ops (mem2 p q m0 m1 m2 m12) n l K ((d, v) :: t)) :
    AQW P ops (mem2 p q m0 m1 m2 m12) n (⟨some d, op, ty, pos, af, none⟩ :: l) K t := by
  subst hks hk hk'
  have hw : wantA ops (⟨some d, op, ty, pos, af, none⟩ : Oper) t = some true := rfl
  unfold AQW
  simp only [hw]
  refine ⟨hd, v, fun S g1 g2 g3 => ?_, h2⟩
  obtain ⟨h3, h4⟩ := h1.at g1 g2 g3
  obtain ⟨h5, h6⟩ := h3.at g1 g2 g3
  unfold mem2
  rw [h4, h6]
  exact h5
theorem w2_stepN {ks : List Nat} {k k' : Kn} (hk : knW ops p (ops.length - (l.length + 1)) = k := by first | (refine (?_ : _ = Kn.yes); decide +kernel) | (refine (?_ : _ = Kn.free); decide +kernel) | (refine (?_ : _ = Kn.no); decide +kernel) | (refine (?_ : _ = Kn.self); decide +kernel)) (hk' : knW ops q (ops.length - (l.length + 1)) = k' := by first | (refine (?_ : _ = Kn.yes); decide +kernel) | (refine (?_ : _ = Kn.free); decide +kernel) | (refine (?_ : _ = Kn.no); decide +kernel) | (refine (?_ : _ = Kn.self); decide +kernel)) (hks : looksO ops ⟨none, op, ty, pos, af, none⟩ = ks := by rfl)
    (h1 : ObK k fun c => ObK k' fun c' => AOs P ops [⟨none, op, ty, pos, af, none⟩] (fun s' => s' = ⟨n, keepL ks t, bif aft k c then (bif aft k' c' then m12 else m1) else (bif aft k' c' then m2 else m0)⟩) ⟨n, keepL ks t, bif c then (bif c' then m12 else m1) else (bif c' then m2 else m0)⟩ := by (simp only [ObK, aft, cond_true, cond_false]; repeat' (first | refine And.intro ?_ ?_ | (((refine d_AOs (h := ?_) ; first | refine o_move (h := ?_) | refine o_assign (h := ?_) | refine AOs.nil (h := ?_) | (refine d_bin (h := ?_) ; first | refine o_eqNil (h := ?_) | refine o_addS (h := ?_) | refine o_add (h := ?_) | refine o_lss (h := ?_) | refine o_eqi (h := ?_) | refine o_eqB (h := ?_) | refine o_neB (h := ?_) | refine o_nei (h := ?_) | refine o_leq (h := ?_) | refine o_gtr (h := ?_) | refine o_geq (h := ?_) | refine o_subS (h := ?_) | refine o_sub (h := ?_) | refine o_mulS (h := ?_) | refine o_mul (h := ?_) | refine o_remS (h := ?_) | refine o_rem (h := ?_) | refine o_quo (h := ?_) | refine o_shl (h := ?_) | refine o_shr (h := ?_) | refine o_bits (h := ?_) | refine o_fisnan (h := ?_) | refine o_fne (h := ?_) | refine o_feq (h := ?_) | refine o_flt (h := ?_) | refine o_fle (h := ?_) | refine o_fgt (h := ?_) | refine o_fge (h := ?_) | refine o_fadd (h := ?_) | refine o_fsub (h := ?_) | refine o_fmul (h := ?_) | refine o_fdiv (h := ?_) ) | (refine d_grd (h := ?_) ; first | refine g_yes (h := ?_) | refine g_no (h := ?_) | refine g_undef (h := ?_) | (refine g_true (h1 := (fun hg => ?_)) (h0 := (fun hg => ?_)) <;> (try rw [hg]) <;> (try simp only [decide_eq_true_eq, decide_eq_false_iff_not, Int.ofNat_inj, Bool.not_eq_true', Bool.not_eq_false', Int.not_lt, Int.not_le] at hg) <;> (try (exfalso; omega)) <;> (try (exact absurd hg (by decide)))) | (refine g_false (h1 := (fun hg => ?_)) (h0 := (fun hg => ?_)) <;> (try rw [hg]) <;> (try simp only [decide_eq_true_eq, decide_eq_false_iff_not, Int.ofNat_inj, Bool.not_eq_true', Bool.not_eq_false', Int.not_lt, Int.not_le] at hg) <;> (try (exfalso; omega)) <;> (try (exact absurd hg (by decide))))) | refine o_load (h := ?_) | refine o_at (h := ?_) | refine o_field (h := ?_) | refine o_nil (h := ?_) | refine o_pick (h := ?_) | refine o_not (h := ?_) | refine o_len (h := ?_) | refine o_lenS (h := ?_) | refine o_ixS (h := ?_) | refine o_mkS1 (h := ?_) | refine o_mkS (h := ?_) | refine o_buildS0 (h := ?_) | refine o_buildS (h := ?_) | refine o_app (h := ?_) | refine o_appN (h := ?_) | refine o_app0 (h := ?_) | refine o_slHi (h := ?_) | refine o_slLo (h := ?_) | refine o_slLH (h := ?_) | refine o_mkF (h := ?_) | refine o_store (h := ?_) | refine o_box (h := ?_) | refine o_alloc (h := ?_) | refine o_ix (h := ?_) | refine o_convS (h := ?_) | refine o_conv (h := ?_) | refine o_fconv (h := ?_) | refine o_fofInt (h := ?_) | refine o_bits32 (h := ?_) | refine o_bits64 (h := ?_) | refine o_integral (h := ?_) | refine o_fneg (h := ?_) | refine o_extract (h := ?_) | refine o_build (h := ?_) ) <;> exact AOs.nil rfl)) | ((refine AOs.overR (fun j => .pointer (some ⟨j, 0, none⟩)) OneRef.ptr _ (by repeat' (first | exact Flat.bool _ | exact Flat.int _ _ | exact Flat.float _ _ | exact Flat.string _ | exact flat_nil | exact flat_tabL (fun _ => Flat.bool _) | exact flat_tabL (fun _ => Flat.int _ _) | exact flat_tabL (fun _ => Flat.float _ _) | refine flat_tuple ?_ | refine flat_agg ?_ | refine flat_cons ?_ ?_ | refine flat_append ?_ ?_)) (h := ?_)); (simp only [List.cons_append, List.nil_append, List.length_cons, List.length_nil, Nat.reduceAdd, Nat.zero_add]); (((refine d_AOs (h := ?_) ; first | refine o_move (h := ?_) | refine o_assign (h := ?_) | refine AOs.nil (h := ?_) | (refine d_bin (h := ?_) ; first | refine o_eqNil (h := ?_) | refine o_addS (h := ?_) | refine o_add (h := ?_) | refine o_lss (h := ?_) | refine o_eqi (h := ?_) | refine o_eqB (h := ?_) | refine o_neB (h := ?_) | refine o_nei (h := ?_) | refine o_leq (h := ?_) | refine o_gtr (h := ?_) | refine o_geq (h := ?_) | refine o_subS (h := ?_) | refine o_sub (h := ?_) | refine o_mulS (h := ?_) | refine o_mul (h := ?_) | refine o_remS (h := ?_) | refine o_rem (h := ?_) | refine o_quo (h := ?_) | refine o_shl (h := ?_) | refine o_shr (h := ?_) | refine o_bits (h := ?_) | refine o_fisnan (h := ?_) | refine o_fne (h := ?_) | refine o_feq (h := ?_) | refine o_flt (h := ?_) | refine o_fle (h := ?_) | refine o_fgt (h := ?_) | refine o_fge (h := ?_) | refine o_fadd (h := ?_) | refine o_fsub (h := ?_) | refine o_fmul (h := ?_) | refine o_fdiv (h := ?_) ) | (refine d_grd (h := ?_) ; first | refine g_yes (h := ?_) | refine g_no (h := ?_) | refine g_undef (h := ?_) | (refine g_true (h1 := (fun hg => ?_)) (h0 := (fun hg => ?_)) <;> (try rw [hg]) <;> (try simp only [decide_eq_true_eq, decide_eq_false_iff_not, Int.ofNat_inj, Bool.not_eq_true', Bool.not_eq_false', Int.not_lt, Int.not_le] at hg) <;> (try (exfalso; omega)) <;> (try (exact absurd hg (by decide)))) | (refine g_false (h1 := (fun hg => ?_)) (h0 := (fun hg => ?_)) <;> (try rw [hg]) <;> (try simp only [decide_eq_true_eq, decide_eq_false_iff_not, Int.ofNat_inj, Bool.not_eq_true', Bool.not_eq_false', Int.not_lt, Int.not_le] at hg) <;> (try (exfalso; omega)) <;> (try (exact absurd hg (by decide))))) | refine o_load (h := ?_) | refine o_at (h := ?_) | refine o_field (h := ?_) | refine o_nil (h := ?_) | refine o_pick (h := ?_) | refine o_not (h := ?_) | refine o_len (h := ?_) | refine o_lenS (h := ?_) | refine o_ixS (h := ?_) | refine o_mkS1 (h := ?_) | refine o_mkS (h := ?_) | refine o_buildS0 (h := ?_) | refine o_buildS (h := ?_) | refine o_app (h := ?_) | refine o_appN (h := ?_) | refine o_app0 (h := ?_) | refine o_slHi (h := ?_) | refine o_slLo (h := ?_) | refine o_slLH (h := ?_) | refine o_mkF (h := ?_) | refine o_store (h := ?_) | refine o_box (h := ?_) | refine o_alloc (h := ?_) | refine o_ix (h := ?_) | refine o_convS (h := ?_) | refine o_conv (h := ?_) | refine o_fconv (h := ?_) | refine o_fofInt (h := ?_) | refine o_bits32 (h := ?_) | refine o_bits64 (h := ?_) | refine o_integral (h := ?_) | refine o_fneg (h := ?_) | refine o_extract (h := ?_) | refine o_build (h := ?_) ) <;> exact AOs.nil rfl))))))
    (h2 : AQW P ops (mem2 p q m0 m1 m2 m12) n l K t) :
    AQW P ops (mem2 p q m0 m1 m2 m12) n (⟨none, op, ty, pos, af, none⟩ :: l) K t := by
  subst hks hk hk'
  have hw : wantA ops (⟨none, op, ty, pos, af, none⟩ : Oper) t = some true := rfl
  unfold AQW
  simp only [hw]
  refine ⟨rfl, dead, fun S g1 g2 g3 => ?_, h2⟩
  obtain ⟨h3, h4⟩ := h1.at g1 g2 g3
  obtain ⟨h5, h6⟩ := h3.at g1 g2 g3
  unfold mem2
  rw [h4, h6]
  exact h5
end

/-! ### Places of blocks that come later -/
abbrev gone : Blk := ⟨[], some 0, false⟩

def meet (r r' : Ren) : Ren := fun j t => match r j t with | some _ => r' j t | none => none
theorem meet_of {r r' : Ren} {j : Nat} {t : Option Nat} {c x : Nat × Nat} (h : r j t = some c) (h' : r' j t = some x) : meet r r' j t = some x := by unfold meet; rw [h]; exact h'
theorem VS.meet {r r' : Ren} {x y y' : Value} (h : VS r x y) (h' : VS r' x y') : VS (Go.Proofs.Ytjghdagcmombnaa.meet r r') x y' := by
  cases x <;> try exact h'
  case pointer a =>
    cases a with
    | none => exact h'
    | some a =>
      obtain ⟨c, z, h1, h2⟩ := h
      obtain ⟨c', z', h1', h2'⟩ := h'
      exact ⟨c', z', h1', meet_of h2 h2'⟩
  case slice a n m =>
    cases a with
    | none => exact h'
    | some a =>
      obtain ⟨c, z, m1, h1, h2, h3⟩ := h
      obtain ⟨c', z', m2, h1', h2', h3'⟩ := h'
      exact ⟨c', z', m2, h1', meet_of h2 h2', h3'⟩
theorem VR.meet {r r' : Ren} {x y : Value} (h : VR r x y) : ∀ {y' : Value}, VR r' x y' → VR (Go.Proofs.Ytjghdagcmombnaa.meet r r') x y' := by
  induction h with
  | base h =>
    intro y' h'
    cases h' with
    | base h' => exact .base (h.meet h')
    | agg => exact h.elim
    | tuple => exact h.elim
    | func => exact h.elim
    | iface => exact h.elim
  | agg xs ys hl _ ih =>
    intro y' h'
    obtain ⟨zs, rfl, hl', hz⟩ := h'.agg_inv
    refine .agg _ _ hl' fun i x z hx hz' => ?_
    obtain ⟨y, hy⟩ : ∃ y, ys[i]? = some y := ⟨ys[i]'(by rw [← hl]; exact (List.getElem?_eq_some_iff.1 hx).1), by simp⟩
    exact ih i x y hx hy (hz i x z hx hz')
  | tuple xs ys hl _ ih =>
    intro y' h'
    obtain ⟨zs, rfl, hl', hz⟩ := h'.tuple_inv
    refine .tuple _ _ hl' fun i x z hx hz' => ?_
    obtain ⟨y, hy⟩ : ∃ y, ys[i]? = some y := ⟨ys[i]'(by rw [← hl]; exact (List.getElem?_eq_some_iff.1 hx).1), by simp⟩
    exact ih i x y hx hy (hz i x z hx hz')
  | func fn xs ys us vs hl _ hk _ ih ik =>
    intro y' h'
    obtain ⟨zs, ws, rfl, ⟨hl', hz⟩, ⟨hk', hw⟩⟩ := h'.func_inv
    refine .func _ _ _ _ _ hl' (fun i x z hx hz' => ?_) hk' (fun i x z hx hz' => ?_)
    · obtain ⟨y, hy⟩ : ∃ y, ys[i]? = some y := ⟨ys[i]'(by rw [← hl]; exact (List.getElem?_eq_some_iff.1 hx).1), by simp⟩
      exact ih i x y hx hy (hz i x z hx hz')
    · obtain ⟨y, hy⟩ : ∃ y, vs[i]? = some y := ⟨vs[i]'(by rw [← hk]; exact (List.getElem?_eq_some_iff.1 hx).1), by simp⟩
      exact ik i x y hx hy (hw i x z hx hz')
  | iface t x y _ ih =>
    intro y' h'
    obtain ⟨z, rfl, hz⟩ := h'.iface_inv
    exact .iface _ _ _ (ih hz)

/-- The new block put where a place was kept for it, or behind such a place. -/
theorem Sim.place {B0 : Nat} {w0 : World} {r r1 : Ren} {m N : Mem} {B : Blk} {w w' : World} (hs : Sim B0 w0 r m w) (hs1 : Sim B0 w0 r1 (m ++ [B]) w') (he : Ext r r1) (hfl : ∀ c ∈ B.cells, Flat c) (s : Nat → Nat)
    (hinj : ∀ i j, i < N.length → j < N.length → s i = s j → i = j)
    (hN : ∀ j b', N[j]? = some b' → (b' = gone ∧ m.length + 1 ≤ s j) ∨ (s j = j ∧ m[j]? = some b') ∨ (s j = m.length ∧ b' = B))
    (hE : ∀ j b, m[j]? = some b → b = gone ∨ (j < N.length ∧ s j = j)) :
    Ext r (fun j t => if j < N.length then r1 (s j) t else none) ∧ Sim B0 w0 (fun j t => if j < N.length then r1 (s j) t else none) N w' := by
  have hext : Ext r (fun j t => if j < N.length then r1 (s j) t else none) := fun j t c h => by
    obtain ⟨b, hb, ht⟩ := hs.dom j t c h
    rcases hE j b hb with rfl | ⟨h1, h2⟩
    · exfalso
      rcases hs.blk j _ hb with hg | ⟨c', z', _, hok⟩
      · rw [hg.2] at h; cases h
      · unfold BlkOk at hok
        rw [if_neg (by simp)] at hok
        cases hok.1.1
    · show (if j < N.length then r1 (s j) t else none) = some c
      rw [if_pos h1, h2]; exact he j t c h
  have hmt : ∀ {x : Value} {y y' : Value}, VR r x y → VR r1 x y' → VR (fun j t => if j < N.length then r1 (s j) t else none) x y' := fun {x y y'} h h' => by
    refine (h.meet h').mono fun j t c hc => ?_
    unfold Go.Proofs.Ytjghdagcmombnaa.meet at hc
    cases hr : r j t with
    | none => rw [hr] at hc; cases hc
    | some x =>
      rw [hr] at hc
      have h1 := he j t x hr
      rw [h1] at hc
      cases hc
      exact hext j t _ hr
  have hin : ∀ {j t c}, (if j < N.length then r1 (s j) t else none) = some c → j < N.length ∧ r1 (s j) t = some c := fun {j t c} h => by
    split at h
    · exact ⟨‹_›, h⟩
    · cases h
  have hlen : (m ++ [B]).length = m.length + 1 := by simp
  have src : ∀ {j b'}, N[j]? = some b' → (b' = gone ∧ m.length + 1 ≤ s j) ∨ (m ++ [B])[s j]? = some b' := fun {j b'} h => by
    rcases hN j b' h with hg | ⟨h1, h2⟩ | ⟨h1, h2⟩
    · exact .inl hg
    · exact .inr (by rw [h1, List.getElem?_append_left (List.getElem?_eq_some_iff.1 h2).1]; exact h2)
    · exact .inr (by rw [h1, h2]; simp)
  refine ⟨hext, hs1.below, hs1.base, fun j t c h => ?_, fun j t c z h => hs1.lt _ t c z (hin h).2, fun j b' hj => ?_, fun j k b1 b2 c z z' h1 h2 hw h h' => ?_⟩
  · obtain ⟨hj, hr⟩ := hin h
    have hNj : N[j]? = some N[j] := by simp
    rcases src hNj with ⟨_, hg⟩ | hb
    · have := hs1.dom_lt _ _ _ hr; omega
    · obtain ⟨b3, hb3, ht⟩ := hs1.dom _ t c hr
      rw [hb] at hb3; cases hb3
      exact ⟨_, hNj, ht⟩
  · have hjl : j < N.length := (List.getElem?_eq_some_iff.1 hj).1
    rcases hN j b' hj with ⟨rfl, hg⟩ | ⟨h1, h2⟩ | ⟨h1, h2⟩
    · refine .inl ⟨⟨rfl, rfl⟩, fun t => ?_⟩
      show (if j < N.length then r1 (s j) t else none) = none
      rw [if_pos hjl]
      cases h : r1 (s j) t with
      | none => rfl
      | some x => have := hs1.dom_lt _ _ _ h; omega
    · have hb1 : (m ++ [B])[j]? = some b' := by rw [List.getElem?_append_left (List.getElem?_eq_some_iff.1 h2).1]; exact h2
      rcases hs1.blk j b' hb1 with hg | ⟨c, z, hr, hok⟩
      · refine .inl ⟨hg.1, fun t => ?_⟩
        show (if j < N.length then r1 (s j) t else none) = none
        rw [if_pos hjl, h1]; exact hg.2 t
      · refine .inr ⟨c, z, by rw [if_pos hjl, h1]; exact hr, ?_⟩
        rcases hs.blk j b' h2 with hg | ⟨c0, z0, hr0, hok0⟩
        · unfold BlkOk at hok ⊢
          have hrw := hg.1.2
          rw [if_neg (by rw [hrw]; simp)] at hok ⊢
          exact ⟨hok.1, fun i x hx => by rw [hg.1.1] at hx; cases hx⟩
        · unfold BlkOk at hok hok0 ⊢
          split at hok
          · rename_i hrw
            rw [if_pos hrw] at hok0 ⊢
            obtain ⟨hz, ds, ty, hh, hB, hlen, hcs⟩ := hok
            obtain ⟨_, ds0, ty0, _, _, hlen0, hcs0⟩ := hok0
            refine ⟨hz, ds, ty, hh, hB, hlen, fun i x y hx hy => ?_⟩
            obtain ⟨y0, hy0⟩ : ∃ y0, ds0[i]? = some y0 := ⟨ds0[i]'(by have := (List.getElem?_eq_some_iff.1 hx).1; have := hlen0.le; omega), by simp⟩
            exact hmt (hcs0 i x y0 hx hy0) (hcs i x y hx hy)
          · rename_i hrw
            rw [if_neg hrw] at hok0 ⊢
            refine ⟨hok.1, fun i x hx => ?_⟩
            obtain ⟨y, hy, hv⟩ := hok.2 i x hx
            obtain ⟨y0, _, hv0⟩ := hok0.2 i x hx
            exact ⟨y, hy, hmt hv0 hv⟩
    · subst h2
      rcases hs1.blk m.length b' (by simp) with hg | ⟨c, z, hr, hok⟩
      · refine .inl ⟨hg.1, fun t => ?_⟩
        show (if j < N.length then r1 (s j) t else none) = none
        rw [if_pos hjl, h1]; exact hg.2 t
      · refine .inr ⟨c, z, by rw [if_pos hjl, h1]; exact hr, ?_⟩
        unfold BlkOk at hok ⊢
        split at hok
        · rename_i hrw
          rw [if_pos hrw]
          obtain ⟨hz, ds, ty, hh, hB, hlen, hcs⟩ := hok
          exact ⟨hz, ds, ty, hh, hB, hlen, fun i x y hx hy => (hcs i x y hx hy).flat (hfl x (List.mem_of_getElem? hx))⟩
        · rename_i hrw
          rw [if_neg hrw]
          refine ⟨hok.1, fun i x hx => ?_⟩
          obtain ⟨y, hy, hv⟩ := hok.2 i x hx
          exact ⟨y, hy, hv.flat (hfl x (List.mem_of_getElem? hx))⟩
  · obtain ⟨hj, hr⟩ := hin h
    obtain ⟨hk, hr'⟩ := hin h'
    rcases src h1 with ⟨_, hg⟩ | hb1
    · have := hs1.dom_lt _ _ _ hr; omega
    rcases src h2 with ⟨_, hg⟩ | hb2
    · have := hs1.dom_lt _ _ _ hr'; omega
    exact hinj j k hj hk (hs1.inj _ _ b1 b2 c z z' hb1 hb2 hw hr hr')

/-- What leads to one block. -/
def OneRef (mk : Nat → Value) : Prop := ∀ (L : Nat) (s : Nat → Nat) (j : Nat), j < L → RenV L s (mk j) (mk (s j))
theorem OneRef.ptr {o : Nat} {tg : Option Nat} : OneRef fun j => .pointer (some ⟨j, o, tg⟩) := fun _ _ _ h => RenV.ptr h
theorem OneRef.sl {o n m : Nat} {tg : Option Nat} : OneRef fun j => .slice (some ⟨j, o, tg⟩) n m := fun _ _ _ h => RenV.sl h
theorem OneRef.agg {o n m : Nat} {tg : Option Nat} {fl : List Value} (hfl : ∀ c ∈ fl, Flat c) : OneRef fun j => .agg (.slice (some ⟨j, o, tg⟩) n m :: fl).toArray := fun L s j h => by
  refine RenV.agg (by simp) fun i x y hx hy => ?_
  cases i with
  | zero => simp at hx hy; subst hx; subst hy; exact RenV.sl h
  | succ i =>
    simp only [List.getElem?_cons_succ] at hx hy
    rw [hx] at hy; cases hy
    exact RenV.flat (hfl x (List.mem_of_getElem? hx))
section
variable {P : Program} {ops : List Oper} {n : Nat} {t : Env} {M pre : Mem} {d ty : Nat} {pos : String} {af : Array Edge} {op : Op} {B Z : Blk}
theorem AOs.place {m N : Mem} {v w : Value} (s : Nat → Nat) (hfl : ∀ c ∈ B.cells, Flat c) (hd : Nat.blt d n = true)
    (hinj : ∀ i j, i < N.length → j < N.length → s i = s j → i = j)
    (hN : ∀ j b', N[j]? = some b' → (b' = gone ∧ m.length + 1 ≤ s j) ∨ (s j = j ∧ m[j]? = some b') ∨ (s j = m.length ∧ b' = B))
    (hE : ∀ j b, m[j]? = some b → b = gone ∨ (j < N.length ∧ s j = j)) (hv : RenV N.length s v w)
    (h : AOs P ops [⟨some d, op, ty, pos, af, none⟩] (fun s' => s' = ⟨n, (d, w) :: t, m ++ [B]⟩) ⟨n, t, m⟩) :
    AOs P ops [⟨some d, op, ty, pos, af, none⟩] (fun s' => s' = ⟨n, (d, v) :: t, N⟩) ⟨n, t, m⟩ := by
  have h' : AO P ⟨some d, op, ty, pos, af, none⟩ (fun s' => s' = ⟨n, (d, w) :: t, m ++ [B]⟩) ⟨n, t, m⟩ := h
  show AO P ⟨some d, op, ty, pos, af, none⟩ (fun s' => s' = ⟨n, (d, v) :: t, N⟩) ⟨n, t, m⟩
  intro B0 w0 r a w1 Q' hs
  refine Oper.wp_mono (fun a' w' ⟨⟨r1, s1, he, hs1, hq⟩, y, ds, ha'⟩ => ?_) (wp_put (h' B0 w0 r a w1 Q' hs))
  subst hq
  obtain ⟨hext, hsim⟩ := Sim.place hs.sim hs1.sim he hfl s hinj hN hE
  refine ⟨_, ⟨n, (d, v) :: t, N⟩, hext, ⟨hs1.defers, hs1.size, fun i => ?_, hsim⟩, rfl⟩
  have hold := hs.vals i
  have hnew := hs1.vals i
  simp only [look] at hnew ⊢
  cases hi : (i == d)
  · rw [hi] at hnew
    simp only [cond_false] at hnew ⊢
    refine (hold.meet hnew).mono fun j t' c hc => ?_
    unfold Go.Proofs.Ytjghdagcmombnaa.meet at hc
    cases hr : r j t' with
    | none => rw [hr] at hc; cases hc
    | some x =>
      rw [hr] at hc
      have h1 := he j t' x hr
      simp only at hc
      rw [h1] at hc
      cases hc
      exact hext j t' _ hr
  · rw [hi] at hnew
    simp only [cond_true] at hnew ⊢
    exact hv r1 _ hnew
/-- The new block behind the place of one that comes later. -/
theorem AOs.over (mk : Nat → Value) (hmk : OneRef mk) (pre : Mem) (hfl : ∀ c ∈ B.cells, Flat c) (hd : Nat.blt d n = true)
    (h : AOs P ops [⟨some d, op, ty, pos, af, none⟩] (fun s' => s' = ⟨n, (d, mk (M.length + pre.length)) :: t, M ++ pre ++ [B]⟩) ⟨n, t, M ++ pre⟩) :
    AOs P ops [⟨some d, op, ty, pos, af, none⟩] (fun s' => s' = ⟨n, (d, mk (M.length + pre.length + 1)) :: t, M ++ pre ++ [gone, B]⟩) ⟨n, t, M ++ pre⟩ := by
  have hl : (M ++ pre).length = M.length + pre.length := by simp
  generalize hm : M ++ pre = m at *
  rw [← hl] at h ⊢
  refine AOs.place (fun j => if j < m.length then j else if j = m.length then m.length + 1 else m.length) hfl hd (fun i j hi hj hij => ?_) (fun j b' hj => ?_) (fun j b hj => ?_) ?_ h
  · simp at hi hj
    split at hij <;> split at hij <;> (try split at hij) <;> (try split at hij) <;> omega
  · have hjl := (List.getElem?_eq_some_iff.1 hj).1
    simp at hjl
    by_cases h1 : j < m.length
    · rw [List.getElem?_append_left h1] at hj
      exact .inr (.inl ⟨if_pos h1, hj⟩)
    · rw [List.getElem?_append_right (by omega)] at hj
      by_cases h2 : j = m.length
      · subst h2; simp at hj; subst hj
        exact .inl ⟨rfl, by rw [if_neg h1, if_pos rfl]; exact Nat.le_refl _⟩
      · have h3 : j = m.length + 1 := by omega
        subst h3
        simp at hj; subst hj
        exact .inr (.inr ⟨by rw [if_neg h1, if_neg h2], rfl⟩)
  · have hjl := (List.getElem?_eq_some_iff.1 hj).1
    exact .inr ⟨by simp; omega, if_pos hjl⟩
  · have h1 := hmk (m ++ [gone, B]).length (fun j => if j < m.length then j else if j = m.length then m.length + 1 else m.length) (m.length + 1) (by simp)
    rw [if_neg (by omega), if_neg (by omega)] at h1
    exact h1
/-- The new block in the place that was kept for it. -/
theorem AOs.fill (mk : Nat → Value) (hmk : OneRef mk) (pre : Mem) (hfl : ∀ c ∈ B.cells, Flat c) (hd : Nat.blt d n = true)
    (h : AOs P ops [⟨some d, op, ty, pos, af, none⟩] (fun s' => s' = ⟨n, (d, mk (M.length + pre.length + 2)) :: t, M ++ pre ++ [gone, Z] ++ [B]⟩) ⟨n, t, M ++ pre ++ [gone, Z]⟩) :
    AOs P ops [⟨some d, op, ty, pos, af, none⟩] (fun s' => s' = ⟨n, (d, mk (M.length + pre.length)) :: t, M ++ pre ++ [B, Z]⟩) ⟨n, t, M ++ pre ++ [gone, Z]⟩ := by
  have hl : (M ++ pre).length = M.length + pre.length := by simp
  generalize hm : M ++ pre = m at *
  rw [← hl] at h ⊢
  have hl2 : (m ++ [gone, Z]).length = m.length + 2 := by simp
  refine AOs.place (fun j => if j = m.length then m.length + 2 else j) hfl hd (fun i j hi hj hij => ?_) (fun j b' hj => ?_) (fun j b hj => ?_) ?_ h
  · simp at hi hj
    split at hij <;> split at hij <;> omega
  · have hjl := (List.getElem?_eq_some_iff.1 hj).1
    simp at hjl
    by_cases h1 : j < m.length
    · rw [List.getElem?_append_left h1] at hj
      exact .inr (.inl ⟨if_neg (by omega), by rw [List.getElem?_append_left h1]; exact hj⟩)
    · rw [List.getElem?_append_right (by omega)] at hj
      by_cases h2 : j = m.length
      · subst h2; simp at hj; subst hj
        exact .inr (.inr ⟨by rw [if_pos rfl, hl2], rfl⟩)
      · have h3 : j = m.length + 1 := by omega
        subst h3
        simp at hj; subst hj
        exact .inr (.inl ⟨if_neg h2, by rw [List.getElem?_append_right (by omega)]; simp⟩)
  · have hjl := (List.getElem?_eq_some_iff.1 hj).1
    rw [hl2] at hjl
    by_cases h2 : j = m.length
    · subst h2
      rw [List.getElem?_append_right (by omega)] at hj
      simp at hj
      exact .inl hj.symm
    · exact .inr ⟨by simp; omega, if_neg h2⟩
  · have h1 := hmk (m ++ [B, Z]).length (fun j => if j = m.length then m.length + 2 else j) m.length (by simp)
    rw [if_pos rfl] at h1
    exact h1
/-- The same, with the memory as one list behind M. -/
theorem AOs.overR (mk : Nat → Value) (hmk : OneRef mk) (pre : Mem) (hfl : ∀ c ∈ B.cells, Flat c) (hd : Nat.blt d n = true := by rfl)
    (h : AOs P ops [⟨some d, op, ty, pos, af, none⟩] (fun s' => s' = ⟨n, (d, mk (M.length + pre.length)) :: t, M ++ (pre ++ [B])⟩) ⟨n, t, M ++ pre⟩) :
    AOs P ops [⟨some d, op, ty, pos, af, none⟩] (fun s' => s' = ⟨n, (d, mk (M.length + (pre.length + 1))) :: t, M ++ (pre ++ [gone, B])⟩) ⟨n, t, M ++ pre⟩ := by
  have h1 := AOs.over (M := M) (B := B) (t := t) (P := P) (ops := ops) (op := op) (pos := pos) (ty := ty) (af := af) mk hmk pre hfl hd (by rw [List.append_assoc]; exact h)
  rw [List.append_assoc] at h1
  exact h1
end
/-! Three that change memory, the last one behind the others. -/
section
variable {P : Program} {ops l : List Oper} {K : St → Prop} {n : Nat} {t : Env} {m0 m1 m2 m12 m3 : Mem} {d ty : Nat} {pos : String} {af : Array Edge} {op : Op} {p q r : Nat}
end
end Go.Proofs.Ytjghdagcmombnaa
