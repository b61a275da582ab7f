/- Open regions: each block has a course of its own; places are kept for blocks to come. No program in sight. -/
import Derived.Test.YtjghdagcmombnaaDr2
import Derived.Test.YtjghdagcmombnaaRr
import Derived.Test.YtjghdagcmombnaaJn
import Derived.Test.YtjghdagcmombnaaSa
import Derived.Test.YtjghdagcmombnaaJv

namespace Go.Proofs.Ytjghdagcmombnaa
open Go.RowKit
set_option linter.unusedSimpArgs false
set_option linter.unusedVariables false

/-- What a course has come to where the operations S have come. -/
def crs {α : Type} : List (Nat × α) → α → (Nat → Bool) → α
  | [], b, _ => b
  | (p, m) :: ps, b, S => bif S p then crs ps m S else b
def crsEnd {α : Type} : List (Nat × α) → α → α
  | [], b => b
  | (_, m) :: ps, _ => crsEnd ps m
def noFirst : List Kn → Prop
  | [] => True
  | k :: _ => k = .no
def obC {α : Type} : List Kn → List (Nat × α) → α → (α → α → Prop) → Prop
  | k :: ks, (_, m) :: ps, m0, f => match k with
    | .yes => obC ks ps m f
    | .no => f m0 m0
    | .free => f m0 m0 ∧ obC ks ps m f
    | .self => noFirst ks ∧ f m0 m
  | [], [], m0, f => f m0 m0
  | _, _, _, _ => False
theorem obC.at {α : Type} {ops : List Oper} {i : Nat} {S : Nat → Bool} (h1 : ∀ q, q ∈ (pres ops).getD i [] → S q = true) (h2 : ∀ q, i ∈ (pres ops).getD q [] → S q = false) (h3 : S i = false) :
    ∀ {ps : List (Nat × α)} {ks : List Kn} {m0 : α} {f : α → α → Prop}, ps.map (fun x => knW ops x.1 i) = ks → obC ks ps m0 f → f (crs ps m0 S) (crs ps m0 (withI S i))
  | [], ks, m0, f, hk, h => by
    subst hk; exact h
  | (p, m) :: ps, ks, m0, f, hk, h => by
    subst hk
    simp only [List.map_cons, obC] at h
    simp only [crs]
    cases hkn : knW ops p i with
    | yes =>
      rw [hkn] at h
      obtain ⟨ha, hb⟩ := ObK.at (ops := ops) (p := p) (i := i) (S := S) (f := fun b => b = true) (by rw [hkn]; exact rfl) h1 h2 h3
      rw [hkn] at hb
      rw [hb, ha]
      exact obC.at h1 h2 h3 rfl h
    | no =>
      rw [hkn] at h
      obtain ⟨ha, hb⟩ := ObK.at (ops := ops) (p := p) (i := i) (S := S) (f := fun b => b = false) (by rw [hkn]; exact rfl) h1 h2 h3
      rw [hkn] at hb
      rw [hb, ha]
      exact h
    | free =>
      rw [hkn] at h
      obtain ⟨ha, hb⟩ := ObK.at (ops := ops) (p := p) (i := i) (S := S) (f := fun _ => True) (by rw [hkn]; exact ⟨trivial, trivial⟩) h1 h2 h3
      rw [hkn] at hb
      rw [hb]
      show f (bif S p then _ else _) (bif S p then _ else _)
      cases S p
      · exact h.1
      · exact obC.at h1 h2 h3 rfl h.2
    | self =>
      rw [hkn] at h
      obtain ⟨ha, hb⟩ := ObK.at (ops := ops) (p := p) (i := i) (S := S) (f := fun b => b = false) (by rw [hkn]; exact rfl) h1 h2 h3
      rw [hkn] at hb
      rw [hb, ha]
      have hm : crs ps m (withI S i) = m := by
        cases ps with
        | nil => rfl
        | cons x ps =>
          have hno : knW ops x.1 i = .no := h.1
          obtain ⟨hc, hd⟩ := ObK.at (ops := ops) (p := x.1) (i := i) (S := S) (f := fun b => b = false) (by rw [hno]; exact rfl) h1 h2 h3
          rw [hno] at hd
          show (bif withI S i x.1 then _ else m) = m
          rw [hd]
          show (bif S x.1 then _ else m) = m
          rw [hc]; rfl
      show f m0 (crs ps m (withI S i))
      rw [hm]
      exact h.2
/-- Several courses side by side. -/
def obT : List (List Kn) → List (Blk × List (Nat × Blk)) → (List Blk → List Blk → Prop) → Prop
  | ks :: kss, tl :: tls, f => obC ks tl.2 tl.1 fun x y => obT kss tls fun xs ys => f (x :: xs) (y :: ys)
  | [], [], f => f [] []
  | _, _, _ => False
theorem obT.at {ops : List Oper} {i : Nat} {S : Nat → Bool} (h1 : ∀ q, q ∈ (pres ops).getD i [] → S q = true) (h2 : ∀ q, i ∈ (pres ops).getD q [] → S q = false) (h3 : S i = false) :
    ∀ {tls : List (Blk × List (Nat × Blk))} {kss : List (List Kn)} {f : List Blk → List Blk → Prop}, tls.map (fun tl => tl.2.map fun x => knW ops x.1 i) = kss → obT kss tls f →
      f (tls.map fun tl => crs tl.2 tl.1 S) (tls.map fun tl => crs tl.2 tl.1 (withI S i))
  | [], kss, f, hk, h => by subst hk; exact h
  | tl :: tls, kss, f, hk, h => by
    subst hk
    have h0 : obC (tl.2.map fun x => knW ops x.1 i) tl.2 tl.1 fun x y => obT (tls.map fun tl => tl.2.map fun x => knW ops x.1 i) tls fun xs ys => f (x :: xs) (y :: ys) := h
    have h' := obC.at (f := fun x y => obT (tls.map fun tl => tl.2.map fun x => knW ops x.1 i) tls fun xs ys => f (x :: xs) (y :: ys)) h1 h2 h3 rfl h0
    exact obT.at (f := fun xs ys => f (crs tl.2 tl.1 S :: xs) (crs tl.2 tl.1 (withI S i) :: ys)) h1 h2 h3 rfl h'
theorem kn_nil {ops : List Oper} {i : Nat} {α : Type} : ([] : List (Nat × α)).map (fun x => knW ops x.1 i) = [] := rfl
theorem kn_cons {ops : List Oper} {i p : Nat} {α : Type} {m : α} {ps : List (Nat × α)} {k : Kn} {ks : List Kn} (h : knW ops p i = k) (h' : ps.map (fun x => knW ops x.1 i) = ks) : ((p, m) :: ps).map (fun x => knW ops x.1 i) = k :: ks := by
  rw [List.map_cons, h, h']
theorem kns_nil {ops : List Oper} {i : Nat} : ([] : List (Blk × List (Nat × Blk))).map (fun tl => tl.2.map fun x => knW ops x.1 i) = [] := rfl
theorem kns_cons {ops : List Oper} {i : Nat} {b : Blk} {ps : List (Nat × Blk)} {tls : List (Blk × List (Nat × Blk))} {ks : List Kn} {kss : List (List Kn)} (h : ps.map (fun x => knW ops x.1 i) = ks) (h' : tls.map (fun tl => tl.2.map fun x => knW ops x.1 i) = kss) :
    ((b, ps) :: tls).map (fun tl => tl.2.map fun x => knW ops x.1 i) = ks :: kss := by
  rw [List.map_cons, h']
  exact congrArg (· :: kss) h
def memF (M : Mem) (tls : List (Blk × List (Nat × Blk))) (S : Nat → Bool) : Mem := M ++ tls.map fun tl => crs tl.2 tl.1 S
theorem crs_none {α : Type} {ps : List (Nat × α)} {b : α} {S : Nat → Bool} (h : ps.all (fun x => !S x.1) = true) : crs ps b S = b := by
  cases ps with
  | nil => rfl
  | cons x ps =>
    rw [List.all_cons, Bool.and_eq_true] at h
    show (bif S x.1 then _ else b) = b
    have : S x.1 = false := by simpa using h.1
    rw [this]; rfl
theorem crs_end {α : Type} : ∀ {ps : List (Nat × α)} {b : α}, crs ps b (fun _ => true) = crsEnd ps b
  | [], _ => rfl
  | (_, m) :: ps, _ => crs_end (ps := ps) (b := m)
/-! ### Places kept for blocks to come -/
def gones (k : Nat) : Mem := List.replicate k gone
theorem Sim.more {B0 : Nat} {w0 : World} {r : Ren} {M : Mem} {w : World} (h : Sim B0 w0 r M w) (k : Nat) : Sim B0 w0 r (M ++ gones k) w := by
  have hg : ∀ {j b}, M.length ≤ j → (M ++ gones k)[j]? = some b → b = gone := fun {j b} hj hb => by
    rw [List.getElem?_append_right hj] at hb
    exact List.eq_of_mem_replicate (List.mem_of_getElem? hb)
  have hl : ∀ {j b}, j < M.length → (M ++ gones k)[j]? = some b → M[j]? = some b := fun {j b} hj hb => by rwa [List.getElem?_append_left hj] at hb
  refine ⟨h.below, h.base, fun j t c hr => ?_, h.lt, fun j b hb => ?_, fun i j b b' c z z' hb hb' hw hc hc' => ?_⟩
  · obtain ⟨b, hb, ht⟩ := h.dom j t c hr
    exact ⟨b, by rw [List.getElem?_append_left (List.getElem?_eq_some_iff.1 hb).1]; exact hb, ht⟩
  · by_cases hj : j < M.length
    · exact h.blk j b (hl hj hb)
    · obtain rfl := hg (by omega) hb
      refine .inl ⟨⟨rfl, rfl⟩, fun t => ?_⟩
      cases hr : r j t with
      | none => rfl
      | some c =>
        obtain ⟨b, hb, _⟩ := h.dom j t c hr
        exact absurd (List.getElem?_eq_some_iff.1 hb).1 hj
  · have h1 : i < M.length := by
      obtain ⟨b, hb, _⟩ := h.dom i _ _ hc
      exact (List.getElem?_eq_some_iff.1 hb).1
    have h2 : j < M.length := by
      obtain ⟨b, hb, _⟩ := h.dom j _ _ hc'
      exact (List.getElem?_eq_some_iff.1 hb).1
    exact h.inj i j b b' c z z' (hl h1 hb) (hl h2 hb') hw hc hc'
theorem AW.more {P : Program} {c : Code} {Q : Exit → St → Prop} {n : Nat} {t : Env} {m : Mem} (k : Nat) (h : AW P c Q ⟨n, t, m ++ gones k⟩) : AW P c Q ⟨n, t, m⟩ :=
  fun B0 w0 r a w hs => h B0 w0 r a w ⟨hs.defers, hs.size, hs.vals, hs.sim.more k⟩
section
variable {P : Program} {ops l : List Oper} {K : St → Prop} {n : Nat} {t : Env} {m0 M : Mem} {tls : List (Blk × List (Nat × Blk))} {d ty : Nat} {pos : String} {af : Array Edge} {op : Op}
theorem AW.openF [hm : MixT P] {id : Nat} {Q : Exit → St → Prop} (k : Nat) (M : Mem) (tls : List (Blk × List (Nat × Blk))) (he : m0 ++ gones k = M ++ tls.map (·.1) := by (simp only [List.append_assoc]; rfl))
    (hp : (tls.all fun tl => tl.2.all fun x => Nat.blt x.1 l.length) = true := by rfl) (hd : drawOk l = true := by kernel_rfl)
    (h : AQW P l (memF M tls) n l (Q .normal) t) : AW P (.region id l.toArray true) Q ⟨n, t, m0⟩ := by
  refine AW.more k ?_
  rw [he]
  refine AW.drawW (memF M tls) ?_ hm.out hd h
  unfold memF
  congr 1
  refine List.map_congr_left fun tl htl => crs_none ?_
  rw [List.all_eq_true] at hp ⊢
  intro x hx
  have := hp tl htl
  rw [List.all_eq_true] at this
  rw [this x hx]; rfl
theorem wf_nil {m' : Mem} (hm : (M ++ tls.map fun tl => crsEnd tl.2 tl.1) = m' := by (simp only [List.map_cons, List.map_nil, crsEnd]; rfl)) (h : K ⟨n, t, m'⟩) : AQW P ops (memF M tls) n [] K t := by
  subst hm
  have e : (memF M tls fun _ => true) = M ++ tls.map fun tl => crsEnd tl.2 tl.1 := by
    unfold memF
    congr 1
    exact List.map_congr_left fun tl _ => crs_end
  show K ⟨n, t, memF M tls fun _ => true⟩
  rw [e]; exact h
theorem wf_step {v : Value} {ks : List Nat} {kss : List (List Kn)} (hk : tls.map (fun tl => tl.2.map fun x => knW ops x.1 (ops.length - (l.length + 1))) = kss := by repeat' (first | exact kns_nil | exact kn_nil | refine kns_cons (ks := ?_) (kss := ?_) ?_ ?_ | refine kn_cons (k := ?_) (ks := ?_) ?_ ?_ | (first | (refine (?_ : _ = Kn.yes); decide +kernel) | (refine (?_ : _ = Kn.free); decide +kernel) | (refine (?_ : _ = Kn.no); decide +kernel) | (refine (?_ : _ = Kn.self); decide +kernel))))
    (hks : looksO ops ⟨some d, op, ty, pos, af, none⟩ = ks := by rfl) (hd : Nat.blt d n = true := by rfl)
    (hob : obT kss tls fun mb ma => AOs P ops [⟨some d, op, ty, pos, af, none⟩] (fun s' => s' = ⟨n, (d, v) :: keepL ks t, M ++ ma⟩) ⟨n, keepL ks t, M ++ mb⟩ := by (simp only [obT, obC, noFirst]; repeat' (first | exact True.intro | exact rfl | refine And.intro ?_ ?_ | (((refine d_AOs (h := ?_) ; first | refine o_move (h := ?_) | refine o_assign (h := ?_) | refine AOs.nil (h := ?_) | (refine d_bin (h := ?_) ; first | refine o_eqNil (h := ?_) | refine o_addS (h := ?_) | refine o_add (h := ?_) | refine o_lss (h := ?_) | refine o_eqi (h := ?_) | refine o_eqB (h := ?_) | refine o_neB (h := ?_) | refine o_nei (h := ?_) | refine o_leq (h := ?_) | refine o_gtr (h := ?_) | refine o_geq (h := ?_) | refine o_subS (h := ?_) | refine o_sub (h := ?_) | refine o_mulS (h := ?_) | refine o_mul (h := ?_) | refine o_remS (h := ?_) | refine o_rem (h := ?_) | refine o_quo (h := ?_) | refine o_shl (h := ?_) | refine o_shr (h := ?_) | refine o_bits (h := ?_) | refine o_fisnan (h := ?_) | refine o_fne (h := ?_) | refine o_feq (h := ?_) | refine o_flt (h := ?_) | refine o_fle (h := ?_) | refine o_fgt (h := ?_) | refine o_fge (h := ?_) | refine o_fadd (h := ?_) | refine o_fsub (h := ?_) | refine o_fmul (h := ?_) | refine o_fdiv (h := ?_) ) | (refine d_grd (h := ?_) ; first | refine g_yes (h := ?_) | refine g_no (h := ?_) | refine g_undef (h := ?_) | (refine g_true (h1 := (fun hg => ?_)) (h0 := (fun hg => ?_)) <;> (try rw [hg]) <;> (try simp only [decide_eq_true_eq, decide_eq_false_iff_not, Int.ofNat_inj, Bool.not_eq_true', Bool.not_eq_false', Int.not_lt, Int.not_le] at hg) <;> (try (exfalso; omega)) <;> (try (exact absurd hg (by decide)))) | (refine g_false (h1 := (fun hg => ?_)) (h0 := (fun hg => ?_)) <;> (try rw [hg]) <;> (try simp only [decide_eq_true_eq, decide_eq_false_iff_not, Int.ofNat_inj, Bool.not_eq_true', Bool.not_eq_false', Int.not_lt, Int.not_le] at hg) <;> (try (exfalso; omega)) <;> (try (exact absurd hg (by decide))))) | refine o_load (h := ?_) | refine o_at (h := ?_) | refine o_field (h := ?_) | refine o_nil (h := ?_) | refine o_pick (h := ?_) | refine o_not (h := ?_) | refine o_len (h := ?_) | refine o_lenS (h := ?_) | refine o_ixS (h := ?_) | refine o_mkS1 (h := ?_) | refine o_mkS (h := ?_) | refine o_buildS0 (h := ?_) | refine o_buildS (h := ?_) | refine o_app (h := ?_) | refine o_appN (h := ?_) | refine o_app0 (h := ?_) | refine o_slHi (h := ?_) | refine o_slLo (h := ?_) | refine o_slLH (h := ?_) | refine o_mkF (h := ?_) | refine o_store (h := ?_) | refine o_box (h := ?_) | refine o_alloc (h := ?_) | refine o_ix (h := ?_) | refine o_convS (h := ?_) | refine o_conv (h := ?_) | refine o_fconv (h := ?_) | refine o_fofInt (h := ?_) | refine o_bits32 (h := ?_) | refine o_bits64 (h := ?_) | refine o_integral (h := ?_) | refine o_fneg (h := ?_) | refine o_extract (h := ?_) | refine o_build (h := ?_) ) <;> exact AOs.nil rfl)))))
    (hn : AQW P ops (memF M tls) n l K ((d, v) :: t)) :
    AQW P ops (memF M tls) n (⟨some d, op, ty, pos, af, none⟩ :: l) K t := by
  subst hks
  have hw : wantA ops (⟨some d, op, ty, pos, af, none⟩ : Oper) t = some true := rfl
  unfold AQW
  simp only [hw]
  refine ⟨hd, v, fun S g1 g2 g3 => ?_, hn⟩
  exact obT.at (f := fun mb ma => AOs P ops [⟨some d, op, ty, pos, af, none⟩] (fun s' => s' = ⟨n, (d, v) :: keepL _ t, M ++ ma⟩) ⟨n, keepL _ t, M ++ mb⟩) g1 g2 g3 hk hob
theorem wf_stepN {ks : List Nat} {kss : List (List Kn)} (hk : tls.map (fun tl => tl.2.map fun x => knW ops x.1 (ops.length - (l.length + 1))) = kss := by repeat' (first | exact kns_nil | exact kn_nil | refine kns_cons (ks := ?_) (kss := ?_) ?_ ?_ | refine kn_cons (k := ?_) (ks := ?_) ?_ ?_ | (first | (refine (?_ : _ = Kn.yes); decide +kernel) | (refine (?_ : _ = Kn.free); decide +kernel) | (refine (?_ : _ = Kn.no); decide +kernel) | (refine (?_ : _ = Kn.self); decide +kernel))))
    (hks : looksO ops ⟨none, op, ty, pos, af, none⟩ = ks := by rfl)
    (hob : obT kss tls fun mb ma => AOs P ops [⟨none, op, ty, pos, af, none⟩] (fun s' => s' = ⟨n, keepL ks t, M ++ ma⟩) ⟨n, keepL ks t, M ++ mb⟩ := by (simp only [obT, obC, noFirst]; repeat' (first | exact True.intro | exact rfl | refine And.intro ?_ ?_ | (((refine d_AOs (h := ?_) ; first | refine o_move (h := ?_) | refine o_assign (h := ?_) | refine AOs.nil (h := ?_) | (refine d_bin (h := ?_) ; first | refine o_eqNil (h := ?_) | refine o_addS (h := ?_) | refine o_add (h := ?_) | refine o_lss (h := ?_) | refine o_eqi (h := ?_) | refine o_eqB (h := ?_) | refine o_neB (h := ?_) | refine o_nei (h := ?_) | refine o_leq (h := ?_) | refine o_gtr (h := ?_) | refine o_geq (h := ?_) | refine o_subS (h := ?_) | refine o_sub (h := ?_) | refine o_mulS (h := ?_) | refine o_mul (h := ?_) | refine o_remS (h := ?_) | refine o_rem (h := ?_) | refine o_quo (h := ?_) | refine o_shl (h := ?_) | refine o_shr (h := ?_) | refine o_bits (h := ?_) | refine o_fisnan (h := ?_) | refine o_fne (h := ?_) | refine o_feq (h := ?_) | refine o_flt (h := ?_) | refine o_fle (h := ?_) | refine o_fgt (h := ?_) | refine o_fge (h := ?_) | refine o_fadd (h := ?_) | refine o_fsub (h := ?_) | refine o_fmul (h := ?_) | refine o_fdiv (h := ?_) ) | (refine d_grd (h := ?_) ; first | refine g_yes (h := ?_) | refine g_no (h := ?_) | refine g_undef (h := ?_) | (refine g_true (h1 := (fun hg => ?_)) (h0 := (fun hg => ?_)) <;> (try rw [hg]) <;> (try simp only [decide_eq_true_eq, decide_eq_false_iff_not, Int.ofNat_inj, Bool.not_eq_true', Bool.not_eq_false', Int.not_lt, Int.not_le] at hg) <;> (try (exfalso; omega)) <;> (try (exact absurd hg (by decide)))) | (refine g_false (h1 := (fun hg => ?_)) (h0 := (fun hg => ?_)) <;> (try rw [hg]) <;> (try simp only [decide_eq_true_eq, decide_eq_false_iff_not, Int.ofNat_inj, Bool.not_eq_true', Bool.not_eq_false', Int.not_lt, Int.not_le] at hg) <;> (try (exfalso; omega)) <;> (try (exact absurd hg (by decide))))) | refine o_load (h := ?_) | refine o_at (h := ?_) | refine o_field (h := ?_) | refine o_nil (h := ?_) | refine o_pick (h := ?_) | refine o_not (h := ?_) | refine o_len (h := ?_) | refine o_lenS (h := ?_) | refine o_ixS (h := ?_) | refine o_mkS1 (h := ?_) | refine o_mkS (h := ?_) | refine o_buildS0 (h := ?_) | refine o_buildS (h := ?_) | refine o_app (h := ?_) | refine o_appN (h := ?_) | refine o_app0 (h := ?_) | refine o_slHi (h := ?_) | refine o_slLo (h := ?_) | refine o_slLH (h := ?_) | refine o_mkF (h := ?_) | refine o_store (h := ?_) | refine o_box (h := ?_) | refine o_alloc (h := ?_) | refine o_ix (h := ?_) | refine o_convS (h := ?_) | refine o_conv (h := ?_) | refine o_fconv (h := ?_) | refine o_fofInt (h := ?_) | refine o_bits32 (h := ?_) | refine o_bits64 (h := ?_) | refine o_integral (h := ?_) | refine o_fneg (h := ?_) | refine o_extract (h := ?_) | refine o_build (h := ?_) ) <;> exact AOs.nil rfl)))))
    (hn : AQW P ops (memF M tls) n l K t) :
    AQW P ops (memF M tls) n (⟨none, op, ty, pos, af, none⟩ :: l) K t := by
  subst hks
  have hw : wantA ops (⟨none, op, ty, pos, af, none⟩ : Oper) t = some true := rfl
  unfold AQW
  simp only [hw]
  refine ⟨rfl, dead, fun S g1 g2 g3 => ?_, hn⟩
  exact obT.at (f := fun mb ma => AOs P ops [⟨none, op, ty, pos, af, none⟩] (fun s' => s' = ⟨n, keepL _ t, M ++ ma⟩) ⟨n, keepL _ t, M ++ mb⟩) g1 g2 g3 hk hob
end
section
variable {P : Program} {ops : List Oper} {n : Nat} {t : Env} {M m N : Mem} {d ty : Nat} {pos : String} {af : Array Edge} {op : Op} {B : Blk}
/-- The new block in a place that was kept. -/
theorem AOs.fillAt (mk : Nat → Value) (hmk : OneRef mk) (hfl : ∀ c ∈ B.cells, Flat c) (i : Nat) (hd : Nat.blt d n = true) (hi : m[i]? = some gone) (hN : m.set i B = N)
    (h : AOs P ops [⟨some d, op, ty, pos, af, none⟩] (fun s' => s' = ⟨n, (d, mk m.length) :: t, m ++ [B]⟩) ⟨n, t, m⟩) :
    AOs P ops [⟨some d, op, ty, pos, af, none⟩] (fun s' => s' = ⟨n, (d, mk i) :: t, N⟩) ⟨n, t, m⟩ := by
  subst hN
  have hil := (List.getElem?_eq_some_iff.1 hi).1
  refine AOs.place (fun j => if j = i then m.length else j) hfl hd (fun x j hx hj hij => ?_) (fun j b' hj => ?_) (fun j b hj => ?_) ?_ h
  · rw [List.length_set] at hx hj
    split at hij <;> split at hij <;> omega
  · rw [List.getElem?_set] at hj
    by_cases e : i = j
    · rw [if_pos e, if_pos hil] at hj
      cases hj
      exact .inr (.inr ⟨if_pos e.symm, rfl⟩)
    · rw [if_neg e] at hj
      exact .inr (.inl ⟨if_neg fun h => e h.symm, hj⟩)
  · by_cases e : j = i
    · subst e
      rw [hi] at hj; cases hj; exact .inl rfl
    · exact .inr ⟨by rw [List.length_set]; exact (List.getElem?_eq_some_iff.1 hj).1, if_neg e⟩
  · have h1 := hmk (m.set i B).length (fun j => if j = i then m.length else j) i (by rw [List.length_set]; exact hil)
    rw [if_pos rfl] at h1
    exact h1
/-- The same, told from the list behind M. -/
theorem AOs.fillF (mk : Nat → Value) (hmk : OneRef mk) (i : Nat) (hd : Nat.blt d n = true) (hi : m[i]? = some gone) (hN : m.set i ((N[i]?).getD gone) = N) (hfl : ∀ c ∈ ((N[i]?).getD gone).cells, Flat c)
    (h : AOs P ops [⟨some d, op, ty, pos, af, none⟩] (fun s' => s' = ⟨n, (d, mk (M.length + m.length)) :: t, M ++ (m ++ [(N[i]?).getD gone])⟩) ⟨n, t, M ++ m⟩) :
    AOs P ops [⟨some d, op, ty, pos, af, none⟩] (fun s' => s' = ⟨n, (d, mk (M.length + i)) :: t, M ++ N⟩) ⟨n, t, M ++ m⟩ := by
  generalize (N[i]?).getD gone = B at *
  subst hN
  refine AOs.fillAt mk hmk hfl (M.length + i) hd ?_ ?_ (by rw [List.length_append, List.append_assoc]; exact h)
  · rw [List.getElem?_append_right (by omega), Nat.add_sub_cancel_left]; exact hi
  · rw [List.set_append_right _ _ (by omega), Nat.add_sub_cancel_left]
end
end Go.Proofs.Ytjghdagcmombnaa

/- Guarded operations in open regions that change memory. No program in sight. -/
namespace Go.Proofs.Ytjghdagcmombnaa
open Go.RowKit
set_option linter.unusedSimpArgs false
set_option linter.unusedVariables false

section
variable {P : Program} {ops l : List Oper} {K : St → Prop} {n : Nat} {t : Env} {m0 m1 : Mem} {d ty : Nat} {pos : String} {af : Array Edge} {op : Op} {p : Nat}
end
end Go.Proofs.Ytjghdagcmombnaa

/- Roads: ramps. -/
namespace Go.Proofs.Ytjghdagcmombnaa
open Go.RowKit
attribute [local irreducible] AW AOs AO AQ AQW thenA inBlockA postA ACalls Pure
set_option linter.unusedSimpArgs false
set_option linter.unusedVariables false
set_option linter.unusedSectionVars false

section
variable {c : Nat → Nat} {p b l : Nat} (hr : RdOk c p b l) {off room jn : Nat} (ho : isAm off = true) (hro : isAm room = true) (hj : isAm jn = true) {i : Nat} (hi : i < 16)
include hr ho hro hj hi
end
end Go.Proofs.Ytjghdagcmombnaa

/- Ramps and smoothing: plain facts. -/
namespace Go.Proofs.Ytjghdagcmombnaa
open Go.RowKit
attribute [local irreducible] AW AOs AO AQ AQW thenA inBlockA postA ACalls Pure
set_option linter.unusedSimpArgs false
set_option linter.unusedVariables false
set_option linter.unusedSectionVars false

section
variable {c : Nat → Nat} {p b off room : Nat} (hpb : PbOk p b) (hc : ∀ q, q < 16 → nn (c q) ∧ fv (c q) ≤ U) (ho : nn off) (ho1 : fv off ≤ U) (hr : nn room) (hr1 : fv room ≤ U)
include hpb hc
include ho ho1 hr hr1
end
/-! ### Smoothing -/
end Go.Proofs.Ytjghdagcmombnaa

/- Junctions that are drawn: plain facts. -/
namespace Go.Proofs.Ytjghdagcmombnaa
open Go.RowKit
attribute [local irreducible] AW AOs AO AQ AQW thenA inBlockA postA ACalls Pure
set_option linter.unusedSimpArgs false
set_option linter.unusedVariables false
set_option linter.unusedSectionVars false

theorem shg_33 : ∀ x : Fin 33, fin32 (shw x.val) = true ∧ shw x.val < 2147483648 ∧ fv (shw x.val) = (x.val : Int) * 2 ^ 145 := by decide +kernel
theorem shg_fv {x : Int} (h : 0 ≤ x ∧ x ≤ 32) : nn (shw x) ∧ fv (shw x) = x * 2 ^ 145 := by
  obtain ⟨h1, h2, h3⟩ := shg_33 ⟨x.toNat, by omega⟩
  have e : ((x.toNat : Nat) : Int) = x := Int.toNat_of_nonneg h.1
  simp only [e] at h1 h2 h3
  exact ⟨⟨h1, h2⟩, h3⟩
theorem prw_8 : ∀ v : Fin 8, prB (prw v.val) = true := by decide +kernel
theorem prw_ok {v : Int} (h : 0 ≤ v ∧ v < 8) : prB (prw v) = true := by
  have h1 := prw_8 ⟨v.toNat, by omega⟩
  have e : ((v.toNat : Nat) : Int) = v := Int.toNat_of_nonneg h.1
  simp only [e] at h1
  exact h1
theorem noB_0 : noB 0 = true := by decide +kernel
/-- A junction that can be drawn: its shares in sixteenths. -/
structure JnDr (n o : Nat) (h : Nat → Nat) (W : Nat → Nat → Int) : Prop where
  hn : 1 ≤ n ∧ n ≤ 4
  ho : 1 ≤ o ∧ o ≤ 4
  bd : ∀ i k, 0 ≤ W i k ∧ W i k ≤ 16
  cell : ∀ i k, i < 4 → k < 4 → h (2 + i * 4 + k) = shw (W i k)
  zero : ∀ i k, (n ≤ i ∨ o ≤ k) → W i k = 0
  sum : ∀ i, i < n → W i 0 + W i 1 + W i 2 + W i 3 = 16
  pri : ∀ i, i < 4 → if i < n then ∃ v : Int, (0 ≤ v ∧ v < 8) ∧ h (18 + i) = prw v else h (18 + i) = 0
section
variable (n : Nat) (cd : Nat → Int)
theorem jdIn_keep {o i : Nat} {x : DS × Int × (Nat → Nat)} {q : Nat} : ∀ k, k ≤ o → (q < 2 + i * 4 ∨ 2 + i * 4 + o ≤ q) → (jdIn n cd o i k x).2.2 q = x.2.2 q
  | 0, _, _ => rfl
  | k + 1, hk, hq => by
    show (if q = 2 + i * 4 + k then _ else (jdIn n cd o i k x).2.2 q) = _
    rw [if_neg (by omega)]
    exact jdIn_keep k (by omega) hq
/-- The shares of one way in. -/
theorem jdIn_row {o i : Nat} {x : DS × Int × (Nat → Nat)} (hx : x.2.1 = 16) : ∀ k, k ≤ o → (∀ q, q < k → ∃ w : Int, (0 ≤ w ∧ w ≤ 16) ∧ w = (jdIn n cd o i q x).2.1 - (jdIn n cd o i (q + 1) x).2.1 ∧ (jdIn n cd o i k x).2.2 (2 + i * 4 + q) = shw w) ∧ (k = o → 1 ≤ k → (jdIn n cd o i k x).2.1 = 0)
  | 0, _ => ⟨fun q hq => by omega, fun _ h => by omega⟩
  | k + 1, hk => by
    have hb := (jdIn_bd n cd (outs := o) (i := i) (x := x) (by omega) k).1
    obtain ⟨h1, _⟩ := jdIn_row (o := o) (i := i) hx k (by omega)
    have hp := pkV_bd (n := n) (cd := cd) (jdIn n cd o i k x).1 (m := (jdIn n cd o i k x).2.1 + 1) (by omega)
    refine ⟨fun q hq => ?_, fun h _ => ?_⟩
    · by_cases e : q = k
      · subst e
        refine ⟨if q + 1 = o then (jdIn n cd o i q x).2.1 else pkV n cd (jdIn n cd o i q x).1 ((jdIn n cd o i q x).2.1 + 1), by split <;> omega, ?_, ?_⟩
        · show _ = (jdIn n cd o i q x).2.1 - ((jdIn n cd o i q x).2.1 - _)
          omega
        · show (if 2 + i * 4 + q = 2 + i * 4 + q then _ else _) = _
          rw [if_pos rfl]
      · obtain ⟨w, h2, h3, h4⟩ := h1 q (by omega)
        refine ⟨w, h2, h3, ?_⟩
        show (if 2 + i * 4 + q = 2 + i * 4 + k then _ else (jdIn n cd o i k x).2.2 (2 + i * 4 + q)) = _
        rw [if_neg (by omega)]
        exact h4
    · show (jdIn n cd o i k x).2.1 - (if k + 1 = o then _ else _) = 0
      rw [if_pos h]; omega
theorem jdIn_sum {o i : Nat} (ho : 1 ≤ o ∧ o ≤ 4) {x : DS × Int × (Nat → Nat)} (hx : x.2.1 = 16) : ∃ w : Nat → Int, (∀ k, 0 ≤ w k ∧ w k ≤ 16) ∧ (∀ k, o ≤ k → w k = 0) ∧ w 0 + w 1 + w 2 + w 3 = 16 ∧ ∀ k, k < o → (jdIn n cd o i o x).2.2 (2 + i * 4 + k) = shw (w k) := by
  obtain ⟨h1, h2⟩ := jdIn_row n cd (o := o) (i := i) hx o (Nat.le_refl _)
  have h3 := h2 rfl ho.1
  have h0 : (jdIn n cd o i 0 x).2.1 = 16 := hx
  refine ⟨fun k => if k < o then (jdIn n cd o i k x).2.1 - (jdIn n cd o i (k + 1) x).2.1 else 0, fun k => ?_, fun k hk => if_neg (by omega), ?_, fun k hk => ?_⟩
  · by_cases hk : k < o
    · obtain ⟨w, g1, g2, _⟩ := h1 k hk
      show 0 ≤ (if k < o then _ else (0 : Int)) ∧ (if k < o then _ else (0 : Int)) ≤ 16
      rw [if_pos hk, ← g2]; exact g1
    · show 0 ≤ (if k < o then _ else (0 : Int)) ∧ (if k < o then _ else (0 : Int)) ≤ 16
      rw [if_neg hk]; omega
  · obtain ⟨g1, g2⟩ := ho
    have : o = 1 ∨ o = 2 ∨ o = 3 ∨ o = 4 := by omega
    rcases this with rfl | rfl | rfl | rfl
    · show (if 0 < 1 then _ else (0 : Int)) + (if 1 < 1 then _ else (0 : Int)) + (if 2 < 1 then _ else (0 : Int)) + (if 3 < 1 then _ else (0 : Int)) = 16
      rw [if_pos (by decide), if_neg (by decide), if_neg (by decide), if_neg (by decide)]; simp only [Nat.zero_add, Nat.reduceAdd]; omega
    · show (if 0 < 2 then _ else (0 : Int)) + (if 1 < 2 then _ else (0 : Int)) + (if 2 < 2 then _ else (0 : Int)) + (if 3 < 2 then _ else (0 : Int)) = 16
      rw [if_pos (by decide), if_pos (by decide), if_neg (by decide), if_neg (by decide)]; simp only [Nat.zero_add, Nat.reduceAdd]; omega
    · show (if 0 < 3 then _ else (0 : Int)) + (if 1 < 3 then _ else (0 : Int)) + (if 2 < 3 then _ else (0 : Int)) + (if 3 < 3 then _ else (0 : Int)) = 16
      rw [if_pos (by decide), if_pos (by decide), if_pos (by decide), if_neg (by decide)]; simp only [Nat.zero_add, Nat.reduceAdd]; omega
    · show (if 0 < 4 then _ else (0 : Int)) + (if 1 < 4 then _ else (0 : Int)) + (if 2 < 4 then _ else (0 : Int)) + (if 3 < 4 then _ else (0 : Int)) = 16
      rw [if_pos (by decide), if_pos (by decide), if_pos (by decide), if_pos (by decide)]; simp only [Nat.zero_add, Nat.reduceAdd]; omega
  · obtain ⟨w, g1, g2, g3⟩ := h1 k hk
    show _ = shw (if k < o then _ else (0 : Int))
    rw [if_pos hk, ← g2]; exact g3
def rowDr (o i : Nat) (h : Nat → Nat) : Prop := (∃ w : Nat → Int, (∀ k, 0 ≤ w k ∧ w k ≤ 16) ∧ (∀ k, o ≤ k → w k = 0) ∧ w 0 + w 1 + w 2 + w 3 = 16 ∧ ∀ k, k < o → h (2 + i * 4 + k) = shw (w k)) ∧ ∃ v : Int, (0 ≤ v ∧ v < 8) ∧ h (18 + i) = prw v
theorem jdOut_rows {o : Nat} (ho : 1 ≤ o ∧ o ≤ 4) {x : DS × (Nat → Nat)} : ∀ i, i ≤ 4 → (∀ i', i' < i → rowDr o i' (jdOut n cd o i x).2) ∧ ∀ i' k, i' < 4 → k < 4 → ((o ≤ k ∨ i ≤ i') → (jdOut n cd o i x).2 (2 + i' * 4 + k) = x.2 (2 + i' * 4 + k)) ∧ (i ≤ i' → (jdOut n cd o i x).2 (18 + i') = x.2 (18 + i'))
  | 0, _ => ⟨fun i' h => by omega, fun _ _ _ _ => ⟨fun _ => rfl, fun _ => rfl⟩⟩
  | i + 1, hi => by
    obtain ⟨h1, h2⟩ := jdOut_rows ho (x := x) i (by omega)
    obtain ⟨w, g1, g2, g3, g4⟩ := jdIn_sum n cd (o := o) (i := i) ho (x := ((jdOut n cd o i x).1, 16, (jdOut n cd o i x).2)) rfl
    have hk := fun q => jdIn_keep n cd (o := o) (i := i) (x := ((jdOut n cd o i x).1, 16, (jdOut n cd o i x).2)) (q := q) o (Nat.le_refl _)
    have hv := pkV_bd (n := n) (cd := cd) (jdIn n cd o i o ((jdOut n cd o i x).1, 16, (jdOut n cd o i x).2)).1 (m := 8) (by omega)
    have put : ∀ q, (jdOut n cd o (i + 1) x).2 q = if q = 18 + i then prw (pkV n cd (jdIn n cd o i o ((jdOut n cd o i x).1, 16, (jdOut n cd o i x).2)).1 8) else (jdIn n cd o i o ((jdOut n cd o i x).1, 16, (jdOut n cd o i x).2)).2.2 q := fun _ => rfl
    refine ⟨fun i' hi' => ?_, fun i' k hi4 hk4 => ⟨fun hc => ?_, fun hc => ?_⟩⟩
    · by_cases e : i' = i
      · subst e
        refine ⟨⟨w, g1, g2, g3, fun k hk => ?_⟩, _, hv, ?_⟩
        · rw [put, if_neg (by omega)]; exact g4 k hk
        · rw [put, if_pos rfl]
      · obtain ⟨⟨w', a1, a2, a3, a4⟩, v', b1, b2⟩ := h1 i' (by omega)
        refine ⟨⟨w', a1, a2, a3, fun k hk' => ?_⟩, v', b1, ?_⟩
        · rw [put, if_neg (by omega), hk _ (by omega)]; exact a4 k hk'
        · rw [put, if_neg (by omega), hk _ (by omega)]; exact b2
    · rw [put, if_neg (by omega)]
      by_cases e : i' = i
      · subst e
        rw [hk _ (by omega)]
        exact (h2 i' k hi4 hk4).1 (by omega)
      · rw [hk _ (by omega)]
        exact (h2 i' k hi4 hk4).1 (by omega)
    · rw [put, if_neg (by omega), hk _ (by omega)]
      exact (h2 i' 0 hi4 (by omega)).2 (by omega)
theorem evIn_out {o i q : Nat} {h : Nat → Nat} : ∀ k, k ≤ o → (q < 2 + i * 4 ∨ 2 + i * 4 + o ≤ q) → evIn o i k h q = h q
  | 0, _, _ => rfl
  | k + 1, hk, hq => by
    show (if q = 2 + i * 4 + k then _ else _) = _
    rw [if_neg (by omega)]
    exact evIn_out k (by omega) hq
theorem evOut_zero {o : Nat} (ho : o ≤ 4) : ∀ m i k, m ≤ 4 → i < 4 → k < 4 → ((o ≤ k ∨ m ≤ i) → evOut o m (2 + i * 4 + k) = 0) ∧ (m ≤ i → evOut o m (18 + i) = 0)
  | 0, i, k, _, _, _ => ⟨fun _ => rfl, fun _ => rfl⟩
  | m + 1, i, k, hm, hi, hk => by
    obtain ⟨h1, h2⟩ := evOut_zero ho m i k (by omega) hi hk
    refine ⟨fun hc => ?_, fun hc => ?_⟩
    · show (if 2 + i * 4 + k = 18 + m then _ else evIn o m o (evOut o m) (2 + i * 4 + k)) = 0
      rw [if_neg (by omega), evIn_out o (Nat.le_refl _) (by omega)]
      exact h1 (by omega)
    · show (if 18 + i = 18 + m then _ else evIn o m o (evOut o m) (18 + i)) = 0
      rw [if_neg (by omega)]
      rw [evIn_out o (Nat.le_refl _) (by omega)]; exact h2 (by omega)
theorem jnDr_of (s : DS) : ∃ W, JnDr (jdA n cd s) (jdB n cd s) (jdX n cd s).2 W := by
  have b1 := pkV_bd (n := n) (cd := cd) s (m := 4) (by omega)
  have b2 := pkV_bd (n := n) (cd := cd) (pkS n cd s 4) (m := 4) (by omega)
  have hA : 1 ≤ jdA n cd s ∧ jdA n cd s ≤ 4 := by unfold jdA; omega
  have hB : 1 ≤ jdB n cd s ∧ jdB n cd s ≤ 4 := by unfold jdB; omega
  unfold jdX
  generalize jdA n cd s = A at *
  generalize jdB n cd s = B at *
  obtain ⟨h1, h2⟩ := jdOut_rows n cd hB (x := (pkS n cd (pkS n cd s 4) 4, evOut B A)) A hA.2
  generalize hh : (jdOut n cd B A (pkS n cd (pkS n cd s 4) 4, evOut B A)).2 = h at *
  have key : ∀ i, ∃ w : Nat → Int, (∀ k, 0 ≤ w k ∧ w k ≤ 16) ∧ (∀ k, (A ≤ i ∨ B ≤ k) → w k = 0) ∧ (i < A → w 0 + w 1 + w 2 + w 3 = 16) ∧ ∀ k, i < 4 → k < 4 → h (2 + i * 4 + k) = shw (w k) := fun i => by
    by_cases hi : i < A
    · obtain ⟨⟨w, a1, a2, a3, a4⟩, _⟩ := h1 i hi
      refine ⟨w, a1, fun k hk => a2 k (by omega), fun _ => a3, fun k hi4 hk4 => ?_⟩
      by_cases hk : k < B
      · exact a4 k hk
      · rw [(h2 i k hi4 hk4).1 (by omega), a2 k (by omega), shw_0]
        exact (evOut_zero hB.2 A i k hA.2 hi4 hk4).1 (by omega)
    · refine ⟨fun _ => 0, fun _ => ⟨Int.le_refl 0, show (0 : Int) ≤ 16 by decide⟩, fun _ _ => rfl, fun h => absurd h hi, fun k hi4 hk4 => ?_⟩
      rw [(h2 i k hi4 hk4).1 (by omega), shw_0]
      exact (evOut_zero hB.2 A i k hA.2 hi4 hk4).1 (by omega)
  refine ⟨fun i => Classical.choose (key i), ⟨hA, hB, fun i k => (Classical.choose_spec (key i)).1 k, fun i k hi hk => (Classical.choose_spec (key i)).2.2.2 k hi hk, fun i k hc => (Classical.choose_spec (key i)).2.1 k hc, fun i hi => (Classical.choose_spec (key i)).2.2.1 hi, fun i hi => ?_⟩⟩
  by_cases hA' : i < A
  · rw [if_pos hA']; exact (h1 i hA').2
  · rw [if_neg hA', (h2 i 0 hi (by omega)).2 (by omega)]
    exact (evOut_zero hB.2 A i 0 hA.2 hi (by omega)).2 (by omega)
end
end Go.Proofs.Ytjghdagcmombnaa
