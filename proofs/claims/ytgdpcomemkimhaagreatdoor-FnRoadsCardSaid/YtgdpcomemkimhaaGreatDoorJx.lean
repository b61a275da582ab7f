/- Texts of plans. -/
import Derived.Test.YtgdpcomemkimhaaGreatDoorHx
import Derived.Test.YtgdpcomemkimhaaGreatDoorPl2
import Derived.Lib.ItoaLen
import Derived.Test.YtgdpcomemkimhaaGreatDoorJn
import Derived.Test.YtgdpcomemkimhaaGreatDoorJv
import Derived.Test.YtgdpcomemkimhaaGreatDoorRw

namespace Go.Proofs.YtgdpcomemkimhaaGreatDoor
open Go.RowKit
attribute [local irreducible] AW AOs AO AQ AQW thenA inBlockA postA ACalls Pure
set_option linter.unusedSimpArgs false
set_option linter.unusedVariables false
set_option linter.unusedSectionVars false

end Go.Proofs.YtgdpcomemkimhaaGreatDoor

/- Open regions: each block has a course of its own; places are kept for blocks to come. No program in sight. -/
namespace Go.Proofs.YtgdpcomemkimhaaGreatDoor
open Go.RowKit
set_option linter.unusedSimpArgs false
set_option linter.unusedVariables false

/-- What a course has come to where the operations S have come. -/
def crs {α : Type} : List (Nat × α) → α → (Nat → Bool) → α
  | [], b, _ => b
  | (p, m) :: ps, b, S => bif S p then crs ps m S else b
def crsEnd {α : Type} : List (Nat × α) → α → α
  | [], b => b
  | (_, m) :: ps, _ => crsEnd ps m
def noFirst : List Kn → Prop
  | [] => True
  | k :: _ => k = .no
def obC {α : Type} : List Kn → List (Nat × α) → α → (α → α → Prop) → Prop
  | k :: ks, (_, m) :: ps, m0, f => match k with
    | .yes => obC ks ps m f
    | .no => f m0 m0
    | .free => f m0 m0 ∧ obC ks ps m f
    | .self => noFirst ks ∧ f m0 m
  | [], [], m0, f => f m0 m0
  | _, _, _, _ => False
theorem obC.at {α : Type} {ops : List Oper} {i : Nat} {S : Nat → Bool} (h1 : ∀ q, q ∈ (pres ops).getD i [] → S q = true) (h2 : ∀ q, i ∈ (pres ops).getD q [] → S q = false) (h3 : S i = false) :
    ∀ {ps : List (Nat × α)} {ks : List Kn} {m0 : α} {f : α → α → Prop}, ps.map (fun x => knW ops x.1 i) = ks → obC ks ps m0 f → f (crs ps m0 S) (crs ps m0 (withI S i))
  | [], ks, m0, f, hk, h => by
    subst hk; exact h
  | (p, m) :: ps, ks, m0, f, hk, h => by
    subst hk
    simp only [List.map_cons, obC] at h
    simp only [crs]
    cases hkn : knW ops p i with
    | yes =>
      rw [hkn] at h
      obtain ⟨ha, hb⟩ := ObK.at (ops := ops) (p := p) (i := i) (S := S) (f := fun b => b = true) (by rw [hkn]; exact rfl) h1 h2 h3
      rw [hkn] at hb
      rw [hb, ha]
      exact obC.at h1 h2 h3 rfl h
    | no =>
      rw [hkn] at h
      obtain ⟨ha, hb⟩ := ObK.at (ops := ops) (p := p) (i := i) (S := S) (f := fun b => b = false) (by rw [hkn]; exact rfl) h1 h2 h3
      rw [hkn] at hb
      rw [hb, ha]
      exact h
    | free =>
      rw [hkn] at h
      obtain ⟨ha, hb⟩ := ObK.at (ops := ops) (p := p) (i := i) (S := S) (f := fun _ => True) (by rw [hkn]; exact ⟨trivial, trivial⟩) h1 h2 h3
      rw [hkn] at hb
      rw [hb]
      show f (bif S p then _ else _) (bif S p then _ else _)
      cases S p
      · exact h.1
      · exact obC.at h1 h2 h3 rfl h.2
    | self =>
      rw [hkn] at h
      obtain ⟨ha, hb⟩ := ObK.at (ops := ops) (p := p) (i := i) (S := S) (f := fun b => b = false) (by rw [hkn]; exact rfl) h1 h2 h3
      rw [hkn] at hb
      rw [hb, ha]
      have hm : crs ps m (withI S i) = m := by
        cases ps with
        | nil => rfl
        | cons x ps =>
          have hno : knW ops x.1 i = .no := h.1
          obtain ⟨hc, hd⟩ := ObK.at (ops := ops) (p := x.1) (i := i) (S := S) (f := fun b => b = false) (by rw [hno]; exact rfl) h1 h2 h3
          rw [hno] at hd
          show (bif withI S i x.1 then _ else m) = m
          rw [hd]
          show (bif S x.1 then _ else m) = m
          rw [hc]; rfl
      show f m0 (crs ps m (withI S i))
      rw [hm]
      exact h.2
/-- Several courses side by side. -/
def obT : List (List Kn) → List (Blk × List (Nat × Blk)) → (List Blk → List Blk → Prop) → Prop
  | ks :: kss, tl :: tls, f => obC ks tl.2 tl.1 fun x y => obT kss tls fun xs ys => f (x :: xs) (y :: ys)
  | [], [], f => f [] []
  | _, _, _ => False
theorem obT.at {ops : List Oper} {i : Nat} {S : Nat → Bool} (h1 : ∀ q, q ∈ (pres ops).getD i [] → S q = true) (h2 : ∀ q, i ∈ (pres ops).getD q [] → S q = false) (h3 : S i = false) :
    ∀ {tls : List (Blk × List (Nat × Blk))} {kss : List (List Kn)} {f : List Blk → List Blk → Prop}, tls.map (fun tl => tl.2.map fun x => knW ops x.1 i) = kss → obT kss tls f →
      f (tls.map fun tl => crs tl.2 tl.1 S) (tls.map fun tl => crs tl.2 tl.1 (withI S i))
  | [], kss, f, hk, h => by subst hk; exact h
  | tl :: tls, kss, f, hk, h => by
    subst hk
    have h0 : obC (tl.2.map fun x => knW ops x.1 i) tl.2 tl.1 fun x y => obT (tls.map fun tl => tl.2.map fun x => knW ops x.1 i) tls fun xs ys => f (x :: xs) (y :: ys) := h
    have h' := obC.at (f := fun x y => obT (tls.map fun tl => tl.2.map fun x => knW ops x.1 i) tls fun xs ys => f (x :: xs) (y :: ys)) h1 h2 h3 rfl h0
    exact obT.at (f := fun xs ys => f (crs tl.2 tl.1 S :: xs) (crs tl.2 tl.1 (withI S i) :: ys)) h1 h2 h3 rfl h'
theorem kn_nil {ops : List Oper} {i : Nat} {α : Type} : ([] : List (Nat × α)).map (fun x => knW ops x.1 i) = [] := rfl
theorem kn_cons {ops : List Oper} {i p : Nat} {α : Type} {m : α} {ps : List (Nat × α)} {k : Kn} {ks : List Kn} (h : knW ops p i = k) (h' : ps.map (fun x => knW ops x.1 i) = ks) : ((p, m) :: ps).map (fun x => knW ops x.1 i) = k :: ks := by
  rw [List.map_cons, h, h']
theorem kns_nil {ops : List Oper} {i : Nat} : ([] : List (Blk × List (Nat × Blk))).map (fun tl => tl.2.map fun x => knW ops x.1 i) = [] := rfl
theorem kns_cons {ops : List Oper} {i : Nat} {b : Blk} {ps : List (Nat × Blk)} {tls : List (Blk × List (Nat × Blk))} {ks : List Kn} {kss : List (List Kn)} (h : ps.map (fun x => knW ops x.1 i) = ks) (h' : tls.map (fun tl => tl.2.map fun x => knW ops x.1 i) = kss) :
    ((b, ps) :: tls).map (fun tl => tl.2.map fun x => knW ops x.1 i) = ks :: kss := by
  rw [List.map_cons, h']
  exact congrArg (· :: kss) h
def memF (M : Mem) (tls : List (Blk × List (Nat × Blk))) (S : Nat → Bool) : Mem := M ++ tls.map fun tl => crs tl.2 tl.1 S
theorem crs_none {α : Type} {ps : List (Nat × α)} {b : α} {S : Nat → Bool} (h : ps.all (fun x => !S x.1) = true) : crs ps b S = b := by
  cases ps with
  | nil => rfl
  | cons x ps =>
    rw [List.all_cons, Bool.and_eq_true] at h
    show (bif S x.1 then _ else b) = b
    have : S x.1 = false := by simpa using h.1
    rw [this]; rfl
theorem crs_end {α : Type} : ∀ {ps : List (Nat × α)} {b : α}, crs ps b (fun _ => true) = crsEnd ps b
  | [], _ => rfl
  | (_, m) :: ps, _ => crs_end (ps := ps) (b := m)
/-! ### Places kept for blocks to come -/
def gones (k : Nat) : Mem := List.replicate k gone
theorem Sim.more {B0 : Nat} {w0 : World} {r : Ren} {M : Mem} {w : World} (h : Sim B0 w0 r M w) (k : Nat) : Sim B0 w0 r (M ++ gones k) w := by
  have hg : ∀ {j b}, M.length ≤ j → (M ++ gones k)[j]? = some b → b = gone := fun {j b} hj hb => by
    rw [List.getElem?_append_right hj] at hb
    exact List.eq_of_mem_replicate (List.mem_of_getElem? hb)
  have hl : ∀ {j b}, j < M.length → (M ++ gones k)[j]? = some b → M[j]? = some b := fun {j b} hj hb => by rwa [List.getElem?_append_left hj] at hb
  refine ⟨h.below, h.base, fun j t c hr => ?_, h.lt, fun j b hb => ?_, fun i j b b' c z z' hb hb' hw hc hc' => ?_⟩
  · obtain ⟨b, hb, ht⟩ := h.dom j t c hr
    exact ⟨b, by rw [List.getElem?_append_left (List.getElem?_eq_some_iff.1 hb).1]; exact hb, ht⟩
  · by_cases hj : j < M.length
    · exact h.blk j b (hl hj hb)
    · obtain rfl := hg (by omega) hb
      refine .inl ⟨⟨rfl, rfl⟩, fun t => ?_⟩
      cases hr : r j t with
      | none => rfl
      | some c =>
        obtain ⟨b, hb, _⟩ := h.dom j t c hr
        exact absurd (List.getElem?_eq_some_iff.1 hb).1 hj
  · have h1 : i < M.length := by
      obtain ⟨b, hb, _⟩ := h.dom i _ _ hc
      exact (List.getElem?_eq_some_iff.1 hb).1
    have h2 : j < M.length := by
      obtain ⟨b, hb, _⟩ := h.dom j _ _ hc'
      exact (List.getElem?_eq_some_iff.1 hb).1
    exact h.inj i j b b' c z z' (hl h1 hb) (hl h2 hb') hw hc hc'
theorem AW.more {P : Program} {c : Code} {Q : Exit → St → Prop} {n : Nat} {t : Env} {m : Mem} (k : Nat) (h : AW P c Q ⟨n, t, m ++ gones k⟩) : AW P c Q ⟨n, t, m⟩ :=
  fun B0 w0 r a w hs => h B0 w0 r a w ⟨hs.defers, hs.size, hs.vals, hs.sim.more k⟩
section
variable {P : Program} {ops l : List Oper} {K : St → Prop} {n : Nat} {t : Env} {m0 M : Mem} {tls : List (Blk × List (Nat × Blk))} {d ty : Nat} {pos : String} {af : Array Edge} {op : Op}
theorem AW.openF [hm : MixT P] {id : Nat} {Q : Exit → St → Prop} (k : Nat) (M : Mem) (tls : List (Blk × List (Nat × Blk))) (he : m0 ++ gones k = M ++ tls.map (·.1) := by (simp only [List.append_assoc]; rfl))
    (hp : (tls.all fun tl => tl.2.all fun x => Nat.blt x.1 l.length) = true := by rfl) (hd : drawOk l = true := by kernel_rfl)
    (h : AQW P l (memF M tls) n l (Q .normal) t) : AW P (.region id l.toArray true) Q ⟨n, t, m0⟩ := by
  refine AW.more k ?_
  rw [he]
  refine AW.drawW (memF M tls) ?_ hm.out hd h
  unfold memF
  congr 1
  refine List.map_congr_left fun tl htl => crs_none ?_
  rw [List.all_eq_true] at hp ⊢
  intro x hx
  have := hp tl htl
  rw [List.all_eq_true] at this
  rw [this x hx]; rfl
theorem wf_nil {m' : Mem} (hm : (M ++ tls.map fun tl => crsEnd tl.2 tl.1) = m' := by (simp only [List.map_cons, List.map_nil, crsEnd]; rfl)) (h : K ⟨n, t, m'⟩) : AQW P ops (memF M tls) n [] K t := by
  subst hm
  have e : (memF M tls fun _ => true) = M ++ tls.map fun tl => crsEnd tl.2 tl.1 := by
    unfold memF
    congr 1
    exact List.map_congr_left fun tl _ => crs_end
  show K ⟨n, t, memF M tls fun _ => true⟩
  rw [e]; exact h
theorem wf_step {v : Value} {ks : List Nat} {kss : List (List Kn)} (hk : tls.map (fun tl => tl.2.map fun x => knW ops x.1 (ops.length - (l.length + 1))) = kss := by repeat' (first | exact kns_nil | exact kn_nil | refine kns_cons (ks := ?_) (kss := ?_) ?_ ?_ | refine kn_cons (k := ?_) (ks := ?_) ?_ ?_ | (first | (refine (?_ : _ = Kn.yes); decide +kernel) | (refine (?_ : _ = Kn.free); decide +kernel) | (refine (?_ : _ = Kn.no); decide +kernel) | (refine (?_ : _ = Kn.self); decide +kernel))))
    (hks : looksO ops ⟨some d, op, ty, pos, af, none⟩ = ks := by rfl) (hd : Nat.blt d n = true := by rfl)
    (hob : obT kss tls fun mb ma => AOs P ops [⟨some d, op, ty, pos, af, none⟩] (fun s' => s' = ⟨n, (d, v) :: keepL ks t, M ++ ma⟩) ⟨n, keepL ks t, M ++ mb⟩ := by (simp only [obT, obC, noFirst]; repeat' (first | exact True.intro | exact rfl | refine And.intro ?_ ?_ | (((refine d_AOs (h := ?_) ; first | refine o_move (h := ?_) | refine o_assign (h := ?_) | refine AOs.nil (h := ?_) | (refine d_bin (h := ?_) ; first | refine o_eqNil (h := ?_) | refine o_addS (h := ?_) | refine o_add (h := ?_) | refine o_lss (h := ?_) | refine o_eqi (h := ?_) | refine o_eqB (h := ?_) | refine o_neB (h := ?_) | refine o_nei (h := ?_) | refine o_leq (h := ?_) | refine o_gtr (h := ?_) | refine o_geq (h := ?_) | refine o_subS (h := ?_) | refine o_sub (h := ?_) | refine o_mulS (h := ?_) | refine o_mul (h := ?_) | refine o_remS (h := ?_) | refine o_rem (h := ?_) | refine o_quo (h := ?_) | refine o_shl (h := ?_) | refine o_shr (h := ?_) | refine o_bits (h := ?_) | refine o_fisnan (h := ?_) | refine o_fne (h := ?_) | refine o_feq (h := ?_) | refine o_flt (h := ?_) | refine o_fle (h := ?_) | refine o_fgt (h := ?_) | refine o_fge (h := ?_) | refine o_fadd (h := ?_) | refine o_fsub (h := ?_) | refine o_fmul (h := ?_) | refine o_fdiv (h := ?_) ) | (refine d_grd (h := ?_) ; first | refine g_yes (h := ?_) | refine g_no (h := ?_) | refine g_undef (h := ?_) | (refine g_true (h1 := (fun hg => ?_)) (h0 := (fun hg => ?_)) <;> (try rw [hg]) <;> (try simp only [decide_eq_true_eq, decide_eq_false_iff_not, Int.ofNat_inj, Bool.not_eq_true', Bool.not_eq_false', Int.not_lt, Int.not_le] at hg) <;> (try (exfalso; omega)) <;> (try (exact absurd hg (by decide)))) | (refine g_false (h1 := (fun hg => ?_)) (h0 := (fun hg => ?_)) <;> (try rw [hg]) <;> (try simp only [decide_eq_true_eq, decide_eq_false_iff_not, Int.ofNat_inj, Bool.not_eq_true', Bool.not_eq_false', Int.not_lt, Int.not_le] at hg) <;> (try (exfalso; omega)) <;> (try (exact absurd hg (by decide))))) | refine o_load (h := ?_) | refine o_at (h := ?_) | refine o_field (h := ?_) | refine o_nil (h := ?_) | refine o_pick (h := ?_) | refine o_not (h := ?_) | refine o_len (h := ?_) | refine o_lenS (h := ?_) | refine o_ixS (h := ?_) | refine o_mkS1 (h := ?_) | refine o_mkS (h := ?_) | refine o_buildS0 (h := ?_) | refine o_buildS (h := ?_) | refine o_app (h := ?_) | refine o_appN (h := ?_) | refine o_app0 (h := ?_) | refine o_slHi (h := ?_) | refine o_slLo (h := ?_) | refine o_slLH (h := ?_) | refine o_mkF (h := ?_) | refine o_store (h := ?_) | refine o_box (h := ?_) | refine o_alloc (h := ?_) | refine o_ix (h := ?_) | refine o_convS (h := ?_) | refine o_conv (h := ?_) | refine o_fconv (h := ?_) | refine o_fofInt (h := ?_) | refine o_bits32 (h := ?_) | refine o_bits64 (h := ?_) | refine o_integral (h := ?_) | refine o_fneg (h := ?_) | refine o_extract (h := ?_) | refine o_build (h := ?_) ) <;> exact AOs.nil rfl)))))
    (hn : AQW P ops (memF M tls) n l K ((d, v) :: t)) :
    AQW P ops (memF M tls) n (⟨some d, op, ty, pos, af, none⟩ :: l) K t := by
  subst hks
  have hw : wantA ops (⟨some d, op, ty, pos, af, none⟩ : Oper) t = some true := rfl
  unfold AQW
  simp only [hw]
  refine ⟨hd, v, fun S g1 g2 g3 => ?_, hn⟩
  exact obT.at (f := fun mb ma => AOs P ops [⟨some d, op, ty, pos, af, none⟩] (fun s' => s' = ⟨n, (d, v) :: keepL _ t, M ++ ma⟩) ⟨n, keepL _ t, M ++ mb⟩) g1 g2 g3 hk hob
theorem wf_stepN {ks : List Nat} {kss : List (List Kn)} (hk : tls.map (fun tl => tl.2.map fun x => knW ops x.1 (ops.length - (l.length + 1))) = kss := by repeat' (first | exact kns_nil | exact kn_nil | refine kns_cons (ks := ?_) (kss := ?_) ?_ ?_ | refine kn_cons (k := ?_) (ks := ?_) ?_ ?_ | (first | (refine (?_ : _ = Kn.yes); decide +kernel) | (refine (?_ : _ = Kn.free); decide +kernel) | (refine (?_ : _ = Kn.no); decide +kernel) | (refine (?_ : _ = Kn.self); decide +kernel))))
    (hks : looksO ops ⟨none, op, ty, pos, af, none⟩ = ks := by rfl)
    (hob : obT kss tls fun mb ma => AOs P ops [⟨none, op, ty, pos, af, none⟩] (fun s' => s' = ⟨n, keepL ks t, M ++ ma⟩) ⟨n, keepL ks t, M ++ mb⟩ := by (simp only [obT, obC, noFirst]; repeat' (first | exact True.intro | exact rfl | refine And.intro ?_ ?_ | (((refine d_AOs (h := ?_) ; first | refine o_move (h := ?_) | refine o_assign (h := ?_) | refine AOs.nil (h := ?_) | (refine d_bin (h := ?_) ; first | refine o_eqNil (h := ?_) | refine o_addS (h := ?_) | refine o_add (h := ?_) | refine o_lss (h := ?_) | refine o_eqi (h := ?_) | refine o_eqB (h := ?_) | refine o_neB (h := ?_) | refine o_nei (h := ?_) | refine o_leq (h := ?_) | refine o_gtr (h := ?_) | refine o_geq (h := ?_) | refine o_subS (h := ?_) | refine o_sub (h := ?_) | refine o_mulS (h := ?_) | refine o_mul (h := ?_) | refine o_remS (h := ?_) | refine o_rem (h := ?_) | refine o_quo (h := ?_) | refine o_shl (h := ?_) | refine o_shr (h := ?_) | refine o_bits (h := ?_) | refine o_fisnan (h := ?_) | refine o_fne (h := ?_) | refine o_feq (h := ?_) | refine o_flt (h := ?_) | refine o_fle (h := ?_) | refine o_fgt (h := ?_) | refine o_fge (h := ?_) | refine o_fadd (h := ?_) | refine o_fsub (h := ?_) | refine o_fmul (h := ?_) | refine o_fdiv (h := ?_) ) | (refine d_grd (h := ?_) ; first | refine g_yes (h := ?_) | refine g_no (h := ?_) | refine g_undef (h := ?_) | (refine g_true (h1 := (fun hg => ?_)) (h0 := (fun hg => ?_)) <;> (try rw [hg]) <;> (try simp only [decide_eq_true_eq, decide_eq_false_iff_not, Int.ofNat_inj, Bool.not_eq_true', Bool.not_eq_false', Int.not_lt, Int.not_le] at hg) <;> (try (exfalso; omega)) <;> (try (exact absurd hg (by decide)))) | (refine g_false (h1 := (fun hg => ?_)) (h0 := (fun hg => ?_)) <;> (try rw [hg]) <;> (try simp only [decide_eq_true_eq, decide_eq_false_iff_not, Int.ofNat_inj, Bool.not_eq_true', Bool.not_eq_false', Int.not_lt, Int.not_le] at hg) <;> (try (exfalso; omega)) <;> (try (exact absurd hg (by decide))))) | refine o_load (h := ?_) | refine o_at (h := ?_) | refine o_field (h := ?_) | refine o_nil (h := ?_) | refine o_pick (h := ?_) | refine o_not (h := ?_) | refine o_len (h := ?_) | refine o_lenS (h := ?_) | refine o_ixS (h := ?_) | refine o_mkS1 (h := ?_) | refine o_mkS (h := ?_) | refine o_buildS0 (h := ?_) | refine o_buildS (h := ?_) | refine o_app (h := ?_) | refine o_appN (h := ?_) | refine o_app0 (h := ?_) | refine o_slHi (h := ?_) | refine o_slLo (h := ?_) | refine o_slLH (h := ?_) | refine o_mkF (h := ?_) | refine o_store (h := ?_) | refine o_box (h := ?_) | refine o_alloc (h := ?_) | refine o_ix (h := ?_) | refine o_convS (h := ?_) | refine o_conv (h := ?_) | refine o_fconv (h := ?_) | refine o_fofInt (h := ?_) | refine o_bits32 (h := ?_) | refine o_bits64 (h := ?_) | refine o_integral (h := ?_) | refine o_fneg (h := ?_) | refine o_extract (h := ?_) | refine o_build (h := ?_) ) <;> exact AOs.nil rfl)))))
    (hn : AQW P ops (memF M tls) n l K t) :
    AQW P ops (memF M tls) n (⟨none, op, ty, pos, af, none⟩ :: l) K t := by
  subst hks
  have hw : wantA ops (⟨none, op, ty, pos, af, none⟩ : Oper) t = some true := rfl
  unfold AQW
  simp only [hw]
  refine ⟨rfl, dead, fun S g1 g2 g3 => ?_, hn⟩
  exact obT.at (f := fun mb ma => AOs P ops [⟨none, op, ty, pos, af, none⟩] (fun s' => s' = ⟨n, keepL _ t, M ++ ma⟩) ⟨n, keepL _ t, M ++ mb⟩) g1 g2 g3 hk hob
end
section
variable {P : Program} {ops : List Oper} {n : Nat} {t : Env} {M m N : Mem} {d ty : Nat} {pos : String} {af : Array Edge} {op : Op} {B : Blk}
/-- The new block in a place that was kept. -/
theorem AOs.fillAt (mk : Nat → Value) (hmk : OneRef mk) (hfl : ∀ c ∈ B.cells, Flat c) (i : Nat) (hd : Nat.blt d n = true) (hi : m[i]? = some gone) (hN : m.set i B = N)
    (h : AOs P ops [⟨some d, op, ty, pos, af, none⟩] (fun s' => s' = ⟨n, (d, mk m.length) :: t, m ++ [B]⟩) ⟨n, t, m⟩) :
    AOs P ops [⟨some d, op, ty, pos, af, none⟩] (fun s' => s' = ⟨n, (d, mk i) :: t, N⟩) ⟨n, t, m⟩ := by
  subst hN
  have hil := (List.getElem?_eq_some_iff.1 hi).1
  refine AOs.place (fun j => if j = i then m.length else j) hfl hd (fun x j hx hj hij => ?_) (fun j b' hj => ?_) (fun j b hj => ?_) ?_ h
  · rw [List.length_set] at hx hj
    split at hij <;> split at hij <;> omega
  · rw [List.getElem?_set] at hj
    by_cases e : i = j
    · rw [if_pos e, if_pos hil] at hj
      cases hj
      exact .inr (.inr ⟨if_pos e.symm, rfl⟩)
    · rw [if_neg e] at hj
      exact .inr (.inl ⟨if_neg fun h => e h.symm, hj⟩)
  · by_cases e : j = i
    · subst e
      rw [hi] at hj; cases hj; exact .inl rfl
    · exact .inr ⟨by rw [List.length_set]; exact (List.getElem?_eq_some_iff.1 hj).1, if_neg e⟩
  · have h1 := hmk (m.set i B).length (fun j => if j = i then m.length else j) i (by rw [List.length_set]; exact hil)
    rw [if_pos rfl] at h1
    exact h1
/-- The same, told from the list behind M. -/
theorem AOs.fillF (mk : Nat → Value) (hmk : OneRef mk) (i : Nat) (hd : Nat.blt d n = true) (hi : m[i]? = some gone) (hN : m.set i ((N[i]?).getD gone) = N) (hfl : ∀ c ∈ ((N[i]?).getD gone).cells, Flat c)
    (h : AOs P ops [⟨some d, op, ty, pos, af, none⟩] (fun s' => s' = ⟨n, (d, mk (M.length + m.length)) :: t, M ++ (m ++ [(N[i]?).getD gone])⟩) ⟨n, t, M ++ m⟩) :
    AOs P ops [⟨some d, op, ty, pos, af, none⟩] (fun s' => s' = ⟨n, (d, mk (M.length + i)) :: t, M ++ N⟩) ⟨n, t, M ++ m⟩ := by
  generalize (N[i]?).getD gone = B at *
  subst hN
  refine AOs.fillAt mk hmk hfl (M.length + i) hd ?_ ?_ (by rw [List.length_append, List.append_assoc]; exact h)
  · rw [List.getElem?_append_right (by omega), Nat.add_sub_cancel_left]; exact hi
  · rw [List.set_append_right _ _ (by omega), Nat.add_sub_cancel_left]
end
end Go.Proofs.YtgdpcomemkimhaaGreatDoor

/- Texts of plans: the walks. -/
namespace Go.Proofs.YtgdpcomemkimhaaGreatDoor
open Go.RowKit
attribute [local irreducible] AW AOs AO AQ AQW thenA inBlockA postA ACalls Pure
set_option linter.unusedSimpArgs false
set_option linter.unusedVariables false
set_option linter.unusedSectionVars false

section
variable (a : Option Addr) (n cp : Nat) (b o : Int) (G : Nat → Nat → Bool) (T : Nat → Int)
/-- Joined words. -/
abbrev wdB (W : List (List UInt8)) (tg : Option Nat) : Blk := ⟨tab W.length fun q => strV (W.getD q []), tg, true⟩
theorem iJoinW (W : List (List UInt8)) (sep : List UInt8) (j cp2 : Nat) (tg : Option Nat) (M : Mem) (hb : M[j]? = some (wdB W tg)) (hcap : W.length ≤ cp2) (hn : W.length ≤ 1000000) (hlen : (Lib.join W sep).length ≤ 1000000) :
    Pure Tryz.prog 58 [.slice (some ⟨j, 0, tg⟩) W.length cp2, strV sep] M (strV (Lib.join W sep)) := by
  have e1 : (W.map fun l => (⟨l.toArray⟩ : ByteArray)).map (·.data.toList) = W := by
    rw [List.map_map]
    refine (List.map_congr_left fun l _ => ?_).trans (List.map_id W)
    simp
  have e2 : (W.map fun l => (⟨l.toArray⟩ : ByteArray)).length = W.length := by simp
  have h := iJoin (W.map fun l => (⟨l.toArray⟩ : ByteArray)) ⟨sep.toArray⟩ j cp2 tg true M (by
    have et : (tab W.length fun q => strV (W.getD q [])) = tab W.length fun q => Value.string ((W.map fun l => (⟨l.toArray⟩ : ByteArray)).getD q ByteArray.empty) := tab_congr fun q hq => by
      rw [List.getD_eq_getElem?_getD, List.getD_eq_getElem?_getD, List.getElem?_map, List.getElem?_eq_getElem hq]; rfl
    rw [hb]
    unfold wordsB
    rw [e2]
    show some (⟨tab W.length (fun q => strV (W.getD q [])), tg, true⟩ : Blk) = _
    rw [et]) (by rw [e2]; exact hcap) (by rw [e2]; omega) (by rw [e1]; show (Lib.join W sep).length ≤ _; omega)
  unfold joinB at h
  rw [e1, e2] at h
  exact h
theorem wd_flat (W : List (List UInt8)) (tg : Option Nat) : ∀ c ∈ (wdB W tg).cells, Flat c := flat_tabs fun i => Flat.string _
end
end Go.Proofs.YtgdpcomemkimhaaGreatDoor

/- Texts of junctions: the words, and the text of the reference. -/
namespace Go.Proofs.YtgdpcomemkimhaaGreatDoor
open Go.RowKit
attribute [local irreducible] AW AOs AO AQ AQW thenA inBlockA postA ACalls Pure
set_option linter.unusedSimpArgs false
set_option linter.unusedVariables false
set_option linter.unusedSectionVars false

/-! ### Plain -/
/-! ### The reference's text -/
section
variable (n o : Nat) (h : Nat → Nat)
end
end Go.Proofs.YtgdpcomemkimhaaGreatDoor

/- Memory with blocks of plain values. -/
namespace Go.Proofs.YtgdpcomemkimhaaGreatDoor
open Go.RowKit
attribute [local irreducible] AW AOs AO AQ AQW thenA inBlockA postA ACalls Pure
set_option linter.unusedSimpArgs false
set_option linter.unusedVariables false
set_option linter.unusedSectionVars false

theorem next_TT {M T G : Mem} {m : Mem} (h : m = M ++ (T ++ G)) : m = (M ++ T) ++ G := by rw [h, List.append_assoc]
end Go.Proofs.YtgdpcomemkimhaaGreatDoor

/- Junctions that are valid: the program's check. -/
namespace Go.Proofs.YtgdpcomemkimhaaGreatDoor
open Go.RowKit
attribute [local irreducible] AW AOs AO AQ AQW thenA inBlockA postA ACalls Pure
set_option linter.unusedSimpArgs false
set_option linter.unusedVariables false
set_option linter.unusedSectionVars false

section
variable (ins outs : Int) (h : Nat → Nat)
end
end Go.Proofs.YtgdpcomemkimhaaGreatDoor

/- Texts of junctions: the program's. -/
namespace Go.Proofs.YtgdpcomemkimhaaGreatDoor
open Go.RowKit
attribute [local irreducible] AW AOs AO AQ AQW thenA inBlockA postA ACalls Pure
set_option linter.unusedSimpArgs false
set_option linter.unusedVariables false
set_option linter.unusedSectionVars false

theorem wd_snoc1 (W : List (List UInt8)) (x : List UInt8) : (⟨(tab W.length fun q => strV (W.getD q [])) ++ ([strV x] : List Value), some (W.length + 1), true⟩ : Blk) = wdB (W ++ [x]) (some (W ++ [x]).length) := by
  have h1 := tabL_snoc strV [] W x
  have e : (W ++ [x]).length = W.length + 1 := by simp
  unfold wdB
  rw [h1, e]
section
variable {n o : Nat} {h : Nat → Nat} {db dn : List UInt8} {M : Mem}
theorem closed4 (hM : Closed M.length M) {b1 b2 b3 b4 : Blk} (h1 : ∀ x ∈ b1.cells, Flat x) (h2 : ∀ x ∈ b2.cells, Flat x) (h3 : ∀ x ∈ b3.cells, Flat x) (h4 : ∀ x ∈ b4.cells, Flat x) : Closed (M ++ [b1, b2, b3, b4]).length (M ++ [b1, b2, b3, b4]) := by
  refine Closed.append (hM.mono (by simp)) fun x hx y hy => Bel.flat ?_
  simp only [List.mem_cons, List.not_mem_nil, or_false] at hx
  rcases hx with rfl | rfl | rfl | rfl
  all_goals first | exact h1 y hy | exact h2 y hy | exact h3 y hy | exact h4 y hy
end
section
variable (n o : Nat) (h : Nat → Nat)
end
end Go.Proofs.YtgdpcomemkimhaaGreatDoor
