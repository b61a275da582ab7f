/- Open regions of which any number of operations change memory, one behind the other. No program in sight. -/
import Derived.Test.YtddmclkijheicaaDoorMu
namespace Go.Proofs.YtddmclkijheicaaDoor
open Go.RowKit
set_option linter.unusedSimpArgs false
set_option linter.unusedVariables false

def memC : List (Nat × Mem) → Mem → (Nat → Bool) → Mem
  | [], m0, _ => m0
  | (p, m) :: ps, m0, S => bif S p then memC ps m S else m0
def headNo : List Kn → Prop
  | [] => True
  | k :: _ => k = .no
/-- What is asked of an operation that stands so to those that change memory. -/
def obK : List Kn → List (Nat × Mem) → Mem → (Mem → Mem → Prop) → Prop
  | k :: ks, (_, m) :: ps, m0, f => match k with
    | .yes => obK ks ps m f
    | .no => f m0 m0
    | .free => f m0 m0 ∧ obK ks ps m f
    | .self => headNo ks ∧ f m0 m
  | [], [], m0, f => f m0 m0
  | _, _, _, _ => False
theorem obK.at {ops : List Oper} {i : Nat} {S : Nat → Bool} (h1 : ∀ q, q ∈ (pres ops).getD i [] → S q = true) (h2 : ∀ q, i ∈ (pres ops).getD q [] → S q = false) (h3 : S i = false) :
    ∀ {ps : List (Nat × Mem)} {ks : List Kn} {m0 : Mem} {f : Mem → Mem → Prop}, ps.map (fun x => knW ops x.1 i) = ks → obK ks ps m0 f → f (memC ps m0 S) (memC ps m0 (withI S i))
  | [], ks, m0, f, hk, h => by
    subst hk; exact h
  | (p, m) :: ps, ks, m0, f, hk, h => by
    subst hk
    simp only [List.map_cons, obK] at h
    simp only [memC]
    cases hkn : knW ops p i with
    | yes =>
      rw [hkn] at h
      obtain ⟨ha, hb⟩ := ObK.at (ops := ops) (p := p) (i := i) (S := S) (f := fun b => b = true) (by rw [hkn]; exact rfl) h1 h2 h3
      rw [hkn] at hb
      rw [hb, ha]
      exact obK.at h1 h2 h3 rfl h
    | no =>
      rw [hkn] at h
      obtain ⟨ha, hb⟩ := ObK.at (ops := ops) (p := p) (i := i) (S := S) (f := fun b => b = false) (by rw [hkn]; exact rfl) h1 h2 h3
      rw [hkn] at hb
      rw [hb, ha]
      exact h
    | free =>
      rw [hkn] at h
      obtain ⟨ha, hb⟩ := ObK.at (ops := ops) (p := p) (i := i) (S := S) (f := fun _ => True) (by rw [hkn]; exact ⟨trivial, trivial⟩) h1 h2 h3
      rw [hkn] at hb
      rw [hb]
      show f (bif S p then _ else _) (bif S p then _ else _)
      cases S p
      · exact h.1
      · exact obK.at h1 h2 h3 rfl h.2
    | self =>
      rw [hkn] at h
      obtain ⟨ha, hb⟩ := ObK.at (ops := ops) (p := p) (i := i) (S := S) (f := fun b => b = false) (by rw [hkn]; exact rfl) h1 h2 h3
      rw [hkn] at hb
      rw [hb, ha]
      have hm : memC ps m (withI S i) = m := by
        cases ps with
        | nil => rfl
        | cons x ps =>
          have hno : knW ops x.1 i = .no := h.1
          obtain ⟨hc, hd⟩ := ObK.at (ops := ops) (p := x.1) (i := i) (S := S) (f := fun b => b = false) (by rw [hno]; exact rfl) h1 h2 h3
          rw [hno] at hd
          show (bif withI S i x.1 then _ else m) = m
          rw [hd]
          show (bif S x.1 then _ else m) = m
          rw [hc]; rfl
      show f m0 (memC ps m (withI S i))
      rw [hm]
      exact h.2
section
variable {P : Program} {ops l : List Oper} {K : St → Prop} {n : Nat} {t : Env} {m0 m1 m2 m3 m4 m5 : Mem} {d ty : Nat} {pos : String} {af : Array Edge} {op : Op} {p1 p2 p3 p4 p5 : Nat}
theorem AW.openWC [hm : MixT P] {id : Nat} {Q : Exit → St → Prop} (m0' : Mem) (p1 p2 p3 p4 p5 : Nat) (m1 m2 m3 m4 m5 : Mem) (he : m0 = m0' := by rfl) (hp : Nat.blt p1 l.length = true := by rfl) (hd : drawOk l = true := by kernel_rfl)
    (h : AQW P l (memC [(p1, m1), (p2, m2), (p3, m3), (p4, m4), (p5, m5)] m0) n l (Q .normal) t) : AW P (.region id l.toArray true) Q ⟨n, t, m0⟩ :=
  AW.drawW (memC [(p1, m1), (p2, m2), (p3, m3), (p4, m4), (p5, m5)] m0) (by simp only [memC, hp]; rfl) hm.out hd h
theorem wc_nil (h : K ⟨n, t, m5⟩) : AQW P ops (memC [(p1, m1), (p2, m2), (p3, m3), (p4, m4), (p5, m5)] m0) n [] K t := h
theorem wc_step {v : Value} {ks : List Nat} {k1 k2 k3 k4 k5 : Kn} (h1 : knW ops p1 (ops.length - (l.length + 1)) = k1 := by first | (refine (?_ : _ = Kn.yes); decide +kernel) | (refine (?_ : _ = Kn.free); decide +kernel) | (refine (?_ : _ = Kn.no); decide +kernel) | (refine (?_ : _ = Kn.self); decide +kernel)) (h2 : knW ops p2 (ops.length - (l.length + 1)) = k2 := by first | (refine (?_ : _ = Kn.yes); decide +kernel) | (refine (?_ : _ = Kn.free); decide +kernel) | (refine (?_ : _ = Kn.no); decide +kernel) | (refine (?_ : _ = Kn.self); decide +kernel)) (h3 : knW ops p3 (ops.length - (l.length + 1)) = k3 := by first | (refine (?_ : _ = Kn.yes); decide +kernel) | (refine (?_ : _ = Kn.free); decide +kernel) | (refine (?_ : _ = Kn.no); decide +kernel) | (refine (?_ : _ = Kn.self); decide +kernel)) (h4 : knW ops p4 (ops.length - (l.length + 1)) = k4 := by first | (refine (?_ : _ = Kn.yes); decide +kernel) | (refine (?_ : _ = Kn.free); decide +kernel) | (refine (?_ : _ = Kn.no); decide +kernel) | (refine (?_ : _ = Kn.self); decide +kernel)) (h5 : knW ops p5 (ops.length - (l.length + 1)) = k5 := by first | (refine (?_ : _ = Kn.yes); decide +kernel) | (refine (?_ : _ = Kn.free); decide +kernel) | (refine (?_ : _ = Kn.no); decide +kernel) | (refine (?_ : _ = Kn.self); decide +kernel))
    (hks : looksO ops ⟨some d, op, ty, pos, af, none⟩ = ks := by rfl) (hd : Nat.blt d n = true := by rfl)
    (hob : obK [k1, k2, k3, k4, k5] [(p1, m1), (p2, m2), (p3, m3), (p4, m4), (p5, m5)] m0 fun mb ma => AOs P ops [⟨some d, op, ty, pos, af, none⟩] (fun s' => s' = ⟨n, (d, v) :: keepL ks t, ma⟩) ⟨n, keepL ks t, mb⟩ := by (simp only [obK, headNo]; repeat' (first | exact True.intro | exact rfl | refine And.intro ?_ ?_ | (((refine d_AOs (h := ?_) ; first | refine o_move (h := ?_) | refine o_assign (h := ?_) | refine AOs.nil (h := ?_) | (refine d_bin (h := ?_) ; first | refine o_eqNil (h := ?_) | refine o_addS (h := ?_) | refine o_add (h := ?_) | refine o_lss (h := ?_) | refine o_eqi (h := ?_) | refine o_eqB (h := ?_) | refine o_neB (h := ?_) | refine o_nei (h := ?_) | refine o_leq (h := ?_) | refine o_gtr (h := ?_) | refine o_geq (h := ?_) | refine o_subS (h := ?_) | refine o_sub (h := ?_) | refine o_mulS (h := ?_) | refine o_mul (h := ?_) | refine o_remS (h := ?_) | refine o_rem (h := ?_) | refine o_quo (h := ?_) | refine o_shl (h := ?_) | refine o_shr (h := ?_) | refine o_bits (h := ?_) | refine o_fisnan (h := ?_) | refine o_fne (h := ?_) | refine o_feq (h := ?_) | refine o_flt (h := ?_) | refine o_fle (h := ?_) | refine o_fgt (h := ?_) | refine o_fge (h := ?_) | refine o_fadd (h := ?_) | refine o_fsub (h := ?_) | refine o_fmul (h := ?_) | refine o_fdiv (h := ?_) ) | (refine d_grd (h := ?_) ; first | refine g_yes (h := ?_) | refine g_no (h := ?_) | refine g_undef (h := ?_) | (refine g_true (h1 := (fun hg => ?_)) (h0 := (fun hg => ?_)) <;> (try rw [hg]) <;> (try simp only [decide_eq_true_eq, decide_eq_false_iff_not, Int.ofNat_inj, Bool.not_eq_true', Bool.not_eq_false', Int.not_lt, Int.not_le] at hg) <;> (try (exfalso; omega)) <;> (try (exact absurd hg (by decide)))) | (refine g_false (h1 := (fun hg => ?_)) (h0 := (fun hg => ?_)) <;> (try rw [hg]) <;> (try simp only [decide_eq_true_eq, decide_eq_false_iff_not, Int.ofNat_inj, Bool.not_eq_true', Bool.not_eq_false', Int.not_lt, Int.not_le] at hg) <;> (try (exfalso; omega)) <;> (try (exact absurd hg (by decide))))) | refine o_load (h := ?_) | refine o_at (h := ?_) | refine o_field (h := ?_) | refine o_nil (h := ?_) | refine o_pick (h := ?_) | refine o_not (h := ?_) | refine o_len (h := ?_) | refine o_lenS (h := ?_) | refine o_ixS (h := ?_) | refine o_mkS1 (h := ?_) | refine o_mkS (h := ?_) | refine o_buildS0 (h := ?_) | refine o_buildS (h := ?_) | refine o_app (h := ?_) | refine o_appN (h := ?_) | refine o_app0 (h := ?_) | refine o_slHi (h := ?_) | refine o_slLo (h := ?_) | refine o_slLH (h := ?_) | refine o_mkF (h := ?_) | refine o_store (h := ?_) | refine o_box (h := ?_) | refine o_alloc (h := ?_) | refine o_ix (h := ?_) | refine o_convS (h := ?_) | refine o_conv (h := ?_) | refine o_fconv (h := ?_) | refine o_fofInt (h := ?_) | refine o_bits32 (h := ?_) | refine o_bits64 (h := ?_) | refine o_integral (h := ?_) | refine o_fneg (h := ?_) | refine o_extract (h := ?_) | refine o_build (h := ?_) ) <;> exact AOs.nil rfl)))))
    (hn : AQW P ops (memC [(p1, m1), (p2, m2), (p3, m3), (p4, m4), (p5, m5)] m0) n l K ((d, v) :: t)) :
    AQW P ops (memC [(p1, m1), (p2, m2), (p3, m3), (p4, m4), (p5, m5)] m0) n (⟨some d, op, ty, pos, af, none⟩ :: l) K t := by
  subst hks
  have hw : wantA ops (⟨some d, op, ty, pos, af, none⟩ : Oper) t = some true := rfl
  unfold AQW
  simp only [hw]
  refine ⟨hd, v, fun S g1 g2 g3 => ?_, hn⟩
  exact obK.at (f := fun mb ma => AOs P ops [⟨some d, op, ty, pos, af, none⟩] (fun s' => s' = ⟨n, (d, v) :: keepL _ t, ma⟩) ⟨n, keepL _ t, mb⟩) g1 g2 g3 (by simp only [List.map_cons, List.map_nil, h1, h2, h3, h4, h5]) hob
theorem wc_stepN {ks : List Nat} {k1 k2 k3 k4 k5 : Kn} (h1 : knW ops p1 (ops.length - (l.length + 1)) = k1 := by first | (refine (?_ : _ = Kn.yes); decide +kernel) | (refine (?_ : _ = Kn.free); decide +kernel) | (refine (?_ : _ = Kn.no); decide +kernel) | (refine (?_ : _ = Kn.self); decide +kernel)) (h2 : knW ops p2 (ops.length - (l.length + 1)) = k2 := by first | (refine (?_ : _ = Kn.yes); decide +kernel) | (refine (?_ : _ = Kn.free); decide +kernel) | (refine (?_ : _ = Kn.no); decide +kernel) | (refine (?_ : _ = Kn.self); decide +kernel)) (h3 : knW ops p3 (ops.length - (l.length + 1)) = k3 := by first | (refine (?_ : _ = Kn.yes); decide +kernel) | (refine (?_ : _ = Kn.free); decide +kernel) | (refine (?_ : _ = Kn.no); decide +kernel) | (refine (?_ : _ = Kn.self); decide +kernel)) (h4 : knW ops p4 (ops.length - (l.length + 1)) = k4 := by first | (refine (?_ : _ = Kn.yes); decide +kernel) | (refine (?_ : _ = Kn.free); decide +kernel) | (refine (?_ : _ = Kn.no); decide +kernel) | (refine (?_ : _ = Kn.self); decide +kernel)) (h5 : knW ops p5 (ops.length - (l.length + 1)) = k5 := by first | (refine (?_ : _ = Kn.yes); decide +kernel) | (refine (?_ : _ = Kn.free); decide +kernel) | (refine (?_ : _ = Kn.no); decide +kernel) | (refine (?_ : _ = Kn.self); decide +kernel))
    (hks : looksO ops ⟨none, op, ty, pos, af, none⟩ = ks := by rfl)
    (hob : obK [k1, k2, k3, k4, k5] [(p1, m1), (p2, m2), (p3, m3), (p4, m4), (p5, m5)] m0 fun mb ma => AOs P ops [⟨none, op, ty, pos, af, none⟩] (fun s' => s' = ⟨n, keepL ks t, ma⟩) ⟨n, keepL ks t, mb⟩ := by (simp only [obK, headNo]; repeat' (first | exact True.intro | exact rfl | refine And.intro ?_ ?_ | (((refine d_AOs (h := ?_) ; first | refine o_move (h := ?_) | refine o_assign (h := ?_) | refine AOs.nil (h := ?_) | (refine d_bin (h := ?_) ; first | refine o_eqNil (h := ?_) | refine o_addS (h := ?_) | refine o_add (h := ?_) | refine o_lss (h := ?_) | refine o_eqi (h := ?_) | refine o_eqB (h := ?_) | refine o_neB (h := ?_) | refine o_nei (h := ?_) | refine o_leq (h := ?_) | refine o_gtr (h := ?_) | refine o_geq (h := ?_) | refine o_subS (h := ?_) | refine o_sub (h := ?_) | refine o_mulS (h := ?_) | refine o_mul (h := ?_) | refine o_remS (h := ?_) | refine o_rem (h := ?_) | refine o_quo (h := ?_) | refine o_shl (h := ?_) | refine o_shr (h := ?_) | refine o_bits (h := ?_) | refine o_fisnan (h := ?_) | refine o_fne (h := ?_) | refine o_feq (h := ?_) | refine o_flt (h := ?_) | refine o_fle (h := ?_) | refine o_fgt (h := ?_) | refine o_fge (h := ?_) | refine o_fadd (h := ?_) | refine o_fsub (h := ?_) | refine o_fmul (h := ?_) | refine o_fdiv (h := ?_) ) | (refine d_grd (h := ?_) ; first | refine g_yes (h := ?_) | refine g_no (h := ?_) | refine g_undef (h := ?_) | (refine g_true (h1 := (fun hg => ?_)) (h0 := (fun hg => ?_)) <;> (try rw [hg]) <;> (try simp only [decide_eq_true_eq, decide_eq_false_iff_not, Int.ofNat_inj, Bool.not_eq_true', Bool.not_eq_false', Int.not_lt, Int.not_le] at hg) <;> (try (exfalso; omega)) <;> (try (exact absurd hg (by decide)))) | (refine g_false (h1 := (fun hg => ?_)) (h0 := (fun hg => ?_)) <;> (try rw [hg]) <;> (try simp only [decide_eq_true_eq, decide_eq_false_iff_not, Int.ofNat_inj, Bool.not_eq_true', Bool.not_eq_false', Int.not_lt, Int.not_le] at hg) <;> (try (exfalso; omega)) <;> (try (exact absurd hg (by decide))))) | refine o_load (h := ?_) | refine o_at (h := ?_) | refine o_field (h := ?_) | refine o_nil (h := ?_) | refine o_pick (h := ?_) | refine o_not (h := ?_) | refine o_len (h := ?_) | refine o_lenS (h := ?_) | refine o_ixS (h := ?_) | refine o_mkS1 (h := ?_) | refine o_mkS (h := ?_) | refine o_buildS0 (h := ?_) | refine o_buildS (h := ?_) | refine o_app (h := ?_) | refine o_appN (h := ?_) | refine o_app0 (h := ?_) | refine o_slHi (h := ?_) | refine o_slLo (h := ?_) | refine o_slLH (h := ?_) | refine o_mkF (h := ?_) | refine o_store (h := ?_) | refine o_box (h := ?_) | refine o_alloc (h := ?_) | refine o_ix (h := ?_) | refine o_convS (h := ?_) | refine o_conv (h := ?_) | refine o_fconv (h := ?_) | refine o_fofInt (h := ?_) | refine o_bits32 (h := ?_) | refine o_bits64 (h := ?_) | refine o_integral (h := ?_) | refine o_fneg (h := ?_) | refine o_extract (h := ?_) | refine o_build (h := ?_) ) <;> exact AOs.nil rfl)))))
    (hn : AQW P ops (memC [(p1, m1), (p2, m2), (p3, m3), (p4, m4), (p5, m5)] m0) n l K t) :
    AQW P ops (memC [(p1, m1), (p2, m2), (p3, m3), (p4, m4), (p5, m5)] m0) n (⟨none, op, ty, pos, af, none⟩ :: l) K t := by
  subst hks
  have hw : wantA ops (⟨none, op, ty, pos, af, none⟩ : Oper) t = some true := rfl
  unfold AQW
  simp only [hw]
  refine ⟨rfl, dead, fun S g1 g2 g3 => ?_, hn⟩
  exact obK.at (f := fun mb ma => AOs P ops [⟨none, op, ty, pos, af, none⟩] (fun s' => s' = ⟨n, keepL _ t, ma⟩) ⟨n, keepL _ t, mb⟩) g1 g2 g3 (by simp only [List.map_cons, List.map_nil, h1, h2, h3, h4, h5]) hob
end

/-! ### A block changed, and new ones -/
/-- What a walk must end with: the memory M1, and new blocks T. -/
def RelM (M1 : Mem) (ks : List Nat) (v : Value) (T : Mem) : Value → Mem → Prop := fun x M' => ∃ G, M' = M1 ++ G ∧ RenV (M1.length + T.length) (placeOf M1.length ks) v x ∧
  ∀ i b', T[i]? = some b' → ∃ b, G[ks.getD i 0]? = some b ∧ RenB (M1.length + T.length) (placeOf M1.length ks) b' b
theorem mutA_of {P : Program} {f : FuncId} {fn : Func} {c : Code} {args : List Value} {M M1 : Mem} {v : Value} {k : Nat} {T : Mem} (ks : List Nat) (hf : P.funcs[f]? = some fn) (hk : fn.ntmps = k) (hb : fn.body = some c) (hn : Nat.ble args.length k = true)
    (hkl : ks.length = T.length) (hnd : ∀ i, i < ks.length → ∀ j, j < ks.length → ks.getD i 0 = ks.getD j 0 → i = j) (hl : M1.length = M.length) (hcl : Closed M.length M → Closed M1.length M1)
    (h : AW P c (postA P fn (RelM M1 ks v T)) ⟨k, envOf 0 args, M⟩) : Mut P f args M v (M1 ++ T) := by
  subst hk
  have hc := ACalls.enter (R := RelM M1 ks v T) hf hb (Nat.le_of_ble_eq_true hn) h
  intro B0 w0 r w cargs hs hv
  refine (hc B0 w0 r w cargs hs hv).mono fun e w' ⟨d, x, M', r', h1, ⟨G, hM, hx, hT⟩, he, hs', hd⟩ => ?_
  subst hM
  have hcl' := hcl hs.closed
  have hlen : (M1 ++ T).length = M1.length + T.length := by simp
  have hold : ∀ j, j < M1.length → placeOf M1.length ks j = j := fun j hj => by unfold placeOf; rw [if_pos hj]
  refine ⟨d, v, M1 ++ T, fun j t => if j < (M1 ++ T).length then r' (placeOf M1.length ks j) t else none, h1, ⟨rfl, rfl⟩, fun j t c hc => ?_, hs'.ren (placeOf M1.length ks) (fun i j hi hj hij => ?_) (fun j b' hj => ?_), ?_⟩
  · have hj := hs.dom_lt j t c hc
    show (if j < (M1 ++ T).length then r' (placeOf M1.length ks j) t else none) = some c
    rw [if_pos (by omega), hold j (by omega)]; exact he j t c hc
  · unfold placeOf at hij
    rw [hlen] at hi hj
    split at hij <;> split at hij
    · exact hij
    · omega
    · omega
    · have e1 : ks.getD (i - M1.length) 0 = ks.getD (j - M1.length) 0 := by omega
      have hi' : i - M1.length < ks.length := by omega
      have hj' : j - M1.length < ks.length := by omega
      have := hnd _ hi' _ hj' e1
      omega
  · by_cases hjm : j < M1.length
    · rw [List.getElem?_append_left hjm] at hj
      refine .inr ⟨b', by rw [hold j hjm, List.getElem?_append_left hjm]; exact hj, rfl, rfl, rfl, fun i x y hx hy => ?_⟩
      rw [hx] at hy; cases hy
      exact RenV.bel hold (by omega) (hcl' b' (List.mem_of_getElem? hj) x (List.mem_of_getElem? hx))
    · rw [List.getElem?_append_right (by omega)] at hj
      obtain ⟨b, hb1, hb2⟩ := hT _ b' hj
      refine .inr ⟨b, ?_, by rw [hlen]; exact hb2⟩
      unfold placeOf
      rw [if_neg hjm, List.getElem?_append_right (by omega), Nat.add_sub_cancel_left]
      exact hb1
  · rw [hlen]; exact hx r' d hd
/-- One new block, in a struct whose first field is the slice of it; an old block changed. -/
theorem p_mutC {P : Program} {fn : Func} {n : Nat} {t : Env} {m M1 G : Mem} {p jp o ty q ln cp j : Nat} {tg : Option Nat} {bp b : Blk} {k : TK} [hk : TyK P ty k] {fl : List Value} (hr : fn.results = #[.cell p ty]) (hp : look t p = .pointer (some ⟨jp, o, none⟩)) (hbp : m[jp]? = some bp) (htg : bp.tag = none)
    (hv : ldA k o bp.cells = some (.agg (.slice (some ⟨j, 0, tg⟩) ln cp :: fl).toArray)) (hj : j = M1.length + q) (hm : m = M1 ++ G) (hq : G[q]? = some b) (hfl : ∀ c ∈ b.cells, Flat c) (hfl2 : ∀ c ∈ fl, Flat c) :
    postA P fn (RelM M1 [q] (.agg (.slice (some ⟨M1.length, 0, tg⟩) ln cp :: fl).toArray) [b]) .ret ⟨n, t, m⟩ := by
  have h := OneRef.agg (o := 0) (n := ln) (m := cp) (tg := tg) hfl2 (M1.length + 1) (placeOf M1.length [q]) M1.length (by omega)
  have e : placeOf M1.length [q] M1.length = M1.length + q := by unfold placeOf; simp
  rw [e] at h
  subst hj
  refine ⟨.agg (.slice (some ⟨M1.length + q, 0, tg⟩) ln cp :: fl).toArray, ?_, G, hm, h, fun i b' hb => ?_⟩
  · exact res1 hr (r_cell hp hbp htg hv)
  · cases i with
    | zero => simp at hb; subst hb; exact ⟨b, by simpa using hq, RenB.flat hfl⟩
    | succ i => simp at hb
end Go.Proofs.YtddmclkijheicaaDoor
