/- Plans that are drawn. -/
import Derived.Test.YtaickofjjomdmaaDr2
import Derived.Test.YtaickofjjomdmaaOc
import Derived.Test.YtaickofjjomdmaaPl2
namespace Go.Proofs.Ytaickofjjomdmaa
open Go.RowKit
attribute [local irreducible] AW AOs AO AQ AQW thenA inBlockA postA ACalls Pure
set_option linter.unusedSimpArgs false

section
variable {P : Program} {ops l : List Oper} {K : St → Prop} {n : Nat} {t : Env} {m : Mem} {d ty : Nat} {pos : String} {af : Array Edge}
theorem o_callMV {f : FuncId} [hf : FnT P f] {xs : List Operand} {ats : Array TypeId} {args : List Value} {v v' : Value} {M1 m' : Mem} (hargs : xs.map (evalA t) = args := by first | (simp only [List.map_cons, List.map_nil, evalA, look, cond_true, cond_false, Nat.reduceBEq, constOk, constOk1]; done) | (simp only [List.map_cons, List.map_nil, evalA, look, cond_true, cond_false, Nat.reduceBEq, constOk, constOk1]; rfl) | rfl) (hc : Mut P f args m v M1) (hv : v = v') (hm : M1 = m') (hd : Nat.blt d n = true := by rfl)
    (h : AOs P ops l K ⟨n, (d, v') :: t, m'⟩) :
    AOs P ops (⟨some d, .call { callee := .value (.func f), args := xs.toArray, argTypes := ats }, ty, pos, af, none⟩ :: l) K ⟨n, t, m⟩ :=
  o_callR hargs hc hd fun _ _ ⟨h1, h2⟩ => by subst h1; subst h2; rw [hm, hv]; exact h
end
section
variable (a : Option Addr) (n cp : Nat) (cd : Nat → Int)
def dS (s : DS) : Nat → DS
  | 0 => s
  | i + 1 => pkS n cd (phS n cd (dS s i) 8) 6
theorem dS_at (s : DS) : ∀ i, (dS n cd s i).1 ≤ s.1 + 9 * i
  | 0 => Nat.le_refl _
  | i + 1 => by
    have h1 := dS_at s i
    have h2 := phS_at n cd (dS n cd s i) 8
    have h3 := pkS_at n cd (phS n cd (dS n cd s i) 8) 6
    show (pkS n cd (phS n cd (dS n cd s i) 8) 6).1 ≤ _
    omega
def dG (s : DS) (i q : Nat) : Bool := phV n cd (dS n cd s i) q
def dT (s : DS) (i : Nat) : Int := 1 + pkV n cd (phS n cd (dS n cd s i) 8) 6
theorem dT_bd (s : DS) (i : Nat) : 1 ≤ dT n cd s i ∧ dT n cd s i ≤ 6 := by
  have := pkV_bd (n := n) (cd := cd) (phS n cd (dS n cd s i) 8) (m := 6) (by omega)
  unfold dT; omega
def dB (s : DS) : Int := pkV n cd s 3
def dN (s : DS) : Nat := (1 + pkV n cd (pkS n cd s 3) 4).toNat
def dE (s : DS) : DS := pkS n cd (pkS n cd s 3) 4
def dC (s : DS) : Int := sumP (dT n cd (dE n cd s)) (dB n cd s) (dN n cd s)
def dO (s : DS) : Int := pkV n cd (dS n cd (dE n cd s) (dN n cd s)) (dC n cd s)
theorem sum_bd {T : Nat → Int} {b : Int} (hT : ∀ i, 1 ≤ T i ∧ T i ≤ 6) (hb : 0 ≤ b ∧ b ≤ 2) : ∀ k : Nat, (k : Int) ≤ sumP T b k ∧ sumP T b k ≤ 8 * (k : Int)
  | 0 => by simp [sumP]
  | k + 1 => by
    have h1 := sum_bd hT hb k
    have h2 := hT k
    show ((k + 1 : Nat) : Int) ≤ sumP T b k + (T k + b) ∧ sumP T b k + (T k + b) ≤ 8 * ((k + 1 : Nat) : Int)
    omega
theorem d_bd (s : DS) : (0 ≤ dB n cd s ∧ dB n cd s ≤ 2) ∧ (1 ≤ dN n cd s ∧ dN n cd s ≤ 4) ∧ (1 ≤ dC n cd s ∧ dC n cd s ≤ 32) ∧ (0 ≤ dO n cd s ∧ dO n cd s < dC n cd s) := by
  have h1 := pkV_bd (n := n) (cd := cd) s (m := 3) (by omega)
  have h2 := pkV_bd (n := n) (cd := cd) (pkS n cd s 3) (m := 4) (by omega)
  have hB : 0 ≤ dB n cd s ∧ dB n cd s ≤ 2 := by unfold dB; omega
  have hN : 1 ≤ dN n cd s ∧ dN n cd s ≤ 4 := by unfold dN; omega
  have h3 := sum_bd (T := dT n cd (dE n cd s)) (fun i => dT_bd n cd _ i) hB (dN n cd s)
  have hC : 1 ≤ dC n cd s ∧ dC n cd s ≤ 32 := by unfold dC; omega
  exact ⟨hB, hN, hC, pkV_bd (n := n) (cd := cd) _ hC.1⟩
theorem d_plan (s : DS) : planP (dN n cd s) (dT n cd (dE n cd s)) (dB n cd s) (dO n cd s) := by
  obtain ⟨h1, h2, h3, h4⟩ := d_bd n cd s
  refine planP_iff.2 ⟨?_, fun i _ => ?_, ?_, ?_, ?_⟩
  · omega
  · have := dT_bd n cd (dE n cd s) i
    omega
  · omega
  · have : sumP (dT n cd (dE n cd s)) (dB n cd s) (dN n cd s) = dC n cd s := rfl
    omega
  · have : sumP (dT n cd (dE n cd s)) (dB n cd s) (dN n cd s) = dC n cd s := rfl
    omega
abbrev dRow (s : DS) (q : Nat) : List Value := tab 8 (fun i => .bool (dG n cd s q i)) ++ ([.int .i64 (dT n cd s q)] : List Value)
theorem dRow_len (s : DS) (q : Nat) : (dRow n cd s q).length = 9 := by simp [dRow, tab_len]
theorem flat_dRow (s : DS) (q : Nat) : ∀ c ∈ dRow n cd s q, Flat c := (by repeat' (first | exact Flat.bool _ | exact Flat.int _ _ | exact Flat.float _ _ | exact Flat.string _ | exact flat_nil | exact flat_tabL (fun _ => Flat.bool _) | exact flat_tabL (fun _ => Flat.int _ _) | exact flat_tabL (fun _ => Flat.float _ _) | refine flat_tuple ?_ | refine flat_agg ?_ | refine flat_cons ?_ ?_ | refine flat_append ?_ ?_))
end
end Go.Proofs.Ytaickofjjomdmaa
