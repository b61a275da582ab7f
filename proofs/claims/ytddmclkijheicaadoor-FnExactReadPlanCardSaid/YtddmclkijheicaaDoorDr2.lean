/- What is drawn: movements, a phase, a number. -/
import Derived.Test.YtddmclkijheicaaDoorDr
namespace Go.Proofs.YtddmclkijheicaaDoor
open Go.RowKit
attribute [local irreducible] AW AOs AO AQ AQW thenA inBlockA postA ACalls Pure
set_option linter.unusedSimpArgs false
set_option linter.unusedVariables false
set_option linter.unusedSectionVars false

theorem ACalls.belC {P : Program} {f : FuncId} {args : List Value} {M : Mem} {R : Value → Mem → Prop} (h : Closed M.length M → (∀ x ∈ args, ∀ c ∈ cellsA x, Bel M.length c) → ACalls P f args M R) : ACalls P f args M R := by
  unfold ACalls at h ⊢
  intro B0 w0 r w cargs hs hv
  refine h hs.closed (fun x hx c hc => ?_) B0 w0 r w cargs hs hv
  obtain ⟨i, hi⟩ := List.getElem?_of_mem hx
  have hil : i < cargs.length := by rw [← hv.1]; exact (List.getElem?_eq_some_iff.1 hi).1
  have hxy := hv.2 i x cargs[i] hi (by simp)
  by_cases ha : ∃ cs, x = .agg cs
  · obtain ⟨cs, rfl⟩ := ha
    obtain ⟨ys, _, hy⟩ := hxy.agg_inv
    obtain ⟨q, hq⟩ := List.getElem?_of_mem (show c ∈ cs.toList from hc)
    have hql : q < ys.length := by rw [← hy.1]; exact (List.getElem?_eq_some_iff.1 hq).1
    exact Bel.of_VR hs.dom_lt (hy.2 q c ys[q] hq (by simp))
  · have e : cellsA x = [x] := by cases x <;> first | rfl | (exact (ha ⟨_, rfl⟩).elim)
    rw [e] at hc
    obtain rfl := List.mem_singleton.1 hc
    exact Bel.of_VR hs.dom_lt hxy
/-- One new block, and the pointer to it. -/
theorem p_allocP {P : Program} {fn : Func} {n : Nat} {t : Env} {m M G : Mem} {k j q o : Nat} {tg : Option Nat} {b : Blk} (hr : fn.results = #[.tmp k]) (hv : look t k = .pointer (some ⟨j, o, tg⟩)) (hj : j = M.length + q) (hm : m = M ++ G) (hq : G[q]? = some b) (hfl : ∀ c ∈ b.cells, Bel M.length c) :
    postA P fn (RelA M [q] (.pointer (some ⟨M.length, o, tg⟩)) [b]) .ret ⟨n, t, m⟩ := by
  subst hm hj
  have e : placeOf M.length [q] M.length = M.length + q := by unfold placeOf; simp
  unfold postA
  refine ⟨.pointer (some ⟨M.length + q, o, tg⟩), res1 hr hv, G, rfl, ?_, fun i b' hb => ?_⟩
  · have := RenV.ptr (L := M.length + 1) (j := M.length) (o := o) (tg := tg) (s := placeOf M.length [q]) (by omega)
    rw [e] at this
    exact this
  · cases i with
    | zero =>
      simp at hb; subst hb
      refine ⟨b, by simpa using hq, rfl, rfl, rfl, fun i x y hx hy => ?_⟩
      rw [hx] at hy; cases hy
      exact RenV.bel (L0 := M.length) (fun j hj => by unfold placeOf; rw [if_pos hj]) (by simp) (hfl x (List.mem_of_getElem? hx))
    | succ i => simp at hb
section
variable (a : Option Addr) (n cp : Nat) (cd : Nat → Int)
/-! ### Movements -/
def mvS (s : DS) : Nat → DS
  | 0 => s
  | i + 1 => pkS n cd (pkS n cd (mvS s i) 4) 3
theorem mvS_at (s : DS) : ∀ i, (mvS n cd s i).1 ≤ s.1 + 2 * i
  | 0 => Nat.le_refl _
  | i + 1 => by
    have h1 := mvS_at s i
    have h2 := pkS_at n cd (mvS n cd s i) 4
    have h3 := pkS_at n cd (pkS n cd (mvS n cd s i) 4) 3
    show (pkS n cd (pkS n cd (mvS n cd s i) 4) 3).1 ≤ _
    omega
def mvF (s : DS) (i : Nat) : Int := pkV n cd (mvS n cd s i) 4
def mvG (s : DS) (i : Nat) : Int := (pkV n cd (mvS n cd s i) 4 + 1 + pkV n cd (pkS n cd (mvS n cd s i) 4) 3) % 4
theorem mv_bd (s : DS) (i : Nat) : (0 ≤ mvF n cd s i ∧ mvF n cd s i ≤ 3) ∧ (0 ≤ mvG n cd s i ∧ mvG n cd s i ≤ 3) ∧ mvF n cd s i ≠ mvG n cd s i := by
  have h1 := pkV_bd (n := n) (cd := cd) (mvS n cd s i) (m := 4) (by omega)
  have h2 := pkV_bd (n := n) (cd := cd) (pkS n cd (mvS n cd s i) 4) (m := 3) (by omega)
  unfold mvF mvG
  omega
/-- How many, and where they go; nothing beyond. -/
def mvC (s : DS) : Int := pkV n cd s 9
def mvA (z : Nat → Int) (c : Int) (i : Nat) : Int := if (i : Int) < c then z i else 0
theorem mvA_upd {z : Nat → Int} {i m : Nat} : tab m (fun j => if j = i then .int .i64 (z i) else (fun j => .int .i64 (mvA z i j)) j) = tab m (fun j => .int .i64 (mvA z ((i : Int) + 1) j)) :=
  tab_congr fun j _ => by
    unfold mvA
    by_cases h : j = i
    · subst h; rw [if_pos rfl, if_pos (by omega)]
    · rw [if_neg h]
      by_cases h2 : j < i
      · show Value.int .i64 (if (j : Int) < i then z j else 0) = _
        rw [if_pos (by omega), if_pos (by omega)]
      · show Value.int .i64 (if (j : Int) < i then z j else 0) = _
        rw [if_neg (by omega), if_neg (by omega)]
end
end Go.Proofs.YtddmclkijheicaaDoor
