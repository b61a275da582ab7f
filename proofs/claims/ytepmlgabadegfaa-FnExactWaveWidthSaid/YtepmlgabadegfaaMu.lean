/- Calls that change their caller's memory; results of a slice and more. -/
import Derived.Test.YtepmlgabadegfaaOpW
namespace Go.Proofs.Ytepmlgabadegfaa
open Go.RowKit
set_option linter.unusedSimpArgs false
set_option linter.unusedVariables false

/-- A call that gives v and leaves the memory M1. -/
def Mut (P : Program) (f : FuncId) (args : List Value) (M : Mem) (v : Value) (M1 : Mem) : Prop := ACalls P f args M fun x M' => x = v ∧ M' = M1

section
variable {P : Program}
theorem Mut.of {f : FuncId} {args : List Value} {M M1 : Mem} {v : Value} (hl : M.length ≤ M1.length) (hb : Flat v) (hc : Closed M.length M → Closed M1.length M1) (h : ACalls P f args M fun x M' => x = v ∧ ∃ T, M' = M1 ++ T) : Mut P f args M v M1 := by
  intro B0 w0 r w cargs hs hv
  refine (h B0 w0 r w cargs hs hv).mono fun e w' ⟨d, x, M', r', h1, ⟨hx, T, hM⟩, he, hs', hd⟩ => ?_
  subst hx; subst hM
  refine ⟨d, x, M1, cutR M1.length r', h1, ⟨rfl, rfl⟩, fun j t c hr => ?_, hs'.cutTo (hc hs.closed), hd.flat hb⟩
  unfold cutR
  rw [if_pos (Nat.lt_of_lt_of_le (hs.dom_lt j t c hr) hl)]
  exact he j t c hr
theorem Closed.set {M : Mem} {b : Nat} {B : Blk} (h : Closed M.length M) (hf : ∀ c ∈ B.cells, Flat c) : Closed (M.set b B).length (M.set b B) := by
  rw [List.length_set]
  intro x hx c hc
  rcases List.mem_or_eq_of_mem_set hx with hx | rfl
  · exact h x hx c hc
  · exact Bel.flat (hf c hc)
theorem mut_of {f : FuncId} {fn : Func} {c : Code} {args : List Value} {M M1 : Mem} {v : Value} {k : Nat} (hf : P.funcs[f]? = some fn) (hk : fn.ntmps = k) (hb : fn.body = some c) (hn : Nat.ble args.length k = true) (hl : M.length ≤ M1.length) (hfl : Flat v) (hc : Closed M.length M → Closed M1.length M1)
    (h : AW P c (postA P fn fun x M' => x = v ∧ ∃ T, M' = M1 ++ T) ⟨k, envOf 0 args, M⟩) : Mut P f args M v M1 := by
  subst hk
  exact Mut.of hl hfl hc (ACalls.enter hf hb (Nat.le_of_ble_eq_true hn) h)
theorem Pure.mut {f : FuncId} {args : List Value} {M : Mem} {v : Value} (h : Pure P f args M v) : Mut P f args M v M := h

section
variable {ops l : List Oper} {K : St → Prop} {n : Nat} {t : Env} {m : Mem} {d ty : Nat} {pos : String} {af : Array Edge}
theorem o_callM {f : FuncId} [hf : FnT P f] {xs : List Operand} {ats : Array TypeId} {args : List Value} {v : Value} {M1 m' : Mem} (hargs : xs.map (evalA t) = args := by first | (simp only [List.map_cons, List.map_nil, evalA, look, cond_true, cond_false, Nat.reduceBEq, constOk, constOk1]; done) | (simp only [List.map_cons, List.map_nil, evalA, look, cond_true, cond_false, Nat.reduceBEq, constOk, constOk1]; rfl) | rfl) (hc : Mut P f args m v M1) (hm : M1 = m' := by first | exact set_head1 (by assumption) | exact List.set_set .. | exact set_head0 (by assumption) | (simp only [set_tail, set_tail0, set_tailS, set_tailS0, List.set_cons_zero, List.set_cons_succ, cellsA, List.length_cons, List.length_nil, Nat.reduceAdd]; first | done | rfl) | rfl) (hd : Nat.blt d n = true := by rfl)
    (h : AOs P ops l K ⟨n, (d, v) :: t, m'⟩) :
    AOs P ops (⟨some d, .call { callee := .value (.func f), args := xs.toArray, argTypes := ats }, ty, pos, af, none⟩ :: l) K ⟨n, t, m⟩ :=
  o_callR hargs hc hd fun _ _ ⟨h1, h2⟩ => by subst h1; subst h2; rw [hm]; exact h
end

section
variable {ops l : List Oper} {K : St → Prop} {n : Nat} {t : Env} {m : Mem} {d ty : Nat} {pos : String} {af : Array Edge}
/-- A slice of one element. -/
theorem o_buildS1 {st k b e : Nat} [ha : SlT P st k b e] {z : Value} [hz : TyZ P e z] {x : Operand} {v : Value} {us : List Value} {m' : Mem} {j : Nat} (hx : evalA t x = v := by (conv => (lhs; whnf)); first | done | rfl) (hus : cellsA v = us := by rfl)
    (hk : (cellsA z).length = k := by first | rfl | (simp only [cellsA, tab_len, List.length_cons, List.length_nil, List.length_append]; done)) (hul : us.length = k := by first | rfl | (simp only [cellsA, tab_len, List.length_cons, List.length_nil, List.length_append]; done)) (hw : whole v = true := by first | exact whole_tab (fun _ => rfl) | exact whole_tabR (fun _ => rfl) rfl | rfl | simp [whole, tab_one, one]) (hlk : k ≤ 16777216 := by omega)
    (hm : m ++ [⟨us, none, true⟩] = m' := by first | (simp only [List.append_assoc, cellsA, List.cons_append, List.nil_append]; rfl) | rfl) (hj : m.length = j := by first | (simp only [List.length_append, List.length_set, List.length_cons, List.length_nil, Nat.reduceAdd, Nat.zero_add]; first | done | rfl) | rfl) (hd : Nat.blt d n = true := by rfl)
    (h : AOs P ops l K ⟨n, (d, .slice (some ⟨j, 0, none⟩) 1 1) :: t, m'⟩) : AOs P ops (⟨some d, .buildSlice st 1 ([(0, x)] : List (Nat × Operand)).toArray, ty, pos, af, none⟩ :: l) K ⟨n, t, m⟩ :=
  o_buildS (xs := [(0, x)]) (vs := [(0, v)]) (zs := rows 1 fun _ => cellsA z) (cs := us) hk (by omega) (by simp [hx]) rfl (by
    have e1 : (List.range 1).map (fun q => (q * k, k)) = [(0, k)] := by simp [List.range_succ]
    have e2 : rows 1 (fun _ => cellsA z) = cellsA z := by simp [rows, List.range_succ]
    rw [e1, e2]
    show (if (cellsA v).length = k ∧ 0 + k ≤ (cellsA z).length ∧ whole v = true then some ((cellsA z).take 0 ++ cellsA v ++ (cellsA z).drop (0 + k)) else none) = some us
    rw [if_pos ⟨by rw [hus]; exact hul, by omega, hw⟩, hus, List.take_zero, List.drop_eq_nil_of_le (by omega), List.nil_append, List.append_nil]) hm hj hd h
end

section
variable {fn : Func} {n : Nat} {t : Env} {m M G : Mem}
/-- One new block, and the slice of it, with a flat value beside. -/
theorem p_allocT {k k2 j q ln cp : Nat} {tg : Option Nat} {b : Blk} {y : Value} (hr : fn.results = #[.tmp k, .tmp k2]) (hv : look t k = .slice (some ⟨j, 0, tg⟩) ln cp) (hv2 : look t k2 = y) (hy : Flat y) (hj : j = M.length + q) (hm : m = M ++ G) (hq : G[q]? = some b) (hfl : ∀ c ∈ b.cells, Flat c) :
    postA P fn (RelA M [q] (.tuple [.slice (some ⟨M.length, 0, tg⟩) ln cp, y].toArray) [b]) .ret ⟨n, t, m⟩ := by
  subst hm hj
  refine ⟨.tuple [.slice (some ⟨M.length + q, 0, tg⟩) ln cp, y].toArray, ?_, G, rfl, ?_, fun i b' hb => ?_⟩
  · exact resN (P := P) (s := ⟨n, t, M ++ G⟩) (xs := [.tmp k, .tmp k2]) (vs := [.slice (some ⟨M.length + q, 0, tg⟩) ln cp, y]) hr rfl (by simp) fun i x v hx hv' => by
      match i, hx, hv' with
      | 0, hx, hv' => cases hx; cases hv'; exact r_tmp hv
      | 1, hx, hv' => cases hx; cases hv'; exact r_tmp hv2
  · refine RenV.tuple rfl fun i x y' hx hy' => ?_
    match i, hx, hy' with
    | 0, hx, hy' =>
      cases hx; cases hy'
      have := RenV.sl (L := M.length + 1) (j := M.length) (o := 0) (n := ln) (m := cp) (tg := tg) (s := placeOf M.length [q]) (by omega)
      have e : placeOf M.length [q] M.length = M.length + q := by unfold placeOf; simp
      rw [e] at this
      exact this
    | 1, hx, hy' => cases hx; cases hy'; exact RenV.flat hy
  · cases i with
    | zero => simp at hb; subst hb; exact ⟨b, by simpa using hq, RenB.flat hfl⟩
    | succ i => simp at hb
end
end

/-! ### Lists in memory -/
theorem rowsL_snoc {α : Type} (F : α → List Value) (d : α) (l : List α) (n : α) : rows (l ++ [n]).length (fun q => F ((l ++ [n]).getD q d)) = rows l.length (fun q => F (l.getD q d)) ++ F n := by
  rw [List.length_append, List.length_singleton, rows_succ]
  congr 1
  · refine rows_congr fun q hq => ?_
    rw [List.getD_eq_getElem?_getD, List.getElem?_append_left hq, ← List.getD_eq_getElem?_getD]
  · rw [List.getD_eq_getElem?_getD, List.getElem?_append_right (Nat.le_refl _), Nat.sub_self]; rfl
theorem tabL_snoc {α : Type} (F : α → Value) (d : α) (l : List α) (n : α) : tab (l ++ [n]).length (fun q => F ((l ++ [n]).getD q d)) = tab l.length (fun q => F (l.getD q d)) ++ [F n] := by
  have := rowsL_snoc (fun x => [F x]) d l n
  rwa [rows_tab, rows_tab] at this
end Go.Proofs.Ytepmlgabadegfaa
