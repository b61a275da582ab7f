/- Memory with blocks of plain values. -/
import Derived.Test.YtafakhhcgbkfoaaDoorRw
import Derived.Test.YtafakhhcgbkfoaaDoorMu
namespace Go.Proofs.YtafakhhcgbkfoaaDoor
open Go.RowKit
attribute [local irreducible] AW AOs AO AQ AQW thenA inBlockA postA ACalls Pure
set_option linter.unusedSimpArgs false
set_option linter.unusedVariables false
set_option linter.unusedSectionVars false

theorem next_TT {M T G : Mem} {m : Mem} (h : m = M ++ (T ++ G)) : m = (M ++ T) ++ G := by rw [h, List.append_assoc]
theorem tab_snoc2 {n : Nat} {f : Nat → Value} : tab (n + 1) f = tab n f ++ [f n] := by simp [tab, List.range_succ]
theorem flat_rd {c : Nat → Nat} {p b l : Nat} : ∀ x ∈ (rdB c p b l).cells, Flat x := (by repeat' (first | exact Flat.nilSlice _ _ | exact Flat.bool _ | exact Flat.int _ _ | exact Flat.float _ _ | exact Flat.string _ | exact flat_nil | exact flat_tabL (fun _ => Flat.bool _) | exact flat_tabL (fun _ => Flat.int _ _) | exact flat_tabL (fun _ => Flat.float _ _) | refine flat_tuple ?_ | refine flat_agg ?_ | refine flat_cons ?_ ?_ | refine flat_append ?_ ?_))
theorem flat_tb {n : Nat} {f : Nat → Nat} {tg : Option Nat} : ∀ x ∈ (⟨tab n fun q => .float .f32 (f q), tg, true⟩ : Blk).cells, Flat x := (by repeat' (first | exact Flat.nilSlice _ _ | exact Flat.bool _ | exact Flat.int _ _ | exact Flat.float _ _ | exact Flat.string _ | exact flat_nil | exact flat_tabL (fun _ => Flat.bool _) | exact flat_tabL (fun _ => Flat.int _ _) | exact flat_tabL (fun _ => Flat.float _ _) | refine flat_tuple ?_ | refine flat_agg ?_ | refine flat_cons ?_ ?_ | refine flat_append ?_ ?_))
theorem flat_pr {x y : Nat} : ∀ v ∈ (⟨[.float .f32 x, .float .f32 y], none, true⟩ : Blk).cells, Flat v := (by repeat' (first | exact Flat.nilSlice _ _ | exact Flat.bool _ | exact Flat.int _ _ | exact Flat.float _ _ | exact Flat.string _ | exact flat_nil | exact flat_tabL (fun _ => Flat.bool _) | exact flat_tabL (fun _ => Flat.int _ _) | exact flat_tabL (fun _ => Flat.float _ _) | refine flat_tuple ?_ | refine flat_agg ?_ | refine flat_cons ?_ ?_ | refine flat_append ?_ ?_))
theorem closed1 {M : Mem} (hM : Closed M.length M) {b1 : Blk} (h1 : ∀ x ∈ b1.cells, Flat x) : Closed (M ++ [b1]).length (M ++ [b1]) := by
  refine Closed.append (hM.mono (by simp)) fun x hx y hy => Bel.flat ?_
  simp only [List.mem_cons, List.not_mem_nil, or_false] at hx
  rcases hx with rfl
  exact h1 y hy
theorem closed2 {M : Mem} (hM : Closed M.length M) {b1 b2 : Blk} (h1 : ∀ x ∈ b1.cells, Flat x) (h2 : ∀ x ∈ b2.cells, Flat x) : Closed (M ++ [b1, b2]).length (M ++ [b1, b2]) := by
  refine Closed.append (hM.mono (by simp)) fun x hx y hy => Bel.flat ?_
  simp only [List.mem_cons, List.not_mem_nil, or_false] at hx
  rcases hx with rfl | rfl
  all_goals first | exact h1 y hy | exact h2 y hy
theorem closed3 {M : Mem} (hM : Closed M.length M) {b1 b2 b3 : Blk} (h1 : ∀ x ∈ b1.cells, Flat x) (h2 : ∀ x ∈ b2.cells, Flat x) (h3 : ∀ x ∈ b3.cells, Flat x) : Closed (M ++ [b1, b2, b3]).length (M ++ [b1, b2, b3]) := by
  refine Closed.append (hM.mono (by simp)) fun x hx y hy => Bel.flat ?_
  simp only [List.mem_cons, List.not_mem_nil, or_false] at hx
  rcases hx with rfl | rfl | rfl
  all_goals first | exact h1 y hy | exact h2 y hy | exact h3 y hy
end Go.Proofs.YtafakhhcgbkfoaaDoor
