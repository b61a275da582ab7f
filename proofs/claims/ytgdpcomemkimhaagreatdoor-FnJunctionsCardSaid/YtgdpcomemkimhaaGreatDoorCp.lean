/- Lists of numbers that are read: the program's and the reference's. -/
import Derived.Test.YtgdpcomemkimhaaGreatDoorSv
import Derived.Test.YtgdpcomemkimhaaGreatDoorMd
import Derived.Test.YtgdpcomemkimhaaGreatDoorCc
import Derived.Test.YtgdpcomemkimhaaGreatDoorFa
import Derived.Test.YtgdpcomemkimhaaGreatDoorOf
import Derived.Test.YtgdpcomemkimhaaGreatDoorHl
import Derived.Test.YtgdpcomemkimhaaGreatDoorDr2

namespace Go.Proofs.YtgdpcomemkimhaaGreatDoor
open Go.RowKit
attribute [local irreducible] AW AOs AO AQ AQW thenA inBlockA postA ACalls Pure
set_option linter.unusedSimpArgs false
set_option linter.unusedVariables false
set_option linter.unusedSectionVars false

/-- A list of numbers. -/
abbrev nuL (r : Nat → Nat) (n : Nat) : Blk := ⟨tab n fun q => .float .f32 (r q), some n, true⟩
theorem nuL_snoc (r : Nat → Nat) (n : Nat) : nuL r (n + 1) = ⟨(tab n fun q => Value.float .f32 (r q)) ++ [Value.float .f32 (r n)], some (n + 1), true⟩ := by
  show (⟨tab (n + 1) _, _, _⟩ : Blk) = _
  rw [tab_snoc3]
section
variable (W : List (List UInt8)) (o n cp j : Nat) (tg : Option Nat) (rw' : Bool) (M : Mem) (hn : o + n = W.length) (hl : W.length ≤ 1048577) (hw : ∀ q, (W.getD q []).length ≤ 1048576) (hj : M[j]? = some ⟨tab W.length fun q => strV (W.getD q []), tg, rw'⟩)
include hn hl hw hj
set_option maxHeartbeats 4000000 in
theorem inumbersOf (r : Nat → Nat) (hr : ∀ q, r q = rnV (W.getD (o + q) [])) :
    Alloc Tryz.prog 56 [.slice (some ⟨j, o, tg⟩) n cp] M (.slice (some ⟨M.length, 0, some n⟩) n n) [nuL r n] := by
  refine Alloc.closed fun hM => ?_
  refine alloc_of [0] Tryz.func56 Tryz.ntmps56 rfl rfl rfl (by decide) ?_
  have hjl := (List.getElem?_eq_some_iff.1 hj).1
  simp only [envOf, Nat.zero_add, Nat.reduceAdd]
  repeat' (first | (refine d_AOs (h := ?_) ; first | refine o_move (h := ?_) | refine o_assign (h := ?_) | refine AOs.nil (h := ?_) | refine o_len (h := ?_) | refine o_buildS0 (h := ?_)) | (refine d_AW (h := ?_) ; first | refine AW.seq (h := ?_) | refine AW.region (h := ?_) | refine AW.block (h := ?_)) | (first | refine t_normal ?_))
  refine AW.loopG [3, 9, 10, 11] (fun k st => ∃ i : Nat, i + k = n ∧ st = ⟨26, [(3, .slice (some ⟨M.length, 0, some i⟩) i i), (9, .slice (some ⟨j, o, tg⟩) n cp), (10, .int .i64 (n : Int)), (11, .int .i64 (i : Int))], M ++ [nuL r i]⟩) n ⟨0, by omega, rfl⟩ ?_
  rintro k st ⟨i, hi, rfl⟩
  by_cases hin : i < n
  · have hld2 : ldA .one (o + i) (tab W.length fun q => strV (W.getD q [])) = some (strV (W.getD (o + i) [])) := ld_tab (by omega) rfl
    have hN := fun M' => iReadNumber (W.getD (o + i) []) (Nat.le_trans (hw (o + i)) (by omega)) M'
    rw [← hr] at hN
    have hsn := nuL_snoc r i
    clear hr hw
    generalize W.getD (o + i) [] = w at *
    generalize r i = v at *
    repeat' (first | (refine d_AOs (h := ?_) ; first | refine o_move (h := ?_) | refine o_assign (h := ?_) | refine AOs.nil (h := ?_) | (refine d_bin (h := ?_) ; first | refine o_addS (h := ?_) | refine o_lss (h := ?_)) | refine o_load (hv := hld2) (h := ?_) | refine o_call (hc := (hN _)) (h := ?_) | refine o_buildS (cs := [.float .f32 v]) (hf := by rfl) (h := ?_) | refine o_app (hlc := by rw [tab_len]; omega) (h := ?_) | refine o_ixS (h := ?_) | refine o_extract (h := ?_)) | (refine d_AW (h := ?_) ; first | refine AW.seq (h := ?_) | refine AW.region (h := ?_) | (refine AW.cond (ht := (fun hc => ?_)) (hf := (fun hc => ?_)) <;> (try (with_reducible first | exact absurd hc Bool.false_ne_true | exact absurd hc.symm Bool.false_ne_true)) <;> (try simp only [decide_eq_true_eq, decide_eq_false_iff_not, Int.ofNat_inj, Bool.not_eq_true', Bool.not_eq_false', Int.not_lt, Int.not_le] at hc) <;> (try (exfalso; omega)) <;> (try (exact absurd hc (by decide)))) | refine AW.block (h := ?_) | refine AW.skip (h := ?_)) | (first | refine t_normal ?_ | refine b_normal ?_))
    all_goals first | (exfalso; simp at hc; done) | exact ⟨k - 1, M ++ [nuL r (i + 1)], [⟨[.float .f32 v], none, true⟩], by omega, next_W (T := [nuL r (i + 1)]) (G := [⟨[.float .f32 v], none, true⟩]) (by rw [hsn]; rfl), by simp, closedW hM (by repeat' (first | exact flat_tabL (fun _ => Flat.float _ _))), (by repeat' (first | exact True.intro | refine And.intro ?_ ?_ | exact Bel.flat (Flat.int _ _) | refine Bel.sl ?_ | (first | (simp only [List.length_append, List.length_cons, List.length_nil]; omega)))), i + 1, by omega, rfl⟩
  · obtain rfl : i = n := by omega
    repeat' (first | (refine d_AOs (h := ?_) ; first | refine o_move (h := ?_) | refine o_assign (h := ?_) | refine AOs.nil (h := ?_) | (refine d_bin (h := ?_) ; first | refine o_lss (h := ?_))) | (refine d_AW (h := ?_) ; first | refine AW.seq (h := ?_) | refine AW.region (h := ?_) | (refine AW.cond (ht := (fun hc => ?_)) (hf := (fun hc => ?_)) <;> (try (with_reducible first | exact absurd hc Bool.false_ne_true | exact absurd hc.symm Bool.false_ne_true)) <;> (try simp only [decide_eq_true_eq, decide_eq_false_iff_not, Int.ofNat_inj, Bool.not_eq_true', Bool.not_eq_false', Int.not_lt, Int.not_le] at hc) <;> (try (exfalso; omega)) <;> (try (exact absurd hc (by decide)))) | refine AW.ret (h := ?_) | refine AW.exit (h := ?_)) | (first | refine t_normal ?_ | refine t_exit ?_ | refine b_exit ?_))
    all_goals first | (exfalso; simp at hc; done) | refine p_allocS rfl (by rfl) (by rfl) rfl rfl (by repeat' (first | exact flat_tabL (fun _ => Flat.float _ _)))
end
end Go.Proofs.YtgdpcomemkimhaaGreatDoor

/- Any number that is drawn. -/
namespace Go.Proofs.YtgdpcomemkimhaaGreatDoor
open Go.RowKit
attribute [local irreducible] AW AOs AO AQ AQW thenA inBlockA postA ACalls Pure
set_option linter.unusedSimpArgs false
set_option linter.unusedVariables false
set_option linter.unusedSectionVars false

section
variable {P : Program} {ops l : List Oper} {K : St → Prop} {n : Nat} {t : Env} {m : Mem} {d ty : Nat} {pos : String} {af : Array Edge}
end
instance : ExtT Tryz.prog 143 Extern.MathFloatBits.float64frombits := ExtT.mk' Tryz.func143 (by kernel_rfl) (by kernel_rfl) (by kernel_rfl) (by kernel_rfl)
section
variable (a : Option Addr) (n cp : Nat) (cd : Nat → Int)
end
end Go.Proofs.YtgdpcomemkimhaaGreatDoor

/- Roads that are read from their texts. -/
namespace Go.Proofs.YtgdpcomemkimhaaGreatDoor
open Go.RowKit
attribute [local irreducible] AW AOs AO AQ AQW thenA inBlockA postA ACalls Pure
set_option linter.unusedSimpArgs false
set_option linter.unusedVariables false
set_option linter.unusedSectionVars false

section
variable {P : Program} {ops l : List Oper} {K : St → Prop} {n : Nat} {t : Env} {m : Mem} {d ty : Nat} {pos : String} {af : Array Edge}
end
theorem hexN_blank2 (u d : Nat) : (32 : UInt8) ∉ hexN u d := fun hm => by
  have := hexN_ok d u
  rw [List.all_eq_true] at this
  have := this 32 hm
  exact absurd this (by decide)
theorem rn_hex {x : Nat} (h : FltOk .f32 x) : rnB (hexN x 8) = true ∧ rnV (hexN x 8) = x := by
  have h1 : hvF 0 (hexN x 8) = x := hvF_hexN 8 x h.1
  have h2 : rrB (hexN x 8) = true := by
    unfold rrB
    rw [h1, Bool.and_eq_true, decide_eq_true_eq]
    exact ⟨ok8_iff.2 ⟨hexN_len x 8, hexN_ok 8 x⟩, h.2⟩
  obtain ⟨e, h3⟩ := rn_rr (hexN x 8)
  rw [h2] at e
  exact ⟨e, by rw [(h3 e).1, h1]⟩
section
variable {c : Nat → Nat} {p b l : Nat}
def rtV (c : Nat → Nat) (p b l : Nat) (q : Nat) : Nat := if q = 0 then p else if q = 1 then b else if q = 2 then l else c (q - 3)
variable (hr : RdOk c p b l) (hf : ∀ q, q < 19 → FltOk .f32 (rtV c p b l q))
include hr hf
end
end Go.Proofs.YtgdpcomemkimhaaGreatDoor

/- Plain: a junction that is filled cell by cell. -/
namespace Go.Proofs.YtgdpcomemkimhaaGreatDoor
open Go.RowKit
attribute [local irreducible] AW AOs AO AQ AQW thenA inBlockA postA ACalls Pure
set_option linter.unusedSimpArgs false
set_option linter.unusedVariables false
set_option linter.unusedSectionVars false

/-- The cells of a junction of n ins and o outs, of which i rows and k cells of the next one are read off the list r. -/
def hP (n o : Nat) (r : Nat → Nat) (i k q : Nat) : Nat :=
  if q < 2 then 0
  else if q < 18 then (if (q - 2) % 4 < o ∧ ((q - 2) / 4 < i ∨ ((q - 2) / 4 = i ∧ (q - 2) % 4 < k)) then r ((q - 2) / 4 * o + (q - 2) % 4) else 0)
  else if q - 18 < i then r (n * o + (q - 18)) else 0
section
variable {n o : Nat} {r : Nat → Nat} {i k : Nat}
theorem hP_0 : hP n o r 0 0 = fun _ => 0 := by
  funext q
  unfold hP
  by_cases h1 : q < 2
  · rw [if_pos h1]
  · rw [if_neg h1]
    by_cases h2 : q < 18
    · rw [if_pos h2, if_neg (by omega)]
    · rw [if_neg h2, if_neg (by omega)]
theorem hP_row (hi : i < 4) (ho : o ≤ 4) : (fun q => if q = 18 + i then r (n * o + i) else hP n o r i o q) = hP n o r (i + 1) 0 := by
  funext q
  by_cases e : q = 18 + i
  · subst e
    rw [if_pos rfl]
    unfold hP
    rw [if_neg (by omega), if_neg (by omega), if_pos (by omega), show 18 + i - 18 = i by omega]
  · rw [if_neg e]
    unfold hP
    by_cases h1 : q < 2
    · rw [if_pos h1, if_pos h1]
    · rw [if_neg h1, if_neg h1]
      by_cases h2 : q < 18
      · rw [if_pos h2, if_pos h2]
        by_cases h3 : (q - 2) % 4 < o ∧ ((q - 2) / 4 < i ∨ ((q - 2) / 4 = i ∧ (q - 2) % 4 < o))
        · rw [if_pos h3, if_pos (by omega)]
        · rw [if_neg h3, if_neg (by omega)]
      · rw [if_neg h2, if_neg h2]
        by_cases h3 : q - 18 < i
        · rw [if_pos h3, if_pos (by omega)]
        · rw [if_neg h3, if_neg (by omega)]
theorem hP_copy (hi : i < 4) (ho : o ≤ 4) : (fun q => if 2 + i * 4 ≤ q ∧ q < 2 + i * 4 + o then r (i * o + (q - (2 + i * 4))) else hP n o r i 0 q) = hP n o r i o := by
  funext q
  by_cases e : 2 + i * 4 ≤ q ∧ q < 2 + i * 4 + o
  · rw [if_pos e]
    unfold hP
    have h1 : (q - 2) / 4 = i := by omega
    have h2 : (q - 2) % 4 = q - (2 + i * 4) := by omega
    rw [if_neg (by omega), if_pos (by omega), h1, h2, if_pos (by omega)]
  · rw [if_neg e]
    unfold hP
    by_cases h1 : q < 2
    · rw [if_pos h1, if_pos h1]
    · rw [if_neg h1, if_neg h1]
      by_cases h2 : q < 18
      · rw [if_pos h2, if_pos h2]
        by_cases h3 : (q - 2) % 4 < o ∧ ((q - 2) / 4 < i ∨ ((q - 2) / 4 = i ∧ (q - 2) % 4 < 0))
        · rw [if_pos h3, if_pos (by omega)]
        · rw [if_neg h3, if_neg (by omega)]
      · rw [if_neg h2, if_neg h2]
/-- The numbers of the junction are those of the list. -/
theorem jF_hP (ho : 1 ≤ o ∧ o ≤ 4) (hn : n ≤ 4) {c : Nat} (hc : c < n * o + n) : jF n o (hP n o r n 0) c = r c := by
  have h16 := mul_le16 hn ho.2
  unfold jF
  by_cases h : c < n * o
  · have h1 : c / o < n := Nat.div_lt_of_lt_mul (by rw [Nat.mul_comm]; exact h)
    have h2 : c % o < o := Nat.mod_lt _ (by omega)
    have h3 : c / o * o + c % o = c := Nat.div_add_mod' c o
    rw [if_pos h]
    unfold jA hP
    have e1 : (2 + (c / o * 4 + c % o) - 2) / 4 = c / o := by omega
    have e2 : (2 + (c / o * 4 + c % o) - 2) % 4 = c % o := by omega
    rw [if_neg (by omega), if_pos (by omega), e1, e2, if_pos ⟨h2, .inl h1⟩, h3]
  · rw [if_neg h]
    unfold hP
    rw [if_neg (by omega), if_neg (by omega), if_pos (by omega), show n * o + (18 + (c - n * o) - 18) = c by omega]
theorem jn_H {a b : Int} {h h' : Nat → Nat} (e : h = h') : tab 22 (jnJ a b h) = tab 22 (jnJ a b h') := by rw [e]
theorem jn_st0 {a b x : Int} {h : Nat → Nat} : (tab 22 (jnJ a b h)).take 0 ++ cellsA (.int .i64 x) ++ (tab 22 (jnJ a b h)).drop (0 + (cellsA (.int .i64 x)).length) = tab 22 (jnJ x b h) := rfl
theorem jn_st1 {a b x : Int} {h : Nat → Nat} : (tab 22 (jnJ a b h)).take 1 ++ cellsA (.int .i64 x) ++ (tab 22 (jnJ a b h)).drop (1 + (cellsA (.int .i64 x)).length) = tab 22 (jnJ a x h) := rfl
theorem jn_stQ {a b : Int} {h : Nat → Nat} {x v : Nat} (h2 : 2 ≤ x) (h22 : x < 22) : (tab 22 (jnJ a b h)).take x ++ cellsA (.float .f32 v) ++ (tab 22 (jnJ a b h)).drop (x + (cellsA (.float .f32 v)).length) = tab 22 (jnJ a b fun q => if q = x then v else h q) := by
  rw [← jn_put h2]
  exact st_tab1 h22
end
end Go.Proofs.YtgdpcomemkimhaaGreatDoor

/- The reading of a junction: the reference. -/
namespace Go.Proofs.YtgdpcomemkimhaaGreatDoor
open Go.RowKit
attribute [local irreducible] AW AOs AO AQ AQW thenA inBlockA postA ACalls Pure
set_option linter.unusedSimpArgs false
set_option linter.unusedVariables false
set_option linter.unusedSectionVars false

section
variable {P : Program} {ops l : List Oper} {K : St → Prop} {n : Nat} {t : Env} {m : Mem} {d ty : Nat} {pos : String} {af : Array Edge} {xt yt : TypeId} {x y : Operand} {k : IntKind} {a b c : Int}
theorem o_mulV (he : k.wrap (a * b) = c) (hx : evalA t x = .int k a := by (conv => (lhs; whnf)); first | done | rfl) (hy : evalA t y = .int k b := by (conv => (lhs; whnf)); first | done | rfl) (hd : Nat.blt d n = true := by rfl) (h : AOs P ops l K ⟨n, (d, .int k c) :: t, m⟩) :
    AOs P ops (⟨some d, .binOp .mul xt x y yt, ty, pos, af, none⟩ :: l) K ⟨n, t, m⟩ := o_mul hx hy hd (he ▸ h)
theorem o_addV (he : k.wrap (a + b) = c) (hx : evalA t x = .int k a := by (conv => (lhs; whnf)); first | done | rfl) (hy : evalA t y = .int k b := by (conv => (lhs; whnf)); first | done | rfl) (hd : Nat.blt d n = true := by rfl) (h : AOs P ops l K ⟨n, (d, .int k c) :: t, m⟩) :
    AOs P ops (⟨some d, .binOp .add xt x y yt, ty, pos, af, none⟩ :: l) K ⟨n, t, m⟩ := o_add hx hy hd (he ▸ h)
end
theorem nat_mul64 {a b : Nat} (h : a * b ≤ 1000000) : IntKind.i64.wrap ((a : Int) * (b : Int)) = ((a * b : Nat) : Int) := by
  rw [← Int.natCast_mul]
  exact wrap64_id (by omega)
theorem nat_add64 {a b : Nat} (h : a + b ≤ 1000000000) : IntKind.i64.wrap ((a : Int) + (b : Int)) = ((a + b : Nat) : Int) := by
  rw [← Int.natCast_add]
  exact wrap64_id (by omega)
theorem rj_flat {a b : Int} {h : Nat → Nat} {k : IntKind} {c : Int} : Flat (.tuple [jnV a b h, .int k c].toArray) := flat_tuple (flat_cons (flat_agg jn_flat) (flat_cons (Flat.int _ _) flat_nil))
theorem word_le {s : List UInt8} (hs : s.length ≤ 1048576) (q : Nat) : ((cutW 32 s).getD q []).length ≤ 1048576 := by
  by_cases hq : q < (cutW 32 s).length
  · rw [List.getD_eq_getElem?_getD, List.getElem?_eq_getElem hq]
    exact Nat.le_trans (cutW_mem (List.getElem_mem hq)) hs
  · rw [List.getD_eq_getElem?_getD, List.getElem?_eq_none (by omega)]; simp
theorem o_ldW {W : List (List UInt8)} {k : Nat} (h : k < W.length) : ldA .one k (tab W.length fun q => strV (W.getD q [])) = some (strV (W.getD k [])) := ld_tab h rfl
section
variable (s : List UInt8) (hs : s.length ≤ 1048576)
include hs
end
end Go.Proofs.YtgdpcomemkimhaaGreatDoor

/- copy, max, and slices of one element that can grow. -/
namespace Go.Proofs.YtgdpcomemkimhaaGreatDoor
open Go.RowKit
set_option linter.unusedSimpArgs false
set_option linter.unusedVariables false

section
variable {P : Program} {ops l : List Oper} {K : St → Prop} {n : Nat} {t : Env} {m : Mem} {d ty : Nat} {pos : String} {af : Array Edge}
/-- copy -/
theorem o_copy {st k b e : Nat} [ha : SlT P st k b e] {x y : Operand} {j o ln cp j' o' q cp' : Nat} {tg tg' : Option Nat} {b1 b2 : Blk} {c : Nat} {ys cs : List Value} {m' : Mem}
    (hx : evalA t x = .slice (some ⟨j, o, tg⟩) ln cp := by (conv => (lhs; whnf)); first | done | rfl) (hy : evalA t y = .slice (some ⟨j', o', tg'⟩) q cp' := by (conv => (lhs; whnf)); first | done | rfl)
    (hb : m[j]? = some b1 := by first | (simp only [mem_tail, mem_tail0, List.getElem?_cons_zero, List.getElem?_cons_succ]; first | done | rfl) | exact mem_head (by assumption) | assumption | (simp only [mem_tailS, mem_tailS0, List.getElem?_cons_zero, List.getElem?_cons_succ]; first | done | rfl) | exact mem_set1 (by assumption) | exact mem_set0 (by assumption) | exact mem_setN1 (by assumption) (by assumption) | exact mem_setN (by assumption) (by assumption)) (htg : b1.tag = tg := by rfl) (hrw : b1.rw = true := by rfl) (hb' : m[j']? = some b2 := by first | (simp only [mem_tail, mem_tail0, List.getElem?_cons_zero, List.getElem?_cons_succ]; first | done | rfl) | exact mem_head (by assumption) | assumption | (simp only [mem_tailS, mem_tailS0, List.getElem?_cons_zero, List.getElem?_cons_succ]; first | done | rfl) | exact mem_set1 (by assumption) | exact mem_set0 (by assumption) | exact mem_setN1 (by assumption) (by assumption) | exact mem_setN (by assumption) (by assumption)) (htg' : b2.tag = tg' := by rfl)
    (hcn : Nat.min q ln = c) (hys : (b2.cells.drop o').take (c * k) = ys) (hly : ys.length = c * k) (hone : ys.all one = true) (ho : o + ys.length ≤ b1.cells.length)
    (hcs : b1.cells.take o ++ ys ++ b1.cells.drop (o + ys.length) = cs) (hm : m.set j { b1 with cells := cs } = m' := by first | exact set_head1 (by assumption) | exact List.set_set .. | exact set_head0 (by assumption) | (simp only [set_tail, set_tail0, set_tailS, set_tailS0, List.set_cons_zero, List.set_cons_succ, cellsA, List.length_cons, List.length_nil, Nat.reduceAdd]; first | done | rfl) | rfl) (hd : Nat.blt d n = true := by rfl)
    (h : AOs P ops l K ⟨n, (d, .int .i64 (c : Int)) :: t, m'⟩) : AOs P ops (⟨some d, .call { callee := .builtin .copy, args := #[x, y], argTypes := #[st, st] }, ty, pos, af, none⟩ :: l) K ⟨n, t, m⟩ :=
  AOs.gen (v := .int .i64 (c : Int)) (m' := m') rfl hd (fun B0 w0 r ac w hs => by
    have hx1 := hs.eval x
    have hy1 := hs.eval y
    rw [hx] at hx1
    rw [hy] at hy1
    obtain ⟨hu, inf, hinf, hsz, hbt⟩ := sl_facts (P := P) (st := st)
    obtain ⟨c1, z1, mx, hex, hrx, _⟩ := hx1.slice_inv
    obtain ⟨c2, z2, my, hey, hry, _⟩ := hy1.slice_inv
    simp only at hrx hry
    obtain ⟨us, hus, hvu⟩ := hs.sim.part hb' (by rw [htg']; exact hry) hys
    rw [htg'] at hus
    have hul : us.length = c * k := by rw [← hvu.1, hly]
    have hone' := hvu.ones hone
    subst htg
    obtain ⟨hz0, w', hrun, hs'⟩ := hs.sim.set hb hrw hrx hvu ho hone' P
    rw [hcs, hm] at hs'
    have hzo : zo b1.tag z1 = 0 := hz0
    have hxe : ac.eval x = .slice (some ⟨c1, o, none⟩) ln mx := by simpa [hzo] using hex
    have hey' : ac.eval y = .slice (some ⟨c2, zo tg' z2 + o', none⟩) q my := hey
    have hfy : (Builtin.firstCells inf.size c (.slice (some ⟨c2, zo tg' z2 + o', none⟩) q my)).run P w = .ok us.toArray w :=
      run_firstCells_some w inf.size c _ q my us (by rw [hsz]; exact hul) (fun i v hv => hus i v hv)
    have hcn' : q.min ln = c := hcn
    refine ⟨.int .i64 (c : Int), w', r, ?_, Ext.refl r, hs', VR.int r _ _⟩
    simp [execOp, resolve, invoke, builtin, Builtin.copy_, run_underlying hu, sizeOf, typeInfo, hinf, Builtin.lenOf, hxe, hey', hcn', hfy, hrun, goInt]) h

end
end Go.Proofs.YtgdpcomemkimhaaGreatDoor
