/- Texts: contracts of Go's library, brought to the clean view. -/
import Derived.Test.YtddmclkijheicaaDoorMu
import Derived.Test.YtddmclkijheicaaDoorB1
import Derived.Test.YtddmclkijheicaaDoorShelf
namespace Go.Proofs.YtddmclkijheicaaDoor
open Go.RowKit
attribute [local irreducible] AW AOs AO AQ AQW thenA inBlockA postA ACalls Pure
set_option linter.unusedSimpArgs false
set_option linter.unusedVariables false
set_option linter.unusedSectionVars false

theorem Sim.far {B0 : Nat} {w0 : World} {r : Ren} {M : Mem} {w w' : World} (hs : Sim B0 w0 r M w) (hb : Below w.heap.size w w') : Sim B0 w0 r M w' := by
  have hsz : B0 ≤ w.heap.size := Nat.le_trans hs.base.1 hs.below.size
  refine ⟨hs.below.trans (hb.mono hsz), hs.base, hs.dom, fun j t c z h => Nat.lt_of_lt_of_le (hs.lt j t c z h) hb.size, fun j b hj => ?_, hs.inj⟩
  rcases hs.blk j b hj with h | ⟨c, z, hr, hok⟩
  · exact .inl h
  · exact .inr ⟨c, z, hr, hok.mono (Ext.refl r) (hb.block c (hs.lt j b.tag c z hr))⟩
theorem Pure.ofFar {P : Program} {f : FuncId} {args : List Value} {M : Mem} {v : Value} (hv : ∀ r, VR r v v)
    (h : ∀ B0 w0 r w (cargs : List Value), Sim B0 w0 r M w → VRs r args cargs → Calls P f cargs.toArray w fun e w' => e = .returned v ∧ Below w.heap.size w w') : Pure P f args M v := by
  unfold Pure ACalls
  exact fun B0 w0 r w cargs hs hc => (h B0 w0 r w cargs hs hc).mono fun e w' ⟨he, hb⟩ => ⟨v, v, M, r, he, ⟨rfl, rfl⟩, Ext.refl r, hs.far hb, hv r⟩
theorem two_args {r : Ren} {x y : Value} {cargs : List Value} (h : VRs r [x, y] cargs) : ∃ a b, cargs = [a, b] ∧ VR r x a ∧ VR r y b := by
  have hl := h.1
  match cargs, hl with
  | [a, b], _ => exact ⟨a, b, rfl, h.2 0 x a rfl rfl, h.2 1 y b rfl rfl⟩
theorem grow_far (w : World) (k : Nat) (os : Array Obj) : Below w.heap.size w (Go.Sort.grow (w.drewN k) os) :=
  ⟨rfl, rfl, rfl, by simp [Go.Sort.grow, World.drewN], fun i hi => by
    show (w.heap ++ os)[i]? = _
    rw [Array.getElem?_append_left hi]⟩
instance : FnT Tryd.prog 39 := FnT.mk' Tryd.func39 (by kernel_rfl) (by kernel_rfl)
instance : FnT Tryd.prog 32 := FnT.mk' Tryd.func32 (by kernel_rfl) (by kernel_rfl)
/-- A number's text. -/
def itoaV (n : Int) : Value := .string ⟨(Lib.itoa n).toArray⟩
theorem iFormatInt (n : Int) (h0 : -9223372036854775808 ≤ n) (h1 : n ≤ 9223372036854775807) (M : Mem) : Pure Tryd.prog 39 [.int .i64 n, .int .i64 10] M (itoaV n) :=
  Pure.ofFar (fun r => .base rfl) fun B0 w0 r w cargs hs hc => by
    obtain ⟨a, b, rfl, ha, hb⟩ := two_args hc
    rw [ha.int_inv, hb.int_inv]
    refine (Tryd.strconv_FormatInt_10 n h0 h1 w (hs.base.2 w hs.below).1).mono ?_
    rintro e w' ⟨rfl, k, os, rfl⟩
    exact ⟨rfl, grow_far w k os⟩
theorem idecimal (n : Int) (h0 : -9223372036854775808 ≤ n) (h1 : n ≤ 9223372036854775807) (M : Mem) : Pure Tryd.prog 26 [.int .i64 n] M (itoaV n) := by
  refine pure_of Tryd.func26 Tryd.ntmps26 rfl rfl (by unfold itoaV; exact Flat.string _) ?_
  have hF := fun M' => iFormatInt n h0 h1 M'
  generalize itoaV n = v at *
  simp only [envOf, Nat.zero_add, Nat.reduceAdd]
  repeat' (first | (refine d_AOs (h := ?_) ; first | refine o_move (h := ?_) | refine o_assign (h := ?_) | refine AOs.nil (h := ?_)  | refine o_call (hc := (hF _)) (h := ?_) | refine o_at (h := ?_) ) | (refine d_AW (h := ?_) ; first | refine AW.seq (h := ?_) | refine AW.region (h := ?_) | (refine AW.cond (ht := (fun hc => ?_)) (hf := (fun hc => ?_)) <;> (try (with_reducible first | exact absurd hc Bool.false_ne_true | exact absurd hc.symm Bool.false_ne_true)) <;> (try simp only [decide_eq_true_eq, decide_eq_false_iff_not, Int.ofNat_inj, Bool.not_eq_true', Bool.not_eq_false', Int.not_lt, Int.not_le] at hc) <;> (try (exfalso; omega)) <;> (try (exact absurd hc (by decide)))) | refine AW.block (h := ?_) | refine AW.ret (h := ?_) | refine AW.skip (h := ?_) | refine AW.exit (h := ?_) ) | (first | refine t_normal ?_ | refine t_ret ?_ | refine t_exit ?_ | refine b_normal ?_ | refine b_exit ?_ | refine b_exit' (by decide) ?_ | refine b_ret ?_) | (refine d_post (h := ?_) ; first | refine p_ret1 rfl (h := ?_) | refine p_end1 rfl (h := ?_) | refine p_cell1 rfl (h := ?_) ))
  all_goals rfl
/-- Words, one after the other, with a text between. -/
def joinB (L : List ByteArray) (sep : ByteArray) : ByteArray := ⟨(Lib.join (L.map (·.data.toList)) sep.data.toList).toArray⟩
abbrev wordsB (L : List ByteArray) (tg : Option Nat) (rw' : Bool) : Blk := ⟨tab L.length fun q => .string (L.getD q ByteArray.empty), tg, rw'⟩
theorem iJoin (L : List ByteArray) (sep : ByteArray) (j cp : Nat) (tg : Option Nat) (rw' : Bool) (M : Mem) (hb : M[j]? = some (wordsB L tg rw')) (hcap : L.length ≤ cp) (hn : L.length ≤ 140737488355328) (hlen : (Lib.join (L.map (·.data.toList)) sep.data.toList).length ≤ 140737488355328) :
    Pure Tryd.prog 32 [.slice (some ⟨j, 0, tg⟩) L.length cp, .string sep] M (.string (joinB L sep)) :=
  Pure.ofFar (fun r => .base rfl) fun B0 w0 r w cargs hs hc => by
    obtain ⟨a, b, rfl, ha, hb'⟩ := two_args hc
    obtain ⟨c, z, m', rfl, hr, hm⟩ := ha.slice_inv
    rw [hb'.string_inv]
    refine (Tryd.strings_Join c _ m' L sep w (fun i x hx => ?_) (hs.lt _ _ _ _ hr) hn ?_ hlen).mono fun e w' h => h
    · have hil := (List.getElem?_eq_some_iff.1 hx).1
      obtain ⟨y, hy, hvr⟩ := hs.cell (i := i) (x := .string x) hb hr (by
        show (tab L.length fun q => Value.string (L.getD q ByteArray.empty))[i]? = _
        rw [tab_get hil, List.getD_eq_getElem?_getD, hx]; rfl)
      rw [hvr.string_inv] at hy
      exact hy
    · rcases hm with ⟨_, e⟩ | ⟨_, e, _⟩ <;> omega
end Go.Proofs.YtddmclkijheicaaDoor
