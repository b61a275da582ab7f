/- Numbers as sixteen letters: the reference's and the program's. -/
import Derived.Test.YtafakhhcgbkfoaaDoorTs
import Derived.Test.YtafakhhcgbkfoaaDoorIx
import Derived.Test.YtafakhhcgbkfoaaDoorB3
import Derived.WalkKit
namespace Go.Proofs.YtafakhhcgbkfoaaDoor
open Go.RowKit
attribute [local irreducible] AW AOs AO AQ AQW thenA inBlockA postA ACalls Pure
set_option linter.unusedSimpArgs false
set_option linter.unusedVariables false
set_option linter.unusedSectionVars false

section
variable {P : Program} {ops l : List Oper} {K : St → Prop} {n : Nat} {t : Env} {m : Mem} {d ty : Nat} {pos : String} {af : Array Edge}
theorem push_all (zs : List Int) : ∀ r : ByteArray, zs.foldl (fun r n => r.push (UInt8.ofNat n.toNat)) r = ⟨(r.data.toList ++ zs.map fun z => UInt8.ofNat z.toNat).toArray⟩ := by
  induction zs with
  | nil => intro r; apply ByteArray.ext; simp
  | cons z zs ih =>
    intro r
    rw [List.foldl_cons, ih]
    apply ByteArray.ext
    simp [ByteArray.push]
/-- Some bytes of a block as a string. -/
theorem o_b2s {st dt e : TypeId} {x : Operand} {j o cp k : Nat} {tg : Option Nat} {b : Blk} {g : List Int} {u : List UInt8} (hu : P.underlying st = some (.slice e)) (hud : P.underlying dt = some .string) (hue : P.underlying e = some (.int .u8))
    (hx : evalA t x = .slice (some ⟨j, o, tg⟩) k cp := by (conv => (lhs; whnf)); first | done | rfl) (hk : g.length = k) (hb : m[j]? = some b) (htg : b.tag = tg := by rfl) (hg : ∀ i z, g[i]? = some z → b.cells[o + i]? = some (.int .u8 z)) (hz : (g.map fun z => UInt8.ofNat z.toNat) = u) (hd : Nat.blt d n = true := by rfl) (h : AOs P ops l K ⟨n, (d, strV u) :: t, m⟩) :
    AOs P ops (⟨some d, .convert st dt x, ty, pos, af, none⟩ :: l) K ⟨n, t, m⟩ :=
  AOs.val (v := strV u) rfl hd (fun B0 w0 r a w hs => by
    subst htg
    have hx1 := hs.eval x
    rw [hx] at hx1
    obtain ⟨c, z', m', he, hr, _⟩ := hx1.slice_inv
    refine ⟨strV u, ?_, VR.string r _⟩
    have hl := run_loadCells_list (P := P) w ⟨c, zo b.tag z' + o, none⟩ (g.map (Value.int .u8)) (fun i v hv => by
      rw [List.getElem?_map] at hv
      obtain ⟨q, hq, rfl⟩ := Option.map_eq_some_iff.1 hv
      obtain ⟨y, hy, hvr⟩ := hs.sim.cell (i := o + i) (x := .int .u8 q) hb hr (hg i q hq)
      rw [hvr.int_inv] at hy
      rw [addr_add, Nat.add_assoc]; exact hy)
    rw [List.length_map, hk] at hl
    have hB := run_bytesToString (P := P) w ⟨c, zo b.tag z' + o, none⟩ k m' g hl
    rw [push_all, hz] at hB
    have hC : (convert st dt (.slice (some ⟨c, zo b.tag z' + o, none⟩) k m')).run P w = .ok (strV u) w := by
      unfold convert
      simp only [Sem.run_bind, run_underlying hu, run_underlying hud, run_underlying hue, Result.andThen]
      exact hB
    simp only [execOp, he, Sem.run_bind, hC, Result.andThen]
    rfl) h
end
/-- The sixteen letters. -/
def hxB (x : Nat) : UInt8 := ([48, 49, 50, 51, 52, 53, 54, 55, 56, 57, 97, 98, 99, 100, 101, 102] : List UInt8).getD x 0
abbrev hxZ (x : Nat) : Int := ((hxB x).toNat : Nat)
theorem dig16 : ∀ x, x < 16 → (⟨#[48, 49, 50, 51, 52, 53, 54, 55, 56, 57, 97, 98, 99, 100, 101, 102]⟩ : ByteArray)[x]? = some (hxB x) := by decide
theorem dig36 : ∀ x, x < 16 → (⟨#[48, 49, 50, 51, 52, 53, 54, 55, 56, 57, 97, 98, 99, 100, 101, 102, 103, 104, 105, 106, 107, 108, 109, 110, 111, 112, 113, 114, 115, 116, 117, 118, 119, 120, 121, 122]⟩ : ByteArray)[x]? = some (hxB x) := by decide
/-- What is left of u behind i digits. -/
def hq (u : Nat) : Nat → Nat
  | 0 => u
  | i + 1 => hq u i / 16
theorem hq8 {u : Nat} (h : u < 4294967296) : hq u 8 = 0 := by
  show u / 16 / 16 / 16 / 16 / 16 / 16 / 16 / 16 = 0
  omega
theorem hq_le (u : Nat) : ∀ i j, i ≤ j → hq u j ≤ hq u i
  | i, 0, h => by
    obtain rfl : i = 0 := (by omega)
    exact Nat.le_refl _
  | i, j + 1, h => by
    by_cases e : i = j + 1
    · subst e; exact Nat.le_refl _
    · exact Nat.le_trans (Nat.div_le_self _ _) (hq_le u i j (by omega))
/-- How many digits. -/
theorem hx_dg {u : Nat} (h : u < 4294967296) : ∃ d, (1 ≤ d ∧ d ≤ 8) ∧ (∀ i, i + 1 < d → 16 ≤ hq u i) ∧ hq u (d - 1) < 16 := by
  have h8 := hq8 h
  have key : ∀ n, n ≤ 8 → (∃ d, (1 ≤ d ∧ d ≤ 8) ∧ (∀ i, i + 1 < d → 16 ≤ hq u i) ∧ hq u (d - 1) < 16) ∨ ∀ i, i < n → 16 ≤ hq u i := fun n => by
    induction n with
    | zero => exact fun _ => .inr fun i hi => by omega
    | succ n ih =>
      intro hn
      rcases ih (by omega) with h1 | h1
      · exact .inl h1
      · by_cases h2 : hq u n < 16
        · exact .inl ⟨n + 1, ⟨by omega, hn⟩, fun i hi => h1 i (by omega), h2⟩
        · exact .inr fun i hi => by
            by_cases e : i = n
            · subst e; omega
            · exact h1 i (by omega)
  rcases key 8 (by omega) with h1 | h1
  · exact h1
  · have := h1 7 (by omega)
    have e : hq u 8 = hq u 7 / 16 := rfl
    omega
/-- The last d digits. -/
def hexN (u d : Nat) : List UInt8 := (List.range d).map fun q => hxB (hq u (d - 1 - q) % 16)
theorem hexN_len (u d : Nat) : (hexN u d).length = d := by simp [hexN]
theorem hexN_get {u d q : Nat} (h : q < d) : (hexN u d)[q]? = some (hxB (hq u (d - 1 - q) % 16)) := by simp [hexN, h]
theorem hexN_pad {u d : Nat} (hu : u < 4294967296) (hd : 1 ≤ d ∧ d ≤ 8) (h : hq u (d - 1) < 16) : List.replicate (8 - d) 48 ++ hexN u d = hexN u 8 := by
  apply List.ext_getElem?
  intro q
  by_cases hq8' : q < 8
  · rw [hexN_get hq8']
    by_cases h1 : q < 8 - d
    · rw [List.getElem?_append_left (by simpa using h1), List.getElem?_replicate, if_pos h1]
      have e : hq u (8 - 1 - q) = 0 := by
        have h2 : hq u d = 0 := by
          obtain ⟨e, rfl⟩ : ∃ e, d = e + 1 := ⟨d - 1, by omega⟩
          show hq u e / 16 = 0
          have : hq u e < 16 := h
          omega
        have := hq_le u d (8 - 1 - q) (by omega)
        omega
      rw [e]; rfl
    · rw [List.getElem?_append_right (by simpa using by omega), List.length_replicate, hexN_get (by omega)]
      rw [show d - 1 - (q - (8 - d)) = 8 - 1 - q by omega]
  · rw [List.getElem?_eq_none (by simp [hexN_len]; omega), List.getElem?_eq_none (by simp [hexN_len]; omega)]
theorem hxU (x : Nat) : UInt8.ofNat (hxZ x).toNat = hxB x := by
  show UInt8.ofNat ((((hxB x).toNat : Nat) : Int)).toNat = hxB x
  rw [Int.toNat_natCast]; exact UInt8.ofNat_toNat
theorem hexN_of (u d : Nat) : (((List.range d).map fun q => hxZ (hq u (d - 1 - q) % 16)).map fun z => UInt8.ofNat z.toNat) = hexN u d := by
  rw [List.map_map]
  unfold hexN
  exact List.map_congr_left fun q _ => hxU _

theorem sl01Bits (a : Nat) (M : Mem) : Pure Tryd.prog 64 [.float .f32 a] M (.int .u32 (a : Int)) := by
  refine Pure.given 0 rfl fun ha => ?_
  refine pure_of Tryd.func64 Tryd.ntmps64 rfl rfl (by repeat' (first | exact Flat.bool _ | exact Flat.int _ _ | exact Flat.float _ _ | exact Flat.string _ | exact flat_nil | exact flat_tabL (fun _ => Flat.bool _) | exact flat_tabL (fun _ => Flat.int _ _) | exact flat_tabL (fun _ => Flat.float _ _) | refine flat_tuple ?_ | refine flat_agg ?_ | refine flat_cons ?_ ?_ | refine flat_append ?_ ?_)) ?_
  simp only [envOf, Nat.zero_add, Nat.reduceAdd]
  repeat' (first | (refine d_AOs (h := ?_) ; first | refine o_move (h := ?_) | refine o_assign (h := ?_) | refine AOs.nil (h := ?_) | (refine d_bin (h := ?_) ; first | refine o_neB (h := ?_) | refine o_nei (h := ?_) | refine o_fisnan (h := ?_) | refine o_fne (h := ?_) )  | refine o_at (h := ?_) | refine o_bits32 (h := ?_) | refine o_integral (h := ?_) ) | (refine d_AW (h := ?_) ; first | refine AW.seq (h := ?_) | refine AW.region (h := ?_) | (refine AW.cond (ht := (fun hc => ?_)) (hf := (fun hc => ?_)) <;> (try (with_reducible first | exact absurd hc Bool.false_ne_true | exact absurd hc.symm Bool.false_ne_true)) <;> (try simp only [decide_eq_true_eq, decide_eq_false_iff_not, Int.ofNat_inj, Bool.not_eq_true', Bool.not_eq_false', Int.not_lt, Int.not_le] at hc) <;> (try (exfalso; omega)) <;> (try (exact absurd hc (by decide)))) | refine AW.block (h := ?_) | refine AW.ret (h := ?_) | refine AW.skip (h := ?_) | refine AW.exit (h := ?_) ) | (first | refine t_normal ?_ | refine t_ret ?_ | refine t_exit ?_ | refine b_normal ?_ | refine b_exit ?_ | refine b_exit' (by decide) ?_ | refine b_ret ?_) | (refine d_post (h := ?_) ; first | refine p_ret1 rfl (h := ?_) | refine p_end1 rfl (h := ?_) | refine p_cell1 rfl (h := ?_) ))
  · rw [nan_eq ha hc]; rfl
  · rfl
theorem flt_lt {a : Nat} (h : FltOk .f32 a) : a < 4294967296 := h.1
theorem tdiv16 (x : Nat) (hx : x < 4294967296) : IntKind.u32.wrap (Int.tdiv (x : Int) 16) = ((x / 16 : Nat) : Int) := wrap_fits (k := .u32) (a := ((x / 16 : Nat) : Int)) ⟨by omega, by omega⟩
theorem hx_zero (a : Nat) : (tab 8 fun q => Value.int .u8 (if 8 ≤ q then hxZ (hq a (7 - q) % 16) else 0)) = tab 8 fun _ => Value.int .u8 0 := tab_congr fun q hq8' => by rw [if_neg (by omega)]
theorem hx_put (a j i : Nat) (h : i + (j + 1) = 8) : (tab 8 fun q => if q = j then Value.int .u8 (hxZ (hq a i % 16)) else Value.int .u8 (if j + 1 ≤ q then hxZ (hq a (7 - q) % 16) else 0)) = tab 8 fun q => Value.int .u8 (if j ≤ q then hxZ (hq a (7 - q) % 16) else 0) := tab_congr fun q hq8' => by
  by_cases e : q = j
  · subst e
    rw [if_pos rfl, if_pos (Nat.le_refl _), show 7 - q = i by omega]
  · rw [if_neg e]
    by_cases e2 : j ≤ q
    · rw [if_pos e2, if_pos (by omega)]
    · rw [if_neg e2, if_neg (by omega)]
theorem hx_full {a : Nat} : ∀ i z, ((List.range 8).map fun q => hxZ (hq a (8 - 1 - q) % 16))[i]? = some z → (tab 8 fun q => Value.int .u8 (if 0 ≤ q then hxZ (hq a (7 - q) % 16) else 0))[0 + i]? = some (.int .u8 z) := fun i z h => by
  have hi : i < 8 := by
    have := (List.getElem?_eq_some_iff.1 h).1
    simpa using this
  rw [List.getElem?_map, List.getElem?_range hi] at h
  simp only [Option.map_some, Option.some.injEq] at h
  rw [Nat.zero_add, tab_get hi, if_pos (Nat.zero_le _), ← h]
set_option maxRecDepth 20000 in
set_option maxHeartbeats 4000000 in
theorem sl01Hex (a : Nat) (M : Mem) : Pure Tryd.prog 46 [.float .f32 a] M (strV (hexN a 8)) := by
  refine Pure.given 0 rfl fun ha => ?_
  have hlt := flt_lt ha
  refine pure_of Tryd.func46 Tryd.ntmps46 rfl rfl (Flat.string _) ?_
  have hB := fun M' => sl01Bits a M'
  simp only [envOf, Nat.zero_add, Nat.reduceAdd]
  repeat' (first | (refine d_AOs (h := ?_) ; first | refine o_move (h := ?_) | refine o_assign (h := ?_) | refine AOs.nil (h := ?_) | (refine d_bin (h := ?_) ; first | refine o_geq (h := ?_) | refine o_subS (h := ?_) | refine o_sub (h := ?_) | refine o_remS (h := ?_) | refine o_rem (h := ?_) | refine o_quo (h := ?_) )  | refine o_call (hc := (hB _)) (h := ?_) | refine o_mkS1 (c := 8) (h := ?_) | refine o_at (h := ?_) | refine o_ixS (h := ?_) | refine o_mkS1 (h := ?_) | refine o_mkS (h := ?_) | refine o_store (h := ?_) | refine o_ix (h := ?_) | refine o_convS (h := ?_) | refine o_conv (h := ?_) | refine o_fconv (h := ?_) | refine o_fofInt (h := ?_) ) | (refine d_AW (h := ?_) ; first | refine AW.seq (h := ?_) | refine AW.region (h := ?_) | (refine AW.cond (ht := (fun hc => ?_)) (hf := (fun hc => ?_)) <;> (try (with_reducible first | exact absurd hc Bool.false_ne_true | exact absurd hc.symm Bool.false_ne_true)) <;> (try simp only [decide_eq_true_eq, decide_eq_false_iff_not, Int.ofNat_inj, Bool.not_eq_true', Bool.not_eq_false', Int.not_lt, Int.not_le] at hc) <;> (try (exfalso; omega)) <;> (try (exact absurd hc (by decide)))) | refine AW.block (h := ?_) | refine AW.ret (h := ?_) | refine AW.skip (h := ?_) | refine AW.exit (h := ?_) ) | (first | refine t_normal ?_ | refine t_ret ?_ | refine t_exit ?_ | refine b_normal ?_ | refine b_exit ?_ | refine b_exit' (by decide) ?_ | refine b_ret ?_) | (refine d_post (h := ?_) ; first | refine p_ret1 rfl (h := ?_) | refine p_end1 rfl (h := ?_) | refine p_cell1 rfl (h := ?_) ))
  clear hB
  refine AW.loopN [3, 4, 5] (fun k st => ∃ i : Nat, i + k = 8 ∧ st = ⟨23, [(3, .int .u32 (hq a i : Int)), (4, .slice (some ⟨M.length, 0, none⟩) 8 8), (5, .int .i64 ((k : Int) - 1))], M ++ [⟨tab 8 fun q => .int .u8 (if k ≤ q then hxZ (hq a (7 - q) % 16) else 0), none, true⟩]⟩) 8 ?_ ?_
  · exact ⟨0, by omega, by rw [hx_zero]; rfl⟩
  rintro k st ⟨i, hi, rfl⟩
  cases k with
  | succ j =>
    have hl := hq_le a 0 i (by omega)
    have h0 : hq a 0 = a := rfl
    have hs : hq a (i + 1) = hq a i / 16 := rfl
    have hd := tdiv16 (hq a i) (by omega)
    have hm : ((hq a i : Nat) : Int) % 16 = ((hq a i % 16 : Nat) : Int) := by omega
    have hx := dig16 (hq a i % 16) (by omega)
    have hT := hx_put a j i (by omega)
    rw [show (((j + 1 : Nat) : Int) - 1) = (j : Int) by omega]
    generalize hq a i = x at *
    repeat' (first | (refine d_AOs (h := ?_) ; first | refine o_move (h := ?_) | refine o_assign (h := ?_) | refine AOs.nil (h := ?_) | (refine d_bin (h := ?_) ; first | refine o_geq (h := ?_) | refine o_subS (h := ?_) | refine o_sub (h := ?_) | refine o_remS (h := ?_) | refine o_rem (h := ?_) | refine o_quo (h := ?_) )  | refine o_remS (h := ?_) | refine o_ixStr (by rfl) (by rfl) (hb := by rw [hm, Int.toNat_natCast]; exact hx) (hz := by rfl) (h := ?_) | refine o_at (h := ?_) | refine o_ixS (h := ?_) | refine o_mkS1 (h := ?_) | refine o_mkS (h := ?_) | refine o_store (h := ?_) | refine o_ix (h := ?_) | refine o_convS (h := ?_) | refine o_conv (h := ?_) | refine o_fconv (h := ?_) | refine o_fofInt (h := ?_) ) | (refine d_AW (h := ?_) ; first | refine AW.seq (h := ?_) | refine AW.region (h := ?_) | (refine AW.cond (ht := (fun hc => ?_)) (hf := (fun hc => ?_)) <;> (try (with_reducible first | exact absurd hc Bool.false_ne_true | exact absurd hc.symm Bool.false_ne_true)) <;> (try simp only [decide_eq_true_eq, decide_eq_false_iff_not, Int.ofNat_inj, Bool.not_eq_true', Bool.not_eq_false', Int.not_lt, Int.not_le] at hc) <;> (try (exfalso; omega)) <;> (try (exact absurd hc (by decide)))) | refine AW.block (h := ?_) | refine AW.ret (h := ?_) | refine AW.skip (h := ?_) | refine AW.exit (h := ?_) ) | (first | refine t_normal ?_ | refine t_ret ?_ | refine t_exit ?_ | refine b_normal ?_ | refine b_exit ?_ | refine b_exit' (by decide) ?_ | refine b_ret ?_) | (refine d_post (h := ?_) ; first | refine p_ret1 rfl (h := ?_) | refine p_end1 rfl (h := ?_) | refine p_cell1 rfl (h := ?_) ))
    all_goals exact ⟨j, by omega, i + 1, by omega, by rw [hT, hd, hs]; rfl⟩
  | zero =>
    obtain rfl : i = 8 := by omega
    repeat' (first | (refine d_AOs (h := ?_) ; first | refine o_move (h := ?_) | refine o_assign (h := ?_) | refine AOs.nil (h := ?_) | (refine d_bin (h := ?_) ; first | refine o_geq (h := ?_) | refine o_subS (h := ?_) | refine o_sub (h := ?_) | refine o_remS (h := ?_) | refine o_rem (h := ?_) | refine o_quo (h := ?_) )  | refine o_b2s (g := (List.range 8).map fun q => hxZ (hq a (8 - 1 - q) % 16)) (by rfl) (by rfl) (by rfl) (hk := by simp) (hb := by first | (simp only [mem_tail, mem_tail0, List.getElem?_cons_zero, List.getElem?_cons_succ]; first | done | rfl) | exact mem_head (by assumption) | assumption | (simp only [mem_tailS, mem_tailS0, List.getElem?_cons_zero, List.getElem?_cons_succ]; first | done | rfl) | exact mem_set1 (by assumption) | exact mem_set0 (by assumption) | exact mem_setN1 (by assumption) (by assumption) | exact mem_setN (by assumption) (by assumption)) (hg := hx_full) (hz := hexN_of a 8) (h := ?_) | refine o_at (h := ?_) | refine o_ixS (h := ?_) | refine o_mkS1 (h := ?_) | refine o_mkS (h := ?_) | refine o_store (h := ?_) | refine o_ix (h := ?_) | refine o_convS (h := ?_) | refine o_conv (h := ?_) | refine o_fconv (h := ?_) | refine o_fofInt (h := ?_) ) | (refine d_AW (h := ?_) ; first | refine AW.seq (h := ?_) | refine AW.region (h := ?_) | (refine AW.cond (ht := (fun hc => ?_)) (hf := (fun hc => ?_)) <;> (try (with_reducible first | exact absurd hc Bool.false_ne_true | exact absurd hc.symm Bool.false_ne_true)) <;> (try simp only [decide_eq_true_eq, decide_eq_false_iff_not, Int.ofNat_inj, Bool.not_eq_true', Bool.not_eq_false', Int.not_lt, Int.not_le] at hc) <;> (try (exfalso; omega)) <;> (try (exact absurd hc (by decide)))) | refine AW.block (h := ?_) | refine AW.ret (h := ?_) | refine AW.skip (h := ?_) | refine AW.exit (h := ?_) ) | (first | refine t_normal ?_ | refine t_ret ?_ | refine t_exit ?_ | refine b_normal ?_ | refine b_exit ?_ | refine b_exit' (by decide) ?_ | refine b_ret ?_) | (refine d_post (h := ?_) ; first | refine p_ret1 rfl (h := ?_) | refine p_end1 rfl (h := ?_) | refine p_cell1 rfl (h := ?_) ))
    all_goals rfl
end Go.Proofs.YtafakhhcgbkfoaaDoor
