/- Plain: a text cut at each blank; decimal numbers of at most nine digits. No program in sight. -/
import Derived.Lib.ItoaLen
import Derived.Lib.ItoaMem
import Derived.Lib.Split
import Derived.Lib.Join
import Derived.Lib.SplitLaws
import Derived.Lib.ParseIntBTie
import Derived.Test.YtgdpcomemkimhaaGreatDoorHx
import Derived.Test.YtgdpcomemkimhaaGreatDoorAlloc

namespace Go.Proofs.YtgdpcomemkimhaaGreatDoor

/-- A text cut at each c. -/
def cutW (c : UInt8) : List UInt8 → List (List UInt8)
  | [] => [[]]
  | x :: r => if x = c then [] :: cutW c r else (x :: (cutW c r).headD []) :: (cutW c r).tail
theorem cutW_cons (c x : UInt8) (r : List UInt8) : cutW c (x :: r) = if x = c then [] :: cutW c r else (x :: (cutW c r).headD []) :: (cutW c r).tail := rfl
theorem cutW_ne (c : UInt8) : ∀ s, ∃ w ws, cutW c s = w :: ws
  | [] => ⟨_, _, rfl⟩
  | x :: r => by
    rw [cutW_cons]
    split
    · exact ⟨_, _, rfl⟩
    · exact ⟨_, _, rfl⟩
theorem cutW_no {c : UInt8} : ∀ {u : List UInt8}, c ∉ u → cutW c u = [u]
  | [], _ => rfl
  | x :: r, h => by
    have h1 : x ≠ c := fun e => h (by rw [e]; simp)
    have h2 : c ∉ r := fun e => h (by simp [e])
    rw [cutW_cons, if_neg h1, cutW_no h2]; rfl
theorem cutW_app {c : UInt8} : ∀ {u v : List UInt8}, c ∉ u → cutW c (u ++ c :: v) = u :: cutW c v
  | [], v, _ => by
    show cutW c (c :: v) = _
    rw [cutW_cons, if_pos rfl]
  | x :: r, v, h => by
    have h1 : x ≠ c := fun e => h (by rw [e]; simp)
    have h2 : c ∉ r := fun e => h (by simp [e])
    show cutW c (x :: (r ++ c :: v)) = _
    rw [cutW_cons, if_neg h1, cutW_app h2]; rfl
theorem cut_joinTail {c : UInt8} : ∀ {W : List (List UInt8)} {w : List UInt8}, c ∉ w → (∀ x ∈ W, c ∉ x) → cutW c (w ++ Lib.joinTail [c] W) = w :: W
  | [], w, hw, _ => by
    show cutW c (w ++ []) = _
    rw [List.append_nil, cutW_no hw]
  | x :: W, w, hw, hW => by
    have ih := cut_joinTail (c := c) (W := W) (w := x) (hW x (by simp)) fun y hy => hW y (by simp [hy])
    have e : Lib.joinTail [c] (x :: W) = c :: (x ++ Lib.joinTail [c] W) := by simp [Lib.joinTail]
    rw [e, cutW_app hw, ih]
/-- Words without c, joined and cut again. -/
theorem cut_join {c : UInt8} {w : List UInt8} {W : List (List UInt8)} (h : ∀ x ∈ w :: W, c ∉ x) : cutW c (Lib.join (w :: W) [c]) = w :: W := by
  rw [Lib.join_cons]
  exact cut_joinTail (h w (by simp)) fun x hx => h x (by simp [hx])
theorem cut_join' {c : UInt8} {W : List (List UInt8)} (hW : W ≠ []) (h : ∀ x ∈ W, c ∉ x) : cutW c (Lib.join W [c]) = W := by
  obtain ⟨w, r, rfl⟩ := List.exists_cons_of_ne_nil hW
  exact cut_join h
theorem cutW_len (c : UInt8) : ∀ s, (cutW c s).length = s.count c + 1
  | [] => rfl
  | x :: r => by
    have ih := cutW_len c r
    obtain ⟨w, ws, e⟩ := cutW_ne c r
    rw [cutW_cons]
    by_cases h : x = c
    · rw [if_pos h, List.length_cons, ih, h, List.count_cons_self]
    · rw [if_neg h, List.count_cons_of_ne h, ← ih, e]; rfl
theorem cutW_le (c : UInt8) (s : List UInt8) : (cutW c s).length ≤ s.length + 1 := by
  rw [cutW_len]
  have := List.count_le_length (a := c) (l := s)
  omega
theorem cutW_mem {c : UInt8} : ∀ {s : List UInt8} {w : List UInt8}, w ∈ cutW c s → w.length ≤ s.length
  | [], w, h => by
    have : w = [] := by simpa [cutW] using h
    rw [this]; simp
  | x :: r, w, h => by
    obtain ⟨v, vs, e⟩ := cutW_ne c r
    rw [cutW_cons] at h
    by_cases hx : x = c
    · rw [if_pos hx, List.mem_cons] at h
      rcases h with rfl | h
      · simp
      · have := cutW_mem h; simp only [List.length_cons]; omega
    · rw [if_neg hx, e] at h
      simp only [List.headD_cons, List.tail_cons, List.mem_cons] at h
      rcases h with rfl | h
      · have := cutW_mem (c := c) (s := r) (w := v) (by rw [e]; simp)
        simp only [List.length_cons]; omega
      · have := cutW_mem (c := c) (s := r) (w := w) (by rw [e]; simp [h])
        simp only [List.length_cons]; omega
theorem ixByte_app {c : UInt8} : ∀ {u v : List UInt8}, c ∉ u → Lib.indexByte (u ++ c :: v) c = u.length
  | [], v, _ => by
    show Lib.indexByte (c :: v) c = _
    unfold Lib.indexByte
    simp
  | x :: r, v, h => by
    have h1 : (x == c) = false := by
      rw [beq_eq_false_iff_ne]; exact fun e => h (by rw [e]; simp)
    have h2 : c ∉ r := fun e => h (by simp [e])
    have ih := ixByte_app (v := v) h2
    show (if x == c then (0 : Int) else if Lib.indexByte (r ++ c :: v) c == -1 then -1 else Lib.indexByte (r ++ c :: v) c + 1) = _
    have h3 : ((r.length : Int) == -1) = false := by rw [beq_eq_false_iff_ne]; omega
    rw [h1, ih, h3]
    simp
/-- What strings.Split makes of a text at one byte. -/
theorem splitK_cut (c : UInt8) : ∀ (k : Nat) (s : List UInt8), s.count c = k → Lib.splitK [c] 0 k s = cutW c s
  | 0, s, h => by
    rw [cutW_no (by rw [← List.count_eq_zero]; exact h)]; rfl
  | k + 1, s, h => by
    have hm : c ∈ s := by
      rw [← List.count_pos_iff]; omega
    obtain ⟨u, v, rfl, hu⟩ := List.eq_append_cons_of_mem hm
    have hu0 := List.count_eq_zero.2 hu
    have hv : v.count c = k := by
      rw [List.count_append, List.count_cons_self] at h; omega
    have ix : Lib.index (u ++ c :: v) [c] = u.length := by rw [Lib.index_one, ixByte_app hu]
    have h3 : ((u.length : Int) == -1) = false := by rw [beq_eq_false_iff_ne]; omega
    unfold Lib.splitK
    rw [ix, h3, cutW_app hu, if_neg (by simp)]
    have e1 : (u ++ c :: v).take ((u.length : Int).toNat + 0) = u := by simp
    have e2 : (u ++ c :: v).drop ((u.length : Int).toNat + [c].length) = v := by
      rw [Int.toNat_natCast, ← List.drop_drop]
      simp
    rw [e1, e2, splitK_cut c k v hv]
theorem splitB_cut (s : ByteArray) (c : UInt8) : (Lib.splitB ⟨#[c]⟩ 0 (Lib.countB s ⟨#[c]⟩) s).map (·.data.toList) = cutW c s.data.toList := by
  rw [Lib.splitB_data]
  have e : Lib.countB s ⟨#[c]⟩ = s.data.toList.count c := Lib.count_one c s.data.toList
  rw [e]
  exact splitK_cut c _ _ rfl

/-! ### Numbers -/
def isDg (c : UInt8) : Bool := decide (48 ≤ c.toNat ∧ c.toNat ≤ 57)
def dcA (a : Nat) (c : UInt8) : Nat := a * 10 + (c.toNat - 48)
def dcV (a : Nat) (w : List UInt8) : Nat := w.foldl dcA a
theorem dcV_nil (a : Nat) : dcV a [] = a := rfl
theorem dcV_cons (a : Nat) (c : UInt8) (r : List UInt8) : dcV a (c :: r) = dcV (a * 10 + (c.toNat - 48)) r := by
  unfold dcV
  rw [List.foldl_cons, dcA]
theorem dcV_snoc (a : Nat) (w : List UInt8) (c : UInt8) : dcV a (w ++ [c]) = dcV a w * 10 + (c.toNat - 48) := by
  induction w generalizing a with
  | nil => rw [List.nil_append, dcV_cons, dcV_nil, dcV_nil]
  | cons x r ih => rw [List.cons_append, dcV_cons, dcV_cons]; exact ih _
/-- A number of at most nine digits, without a nought ahead. -/
def nuOk (w : List UInt8) : Bool := decide (1 ≤ w.length ∧ w.length ≤ 9) && (!(decide (w.headD 0 = 48) && decide (1 < w.length)) && w.all isDg)
theorem dcV_lt (w : List UInt8) : ∀ a, w.all isDg = true → dcV a w < (a + 1) * 10 ^ w.length := by
  induction w with
  | nil => intro a _; rw [dcV_nil]; simp
  | cons c r ih =>
    intro a h
    rw [List.all_cons, Bool.and_eq_true] at h
    have h1 := of_decide_eq_true h.1
    have h2 := ih (a * 10 + (c.toNat - 48)) h.2
    rw [dcV_cons]
    refine Nat.lt_of_lt_of_le h2 ?_
    rw [List.length_cons, Nat.pow_succ, Nat.mul_comm (10 ^ r.length) 10, ← Nat.mul_assoc]
    exact Nat.mul_le_mul_right _ (by omega)
theorem dcV_pos (w : List UInt8) : ∀ a, 1 ≤ a → 1 ≤ dcV a w := by
  induction w with
  | nil => intro a h; rw [dcV_nil]; exact h
  | cons c r ih => intro a h; rw [dcV_cons]; exact ih _ (by omega)
theorem dig_eq {c : UInt8} (h : isDg c = true) : UInt8.ofNat (48 + (c.toNat - 48)) = c := by
  have h1 := of_decide_eq_true h
  rw [show 48 + (c.toNat - 48) = c.toNat by omega, UInt8.ofNat_toNat]
/-- Digits without a nought ahead are the text of their number. -/
theorem dec_dcV : ∀ (k : Nat) (w : List UInt8), w.length = k → 1 ≤ k → w.all isDg = true → (w.headD 0 = 48 → k = 1) → Lib.decDigits (dcV 0 w) = w
  | 0, w, _, h1, _, _ => absurd h1 (by omega)
  | k + 1, w, hk, _, hd, h0 => by
    have hne : w ≠ [] := fun e => by rw [e] at hk; simp at hk
    obtain ⟨u, c, rfl⟩ : ∃ u c, w = u ++ [c] := ⟨w.dropLast, w.getLast hne, (List.dropLast_concat_getLast hne).symm⟩
    rw [List.all_append, Bool.and_eq_true] at hd
    have hc : isDg c = true := by simpa using hd.2
    have hc1 := of_decide_eq_true hc
    rw [List.length_append] at hk
    have hul : u.length = k := by simpa using hk
    rw [dcV_snoc]
    by_cases hu : u = []
    · subst hu
      show Lib.decDigits (0 * 10 + _) = _
      rw [Nat.zero_mul, Nat.zero_add, Lib.decDigits_one (by omega), dig_eq hc]; rfl
    · obtain ⟨x, r, rfl⟩ := List.exists_cons_of_ne_nil hu
      have hx0 : x ≠ 48 := fun e => by
        have := h0 (by rw [e]; rfl)
        have h2 : (x :: r).length = k := hul
        rw [List.length_cons] at h2
        omega
      have hx : isDg x = true := by
        have := hd.1
        rw [List.all_cons, Bool.and_eq_true] at this
        exact this.1
      have hx1 := of_decide_eq_true hx
      have hx2 : x.toNat ≠ 48 := fun e => hx0 (UInt8.toNat_inj.1 (by rw [e]; rfl))
      have hp : 1 ≤ dcV 0 (x :: r) := by
        rw [dcV_cons]
        exact dcV_pos r _ (by omega)
      have ih := dec_dcV k (x :: r) hul (by rw [← hul, List.length_cons]; omega) hd.1 (fun e => absurd e hx0)
      rw [Lib.decDigits, dif_neg (by omega), show (dcV 0 (x :: r) * 10 + (c.toNat - 48)) / 10 = dcV 0 (x :: r) by omega, ih, show (dcV 0 (x :: r) * 10 + (c.toNat - 48)) % 10 = c.toNat - 48 by omega, dig_eq hc]
theorem nuOk_iff {w : List UInt8} : nuOk w = true ↔ (1 ≤ w.length ∧ w.length ≤ 9) ∧ (w.headD 0 = 48 → w.length ≤ 1) ∧ w.all isDg = true := by
  unfold nuOk
  rw [Bool.and_eq_true, Bool.and_eq_true, decide_eq_true_eq]
  refine and_congr Iff.rfl (and_congr ?_ Iff.rfl)
  by_cases h : w.headD 0 = 48
  · rw [decide_eq_true h]
    by_cases h2 : 1 < w.length
    · rw [decide_eq_true h2]
      exact ⟨(fun e => by cases e), fun e => absurd (e h) (by omega)⟩
    · rw [decide_eq_false h2]
      exact ⟨fun _ _ => by omega, fun _ => rfl⟩
  · rw [decide_eq_false h]
    exact ⟨fun _ e => absurd e h, fun _ => rfl⟩
theorem nuOk_dec {w : List UInt8} (h : nuOk w = true) : Lib.decDigits (dcV 0 w) = w ∧ dcV 0 w < 1000000000 := by
  obtain ⟨h1, h2, h3⟩ := nuOk_iff.1 h
  refine ⟨dec_dcV w.length w rfl h1.1 h3 fun e => by have := h2 e; omega, ?_⟩
  have := dcV_lt w 0 h3
  rw [Nat.zero_add, Nat.one_mul] at this
  refine Nat.lt_of_lt_of_le this ?_
  exact Nat.le_trans (Nat.pow_le_pow_right (by omega) h1.2) (by decide)
theorem dg_ofNat {d : Nat} (h : d < 10) : isDg (UInt8.ofNat (48 + d)) = true ∧ (UInt8.ofNat (48 + d)).toNat = 48 + d := by
  have : (UInt8.ofNat (48 + d)).toNat = 48 + d := by
    rw [UInt8.toNat_ofNat']; omega
  refine ⟨?_, this⟩
  unfold isDg
  rw [this]
  exact decide_eq_true (by omega)
theorem dec_all (u : Nat) : (Lib.decDigits u).all isDg = true ∧ dcV 0 (Lib.decDigits u) = u ∧ Lib.decDigits u ≠ [] ∧ ((Lib.decDigits u).headD 0 = 48 → u = 0) := by
  induction u using Nat.strongRecOn with
  | ind u ih =>
    by_cases h : u < 10
    · rw [Lib.decDigits_one h]
      obtain ⟨h1, h2⟩ := dg_ofNat h
      refine ⟨by rw [List.all_cons, h1]; rfl, ?_, by simp, fun e => ?_⟩
      · rw [dcV_cons, dcV_nil, h2]; omega
      · have e1 : UInt8.ofNat (48 + u) = 48 := e
        have := congrArg UInt8.toNat e1
        rw [h2] at this
        have e2 : (48 : UInt8).toNat = 48 := rfl
        omega
    · obtain ⟨i1, i2, i3, i4⟩ := ih (u / 10) (by omega)
      obtain ⟨h1, h2⟩ := dg_ofNat (d := u % 10) (by omega)
      rw [Lib.decDigits, dif_neg h]
      refine ⟨by rw [List.all_append, i1, List.all_cons, h1]; rfl, by rw [dcV_snoc, i2, h2]; omega, by simp, fun e => ?_⟩
      obtain ⟨x, r, er⟩ := List.exists_cons_of_ne_nil i3
      rw [er] at e i4
      have := i4 e
      omega
theorem dec_len {u : Nat} : ∀ {k : Nat}, u < 10 ^ (k + 1) → (Lib.decDigits u).length ≤ k + 1 := by
  induction u using Nat.strongRecOn with
  | ind u ih =>
    intro k hk
    by_cases h : u < 10
    · rw [Lib.decDigits_one h]; simp
    · cases k with
      | zero => simp at hk; omega
      | succ k =>
        rw [Lib.decDigits, dif_neg h, List.length_append]
        have := ih (u / 10) (by omega) (k := k) (by rw [Nat.pow_succ] at hk; omega)
        simp only [List.length_cons, List.length_nil]; omega
/-- The text of a number below 10^9 is one. -/
theorem dec_nuOk {u : Nat} (h : u < 1000000000) : nuOk (Lib.decDigits u) = true ∧ dcV 0 (Lib.decDigits u) = u := by
  obtain ⟨h1, h2, h3, h4⟩ := dec_all u
  refine ⟨nuOk_iff.2 ⟨⟨List.length_pos_iff.2 h3, dec_len (k := 8) h⟩, fun e => ?_, h1⟩, h2⟩
  rw [h4 e, Lib.decDigits_one (by omega)]; simp
theorem dg_ne {w : List UInt8} {c : UInt8} (h : w.all isDg = true) (hc : isDg c = false) : c ∉ w := fun hm => by
  rw [List.all_eq_true] at h
  rw [h c hm] at hc; cases hc
theorem dec_blank (u : Nat) : (32 : UInt8) ∉ Lib.decDigits u := dg_ne (dec_all u).1 (by decide)

/-! ### strconv.ParseInt -/
def pnV (w : List UInt8) : Int := match Lib.parseIntB 64 w with
  | .ok v => v
  | .«syntax» => 0
  | .range => Lib.intSat 64 w
theorem parseM_ok (w : List UInt8) : ∀ a, w.all isDg = true → (a + 1) * 10 ^ w.length ≤ 1000000000 → Lib.parseUintM (2 ^ 64 - 1) a w = .ok (dcV a w) := by
  induction w with
  | nil => intro a _ _; rw [dcV_nil]; rfl
  | cons c r ih =>
    intro a h hl
    rw [List.all_cons, Bool.and_eq_true] at h
    have h1 := of_decide_eq_true h.1
    have hp : 1 ≤ 10 ^ r.length := Nat.pos_of_ne_zero (by simp)
    have hl2 : (a * 10 + (c.toNat - 48) + 1) * 10 ^ r.length ≤ 1000000000 := by
      refine Nat.le_trans ?_ hl
      rw [List.length_cons, Nat.pow_succ, Nat.mul_comm (10 ^ r.length) 10, ← Nat.mul_assoc]
      exact Nat.mul_le_mul_right _ (by omega)
    have hl3 : a * 10 + (c.toNat - 48) + 1 ≤ 1000000000 := Nat.le_trans (Nat.le_mul_of_pos_right _ hp) hl2
    unfold Lib.parseUintM
    rw [if_pos h1, if_neg (by omega), if_neg (by omega), ih _ h.2 hl2, dcV_cons]
theorem parse_ok {w : List UInt8} (h : nuOk w = true) : Lib.parseIntB 64 w = .ok (dcV 0 w : Int) := by
  obtain ⟨h1, h2, h3⟩ := nuOk_iff.1 h
  have hlt := (nuOk_dec h).2
  obtain ⟨c, r, rfl⟩ := List.exists_cons_of_ne_nil (l := w) (fun e => by rw [e] at h1; simp at h1)
  have hc : isDg c = true := by
    rw [List.all_cons, Bool.and_eq_true] at h3; exact h3.1
  have hc1 := of_decide_eq_true hc
  have hU : Lib.parseUintB 64 (c :: r) = .ok (dcV 0 (c :: r)) := by
    unfold Lib.parseUintB
    rw [if_neg (by simp)]
    refine parseM_ok _ 0 h3 ?_
    rw [Nat.zero_add, Nat.one_mul]
    exact Nat.le_trans (Nat.pow_le_pow_right (by omega) h1.2) (by decide)
  unfold Lib.parseIntB
  simp only
  rw [if_neg (by omega), hU]
  simp only
  rw [if_neg (by omega), if_neg (by omega), if_neg (by omega)]
theorem pnV_ok {w : List UInt8} (h : nuOk w = true) : pnV w = (dcV 0 w : Int) := by unfold pnV; rw [parse_ok h]
theorem pnV_bd (w : List UInt8) : -9223372036854775808 ≤ pnV w ∧ pnV w ≤ 9223372036854775807 := by
  unfold pnV
  cases h : Lib.parseIntB 64 w with
  | ok v =>
    have := Lib.parseIntB_bounds h
    simp only; omega
  | «syntax» => simp
  | range =>
    simp only [Lib.intSat]
    split <;> simp
end Go.Proofs.YtgdpcomemkimhaaGreatDoor

/- strings.Split at a blank, strconv.ParseInt, brought to the clean view. -/
namespace Go.Proofs.YtgdpcomemkimhaaGreatDoor
open Go.RowKit
attribute [local irreducible] AW AOs AO AQ AQW thenA inBlockA postA ACalls Pure
set_option linter.unusedSimpArgs false
set_option linter.unusedVariables false
set_option linter.unusedSectionVars false

instance fntSplit : FnT Tryz.prog 53 := FnT.mk' Tryz.func53 (by kernel_rfl) (by kernel_rfl)
instance fntParseInt : FnT Tryz.prog 104 := FnT.mk' Tryz.func104 (by kernel_rfl) (by kernel_rfl)
theorem three_args {r : Ren} {x y z : Value} {cargs : List Value} (h : VRs r [x, y, z] cargs) : ∃ a b c, cargs = [a, b, c] ∧ VR r x a ∧ VR r y b ∧ VR r z c := by
  have hl := h.1
  match cargs, hl with
  | [a, b, c], _ => exact ⟨a, b, c, rfl, h.2 0 x a rfl rfl, h.2 1 y b rfl rfl, h.2 2 z c rfl rfl⟩
theorem Pure.ofFar2 {P : Program} {f : FuncId} {args : List Value} {M : Mem} {v : Value}
    (h : ∀ B0 w0 r w (cargs : List Value), Sim B0 w0 r M w → VRs r args cargs → Calls P f cargs.toArray w fun e w' => ∃ y, e = .returned y ∧ VR r v y ∧ Below w.heap.size w w') : Pure P f args M v := by
  unfold Pure ACalls
  exact fun B0 w0 r w cargs hs hc => (h B0 w0 r w cargs hs hc).mono fun e w' ⟨y, he, hy, hb⟩ => ⟨y, v, M, r, he, ⟨rfl, rfl⟩, Ext.refl r, hs.far hb, hy⟩
/-- What ParseInt says besides the number. -/
def pnE (l : List UInt8) : Value := match Lib.parseIntB 64 l with
  | .ok _ => .nilIface
  | _ => .iface 168 dead
theorem VR.dead {r : Ren} {y : Value} : VR r dead y := .base trivial
theorem iParseInt (s : List UInt8) (hl : s.length ≤ 281474976710656) (M : Mem) : Pure Tryz.prog 104 [strV s, .int .i64 10, .int .i64 64] M (.tuple [.int .i64 (pnV s), pnE s].toArray) :=
  Pure.ofFar2 fun B0 w0 r w cargs hs hc => by
    obtain ⟨a, b, c, rfl, ha, hb, hc'⟩ := three_args hc
    rw [ha.string_inv, hb.int_inv, hc'.int_inv]
    obtain ⟨_, _, _, ⟨t1, p1, h1⟩, ⟨t2, p2, h2⟩⟩ := hs.base.2 w hs.below
    have hd : (⟨s.toArray⟩ : ByteArray).data.toList = s := by simp
    have hsz : (⟨s.toArray⟩ : ByteArray).size ≤ 281474976710656 := by show s.toArray.size ≤ _; simpa using hl
    unfold pnV pnE
    cases hp : Lib.parseIntB 64 s with
    | ok v =>
      refine (Tryz.strconv_ParseInt_10_at64_ok ⟨s.toArray⟩ (by omega) v (by rw [hd]; exact hp) w).mono ?_
      rintro e w' ⟨rfl, hw⟩
      refine ⟨_, rfl, .tuple _ _ rfl fun i x y hx hy => ?_, ?_⟩
      · rcases i with _ | _ | i
        · cases hx; cases hy; exact VR.int r _ _
        · cases hx; cases hy; exact .base rfl
        · simp at hx
      · rcases hw with rfl | ⟨t, rfl⟩
        · exact Below.refl _ _
        · exact Lib.bytesWorld_below _ _ _
    | «syntax» =>
      refine (Tryz.strconv_ParseInt_10_at64_syntax_var ⟨s.toArray⟩ hsz (by rw [hd]; exact hp) t1 p1 w h1).mono ?_
      rintro e w' ⟨N, rfl, _, _, hw⟩
      refine ⟨_, rfl, .tuple _ _ rfl fun i x y hx hy => ?_, hw⟩
      rcases i with _ | _ | i
      · cases hx; cases hy; exact VR.int r _ _
      · cases hx; cases hy; exact .iface _ _ _ VR.dead
      · simp at hx
    | range =>
      refine (Tryz.strconv_ParseInt_10_at64_range_var ⟨s.toArray⟩ hsz (by rw [hd]; exact hp) t2 p2 w h2).mono ?_
      rintro e w' ⟨N, rfl, _, _, hw⟩
      rw [hd]
      refine ⟨_, rfl, .tuple _ _ rfl fun i x y hx hy => ?_, hw⟩
      rcases i with _ | _ | i
      · cases hx; cases hy; exact VR.int r _ _
      · cases hx; cases hy; exact .iface _ _ _ VR.dead
      · simp at hx
section
variable {P : Program} {ops l : List Oper} {K : St → Prop} {n : Nat} {t : Env} {m : Mem} {d ty : Nat} {pos : String} {af : Array Edge}
def isNilI : Value → Option Bool
  | .nilIface => some true
  | .iface _ _ => some false
  | _ => none
/-- An interface value against nil. -/
theorem o_eqIf {xt yt : TypeId} {ms : Array (String × TypeId)} {x : Operand} {v : Value} {bb : Bool} (hu : P.underlying xt = some (.interface ms)) (hx : evalA t x = v := by (conv => (lhs; whnf)); first | done | rfl) (hb : isNilI v = some bb) (hd : Nat.blt d n = true := by rfl)
    (h : AOs P ops l K ⟨n, (d, .bool bb) :: t, m⟩) : AOs P ops (⟨some d, .binOp .eql xt x (.const .nilIface) yt, ty, pos, af, none⟩ :: l) K ⟨n, t, m⟩ :=
  AOs.val (v := .bool bb) rfl hd (fun B0 w0 r ac w hs => by
    have hx1 := hs.eval x
    rw [hx] at hx1
    refine ⟨.bool bb, ?_, VR.bool r _⟩
    have hev : ac.eval (.const .nilIface) = .nilIface := rfl
    cases v with
    | nilIface =>
      have he := hx1.nilIface_inv
      have : bb = true := by simpa [isNilI] using hb.symm
      subst this
      have heq : (Op.equal xt .nilIface .nilIface).run P w = .ok true w := by
        show (Op.equalIn (9999 + 1) xt .nilIface .nilIface).run P w = _
        unfold Op.equalIn
        simp [run_underlying hu]
      simp [execOp, he, hev, eqGuard, binOp, heq]
    | iface ti v' =>
      obtain ⟨z, he, _⟩ := hx1.iface_inv
      have : bb = false := by simpa [isNilI] using hb.symm
      subst this
      have heq : (Op.equal xt (.iface ti z) .nilIface).run P w = .ok false w := by
        show (Op.equalIn (9999 + 1) xt (.iface ti z) .nilIface).run P w = _
        unfold Op.equalIn
        simp [run_underlying hu]
      simp [execOp, he, hev, eqGuard, binOp, heq]
    | _ => simp [isNilI] at hb) h
end
end Go.Proofs.YtgdpcomemkimhaaGreatDoor
