/- Equality of arrays of floats with themselves, also of arrays of arrays. No program in sight. -/
import Derived.Test.YtjghdagcmombnaaOpW
import Derived.DeepKeys
import Derived.Test.YtjghdagcmombnaaGa
import Derived.Test.YtjghdagcmombnaaDr2
import Derived.Test.YtjghdagcmombnaaCc
import Derived.Test.YtjghdagcmombnaaJn
import Derived.Test.YtjghdagcmombnaaRr
import Derived.Test.YtjghdagcmombnaaSa

namespace Go.Proofs.Ytjghdagcmombnaa
open Go.RowKit
attribute [local irreducible] AW AOs AO AQ AQW thenA inBlockA postA ACalls Pure
set_option linter.unusedSimpArgs false
set_option linter.unusedVariables false
set_option linter.unusedSectionVars false

theorem rig_flat {xs : List Value} (h : ∀ c ∈ xs, ∀ r y, VR r c y → y = c) : ∀ r y, VR r (.agg xs.toArray) y → y = .agg xs.toArray := fun r y hv => by
  obtain ⟨ys, rfl, hl, hx⟩ := hv.agg_inv
  have : ys = xs := List.ext_getElem? fun i => by
    simp only at hl hx
    by_cases hi : i < xs.length
    · have h1 : xs[i]? = some xs[i] := List.getElem?_eq_getElem hi
      have h2 : ys[i]? = some (ys[i]'(by omega)) := List.getElem?_eq_getElem _
      rw [h1, h2, h _ (List.getElem_mem hi) r _ (hx i _ _ h1 h2)]
    · rw [List.getElem?_eq_none (by omega), List.getElem?_eq_none (by omega)]
  rw [this]
theorem rig_float {k : FloatKind} {a : Nat} (h : fnan k a = false) : ∀ r y, VR r (.float k a) y → y = .float k a := fun r y hv => by
  obtain ⟨b, rfl, hc, _⟩ := hv.float_inv
  have h2 : fnan k b = false := by rw [← fnan_cf, hc]; exact h
  rw [cf_of_not h2] at hc
  rw [hc]
theorem tab_rigF {n : Nat} {k : FloatKind} {f : Nat → Nat} (hf : ∀ i, i < n → fnan k (f i) = false) : ∀ r y, VR r (.agg (tab n fun i => Value.float k (f i)).toArray) y → y = .agg (tab n fun i => Value.float k (f i)).toArray :=
  rig_flat fun c hc => by
    obtain ⟨i, hi, rfl⟩ := List.mem_map.1 hc
    exact rig_float (hf i (List.mem_range.1 hi))
theorem items_run {P : Program} {d : Nat} {e : TypeId} {fk k : FloatKind} {n : Nat} {f : Nat → Nat} (hu : P.underlying e = some (.float fk)) (hf : ∀ i, i < n → feq k (f i) (f i) = true) (w : World) :
    ∀ is : List Nat, (∀ i ∈ is, i < n) → (Op.eqItems (d + 1) e 1 (tab n fun i => .float k (f i)).toArray (tab n fun i => .float k (f i)).toArray is).run P w = .ok true w
  | [], _ => by simp [Op.eqItems]
  | i :: is, h => by
    have hi := h i (by simp)
    have hp : (part e (tab n fun i => .float k (f i)).toArray (i * 1)).run P w = .ok (.float k (f i)) w := by
      have hg : (tab n fun i => Value.float k (f i))[i]? = some (.float k (f i)) := tab_get hi
      simp [part, isAgg, run_underlying hu, hg]
    have he : (Op.equalIn (d + 1) e (.float k (f i)) (.float k (f i))).run P w = .ok true w := by
      have := hf i hi
      simp only [Op.equalIn, Sem.run_bind, run_underlying hu, Result.andThen_ok]
      rw [if_pos trivial]
      show Result.ok (Op.floatEq k (f i) (f i)) w = _
      rw [show Op.floatEq k (f i) (f i) = feq k (f i) (f i) from rfl, this]
    simp only [Op.eqItems, Sem.run_bind, hp, he, Result.andThen_ok]
    simpa using items_run hu hf w is fun j hj => h j (by simp [hj])
/-- The type is an array of so many floats, of one or of two kinds of places. -/
def arrF (P : Program) (t : TypeId) (k : Nat) : Bool := match P.underlying t with
  | some (.array n e) => decide (n = k) && (match P.underlying e with | some (.float _) => decide (P.cellsOf e = 1) | _ => false)
  | _ => false
def arrFF (P : Program) (t : TypeId) (k m : Nat) : Bool := match P.underlying t with
  | some (.array n e) => decide (n = k) && decide (P.cellsOf e = m) && arrF P e m
  | _ => false
theorem arrF_run {P : Program} {t : TypeId} {n : Nat} {k : FloatKind} {f : Nat → Nat} {d : Nat} (h : arrF P t n = true) (hf : ∀ i, i < n → feq k (f i) (f i) = true) (w : World) :
    (Op.equalIn (d + 2) t (.agg (tab n fun i => .float k (f i)).toArray) (.agg (tab n fun i => .float k (f i)).toArray)).run P w = .ok true w := by
  unfold arrF at h
  split at h
  · rename_i m e hu
    simp only [Bool.and_eq_true, decide_eq_true_eq] at h
    obtain ⟨rfl, h2⟩ := h
    split at h2
    · rename_i fk hue
      rw [decide_eq_true_eq] at h2
      obtain ⟨i, hi⟩ := info_of_underlying hue
      rw [run_equalIn_array w (d + 1) _ _ hu hi, h2]
      exact items_run hue hf w _ fun j hj => List.mem_range.1 hj
    · cases h2
  · cases h
theorem tab_extract {n o k : Nat} {f : Nat → Value} (h : o + k ≤ n) : (tab n f).toArray.extract o (o + k) = (tab k fun i => f (o + i)).toArray := by
  rw [List.extract_toArray, List.extract_eq_take_drop, Nat.add_sub_cancel_left, tab_part h]
theorem rows_run {P : Program} {d : Nat} {e : TypeId} {k : FloatKind} {n m : Nat} {f : Nat → Nat} (ha : arrF P e m = true) (hc : P.cellsOf e = m) (hf : ∀ i, i < n * m → feq k (f i) (f i) = true) (w : World) :
    ∀ is : List Nat, (∀ i ∈ is, i < n) → (Op.eqItems (d + 2) e m (tab (n * m) fun i => .float k (f i)).toArray (tab (n * m) fun i => .float k (f i)).toArray is).run P w = .ok true w
  | [], _ => by simp [Op.eqItems]
  | i :: is, h => by
    have hi := h i (by simp)
    have hb : i * m + m ≤ n * m := by rw [← Nat.succ_mul]; exact Nat.mul_le_mul_right m hi
    have hp : (part e (tab (n * m) fun i => .float k (f i)).toArray (i * m)).run P w = .ok (.agg (tab m fun q => .float k (f (i * m + q))).toArray) w := by
      have ha' := ha
      unfold arrF at ha'
      split at ha'
      · rename_i m' e' hu
        obtain ⟨inf, hinf⟩ := info_of_underlying hu
        have hs := run_sizeOf w hinf
        rw [hc] at hs
        have hx : (isAgg e).run P w = .ok true w := by
          unfold isAgg
          rw [Sem.run_bind, run_underlying hu]
          rfl
        unfold part
        rw [Sem.run_bind, hx]
        simp only [Result.andThen_ok, if_true]
        rw [Sem.run_bind, hs]
        show Result.ok (Value.agg (Array.extract _ (i * m) (i * m + m))) w = _
        rw [tab_extract hb]
      · cases ha'
    have he := arrF_run (d := d) (k := k) (f := fun q => f (i * m + q)) ha (fun q hq => hf _ (by omega)) w
    simp only [Op.eqItems, Sem.run_bind, hp, he, Result.andThen_ok]
    simpa using rows_run ha hc hf w is fun j hj => h j (by simp [hj])
theorem arrFF_run {P : Program} {t : TypeId} {n m : Nat} {k : FloatKind} {f : Nat → Nat} {d : Nat} (h : arrFF P t n m = true) (hf : ∀ i, i < n * m → feq k (f i) (f i) = true) (w : World) :
    (Op.equalIn (d + 3) t (.agg (tab (n * m) fun i => .float k (f i)).toArray) (.agg (tab (n * m) fun i => .float k (f i)).toArray)).run P w = .ok true w := by
  unfold arrFF at h
  split at h
  · rename_i n' e hu
    simp only [Bool.and_eq_true, decide_eq_true_eq] at h
    obtain ⟨⟨rfl, h2⟩, h3⟩ := h
    have h3' := h3
    unfold arrF at h3'
    split at h3'
    · rename_i m' e' hue
      obtain ⟨i, hi⟩ := info_of_underlying hue
      rw [run_equalIn_array w (d + 2) _ _ hu hi, h2]
      exact rows_run h3 h2 hf w _ fun j hj => List.mem_range.1 hj
    · cases h3'
  · cases h
section
variable {P : Program} {ops l : List Oper} {K : St → Prop} {n d : Nat} {t : Env} {m : Mem} {ty : Nat} {pos : String}
theorem o_neArrFF {xt yt : TypeId} {x y : Operand} {f : Nat → Nat} {fk : FloatKind} {af : _} (hf : ∀ i, i < 4 * 4 → fnan fk (f i) = false) (hx : evalA t x = .agg (tab 16 fun i => .float fk (f i)).toArray := by (conv => (lhs; whnf)); first | done | rfl) (hy : evalA t y = .agg (tab 16 fun i => .float fk (f i)).toArray := by (conv => (lhs; whnf)); first | done | rfl)
    (ht : arrFF P xt 4 4 = true := by decide +kernel) (hg : P.eqGuardType P.depth xt = false := by decide +kernel) (hd : Nat.blt d n = true := by rfl) (h : AOs P ops l K ⟨n, (d, .bool false) :: t, m⟩) :
    AOs P ops (⟨some d, .binOp .neq xt x y yt, ty, pos, af, none⟩ :: l) K ⟨n, t, m⟩ :=
  o_bin hx hy (tab_rigF (n := 4 * 4) hf) (tab_rigF (n := 4 * 4) hf) (fun w => by
    rw [Sem.run_bind, run_eqGuard_agg w .neq xt x y _ _ hg]
    show (binOp .neq xt _ _).run P w = _
    rw [run_neq_struct, show (10000 : Nat) = 9997 + 3 from rfl]
    have := arrFF_run (d := 9997) ht (f := f) (k := fk) (fun i hi => by rw [feq_self, hf i hi]; rfl) w
    rw [show 4 * 4 = 16 from rfl] at this
    rw [this]
    rfl) (fun r => VR.bool r _) hd h
end
end Go.Proofs.Ytjghdagcmombnaa

/- Two streams: three numbers in order. -/
namespace Go.Proofs.Ytjghdagcmombnaa
open Go.RowKit
attribute [local irreducible] AW AOs AO AQ AQW thenA inBlockA postA ACalls Pure
set_option linter.unusedSimpArgs false
set_option linter.unusedVariables false
set_option linter.unusedSectionVars false

end Go.Proofs.Ytjghdagcmombnaa

/- Arithmetic that is told. -/
namespace Go.Proofs.Ytjghdagcmombnaa
open Go.RowKit
set_option linter.unusedSimpArgs false
set_option linter.unusedVariables false

/-! ### Arithmetic that is told -/
structure DivT (k : FloatKind) (a b c : Nat) : Prop where
  e : fdiv k a b = c
structure MulT (k : FloatKind) (a b c : Nat) : Prop where
  e : fmul k a b = c
structure AddT (k : FloatKind) (a b c : Nat) : Prop where
  e : fadd k a b = c
structure SubT (k : FloatKind) (a b c : Nat) : Prop where
  e : fsub k a b = c
section
variable {P : Program} {ops l : List Oper} {K : St → Prop} {n : Nat} {t : Env} {m : Mem} {d ty : Nat} {pos : String} {af : Array Edge}
end
end Go.Proofs.Ytjghdagcmombnaa

/- A byte of a constant string. -/
namespace Go.Proofs.Ytjghdagcmombnaa
open Go.RowKit
attribute [local irreducible] AW AOs AO AQ AQW thenA inBlockA postA ACalls Pure
set_option linter.unusedSimpArgs false
set_option linter.unusedVariables false
set_option linter.unusedSectionVars false

section
variable {P : Program} {ops l : List Oper} {K : St → Prop} {n : Nat} {t : Env} {m : Mem} {d ty : Nat} {pos : String} {af : Array Edge}
end
end Go.Proofs.Ytjghdagcmombnaa

/- Two streams that are merged, one that is split. -/
namespace Go.Proofs.Ytjghdagcmombnaa
open Go.RowKit
attribute [local irreducible] AW AOs AO AQ AQW thenA inBlockA postA ACalls Pure
set_option linter.unusedSimpArgs false
set_option linter.unusedVariables false
set_option linter.unusedSectionVars false

section
end
/-! ### Numbers of which something is so -/
section
variable (fid : FuncId) [FnT Try.prog fid] (Pd : Nat → Bool) (hF : ∀ x M', Pure Try.prog fid [.float .f32 x] M' (.bool (Pd x)))
include hF
end
/-! ### Merging -/
section
variable {a b tk sh s : Nat} (ha : isAm a = true) (hb : isAm b = true) (ht : isAm tk = true) (hs : isSh sh = true)
include ha hb ht hs
end
/-! ### Splitting -/
section
variable {a : Nat} {tk tn : Nat → Nat} (ha : isAm a = true) (ht : ∀ q, q < 4 → isAm (tk q) = true) (hn : ∀ q, q < 4 → isSh (tn q) = true)
include ha ht hn
end
end Go.Proofs.Ytjghdagcmombnaa

/- Merging and splitting: plain facts. -/
namespace Go.Proofs.Ytjghdagcmombnaa
open Go.RowKit
attribute [local irreducible] AW AOs AO AQ AQW thenA inBlockA postA ACalls Pure
set_option linter.unusedSimpArgs false
set_option linter.unusedVariables false
set_option linter.unusedSectionVars false

def cdJ (i : Int) (cd : Nat → Int) (q : Nat) : Int := if q = 0 then i else cd (q - 1)
theorem cdJ_bd {i : Int} {cd : Nat → Int} (hi : 0 ≤ i ∧ i ≤ 255) (hcd : ∀ q, 0 ≤ cd q ∧ cd q ≤ 255) : ∀ q, 0 ≤ cdJ i cd q ∧ cdJ i cd q ≤ 255 := fun q => by
  unfold cdJ; split
  · exact hi
  · exact hcd _
theorem cdJ_cells {i : Int} {cd : Nat → Int} (n : Nat) : tab (1 + n) (fun q => Value.int .u8 (cdJ i cd q)) = [.int .u8 i] ++ tab n fun q => .int .u8 (cd q) := by
  apply List.ext_getElem?
  intro x
  by_cases hx : x < 1 + n
  · rw [tab_get hx]
    cases x with
    | zero => rfl
    | succ x =>
      rw [List.singleton_append, List.getElem?_cons_succ, tab_get (by omega)]
      simp [cdJ]
  · rw [List.getElem?_eq_none (by rw [tab_len]; omega), List.getElem?_eq_none (by simp [tab_len]; omega)]
theorem SlAt.lead {M : Mem} {b n : Nat} {tg : Option Nat} {rw' : Bool} {i : Int} {cd : Nat → Int} (h : M[b]? = some ⟨[.int .u8 i] ++ tab n fun q => .int .u8 (cd q), tg, rw'⟩) : SlAt M (some ⟨b, 0, tg⟩) (1 + n) (tab (1 + n) fun q => .int .u8 (cdJ i cd q)) :=
  fun _ => ⟨b, tg, rw', rfl, by rw [cdJ_cells]; exact h⟩
theorem SlAt.lead0 {M : Mem} {b : Nat} {tg : Option Nat} {rw' : Bool} {i : Int} {cd : Nat → Int} (h : M[b]? = some ⟨[.int .u8 i], tg, rw'⟩) : SlAt M (some ⟨b, 0, tg⟩) 1 (tab 1 fun q => .int .u8 (cdJ i cd q)) :=
  fun _ => ⟨b, tg, rw', rfl, h⟩
/-! ### Merging -/
/-! ### Splitting -/
end Go.Proofs.Ytjghdagcmombnaa
