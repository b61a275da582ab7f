/- Equality of an array of floats with itself. No program in sight. -/
import Derived.Test.YtfkbgclpbilknaaEq
namespace Go.Proofs.Ytfkbgclpbilknaa
open Go.RowKit
attribute [local irreducible] AW AOs AO AQ AQW thenA inBlockA postA ACalls Pure
set_option linter.unusedSimpArgs false
set_option linter.unusedVariables false
set_option linter.unusedSectionVars false

/-- The type is an array of so many floats. -/
def arrF (P : Program) (t : TypeId) (k : Nat) : Bool := match P.underlying t with
  | some (.array n e) => decide (n = k) && (match P.underlying e with | some (.float _) => decide (P.cellsOf e = 1) | _ => false)
  | _ => false
theorem rig_float {k : FloatKind} {a : Nat} (h : fnan k a = false) : ∀ r y, VR r (.float k a) y → y = .float k a := fun r y hv => by
  obtain ⟨b, rfl, hc, _⟩ := hv.float_inv
  have h2 : fnan k b = false := by rw [← fnan_cf, hc]; exact h
  rw [cf_of_not h2] at hc
  rw [hc]
theorem items_run {P : Program} {d : Nat} {e : TypeId} {fk k : FloatKind} {n : Nat} {f : Nat → Nat} (hu : P.underlying e = some (.float fk)) (hf : ∀ i, i < n → feq k (f i) (f i) = true) (w : World) :
    ∀ is : List Nat, (∀ i ∈ is, i < n) → (Op.eqItems (d + 1) e 1 (tab n fun i => .float k (f i)).toArray (tab n fun i => .float k (f i)).toArray is).run P w = .ok true w
  | [], _ => by simp [Op.eqItems]
  | i :: is, h => by
    have hi := h i (by simp)
    have hp : (part e (tab n fun i => .float k (f i)).toArray (i * 1)).run P w = .ok (.float k (f i)) w := by
      have hg : (tab n fun i => Value.float k (f i))[i]? = some (.float k (f i)) := tab_get hi
      simp [part, isAgg, run_underlying hu, hg]
    have he : (Op.equalIn (d + 1) e (.float k (f i)) (.float k (f i))).run P w = .ok true w := by
      have := hf i hi
      simp only [Op.equalIn, Sem.run_bind, run_underlying hu, Result.andThen_ok]
      rw [if_pos trivial]
      show Result.ok (Op.floatEq k (f i) (f i)) w = _
      rw [show Op.floatEq k (f i) (f i) = feq k (f i) (f i) from rfl, this]
    simp only [Op.eqItems, Sem.run_bind, hp, he, Result.andThen_ok]
    simpa using items_run hu hf w is fun j hj => h j (by simp [hj])
theorem arrF_run {P : Program} {t : TypeId} {n : Nat} {k : FloatKind} {f : Nat → Nat} (h : arrF P t n = true) (hf : ∀ i, i < n → feq k (f i) (f i) = true) (w : World) :
    (Op.equalIn 10000 t (.agg (tab n fun i => .float k (f i)).toArray) (.agg (tab n fun i => .float k (f i)).toArray)).run P w = .ok true w := by
  unfold arrF at h
  split at h
  · rename_i m e hu
    simp only [Bool.and_eq_true, decide_eq_true_eq] at h
    obtain ⟨rfl, h2⟩ := h
    split at h2
    · rename_i fk hue
      rw [decide_eq_true_eq] at h2
      obtain ⟨i, hi⟩ := info_of_underlying hue
      rw [show (10000 : Nat) = 9999 + 1 from rfl, run_equalIn_array w 9999 _ _ hu hi, h2]
      exact items_run hue hf w _ fun j hj => List.mem_range.1 hj
    · cases h2
  · cases h
theorem tab_rigF {n : Nat} {k : FloatKind} {f : Nat → Nat} (hf : ∀ i, i < n → fnan k (f i) = false) : ∀ r y, VR r (.agg (tab n fun i => Value.float k (f i)).toArray) y → y = .agg (tab n fun i => Value.float k (f i)).toArray :=
  rig_flat fun c hc => by
    obtain ⟨i, hi, rfl⟩ := List.mem_map.1 hc
    exact rig_float (hf i (List.mem_range.1 hi))
section
variable {P : Program} {ops l : List Oper} {K : St → Prop} {n d : Nat} {t : Env} {m : Mem} {ty : Nat} {pos : String}
theorem o_neArrF {xt yt : TypeId} {x y : Operand} {f : Nat → Nat} {k : Nat} {fk : FloatKind} {af : _} (hf : ∀ i, i < k → fnan fk (f i) = false) (hx : evalA t x = .agg (tab k fun i => .float fk (f i)).toArray := by (conv => (lhs; whnf)); first | done | rfl) (hy : evalA t y = .agg (tab k fun i => .float fk (f i)).toArray := by (conv => (lhs; whnf)); first | done | rfl)
    (ht : arrF P xt k = true := by decide +kernel) (hg : P.eqGuardType P.depth xt = false := by decide +kernel) (hd : Nat.blt d n = true := by rfl) (h : AOs P ops l K ⟨n, (d, .bool false) :: t, m⟩) :
    AOs P ops (⟨some d, .binOp .neq xt x y yt, ty, pos, af, none⟩ :: l) K ⟨n, t, m⟩ :=
  o_bin hx hy (tab_rigF hf) (tab_rigF hf) (fun w => by
    rw [Sem.run_bind, run_eqGuard_agg w .neq xt x y _ _ hg]
    show (binOp .neq xt _ _).run P w = _
    rw [run_neq_struct, arrF_run ht (fun i hi => by rw [feq_self, hf i hi]; rfl) w]
    rfl) (fun r => VR.bool r _) hd h
end
end Go.Proofs.Ytfkbgclpbilknaa
