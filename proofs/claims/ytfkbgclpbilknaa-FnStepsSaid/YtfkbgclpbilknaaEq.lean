/- Equality of a struct of eight truth values and a whole number. No program in sight. -/
import Derived.Test.YtfkbgclpbilknaaOpW
import Derived.DeepKeys
namespace Go.Proofs.Ytfkbgclpbilknaa
open Go.RowKit
attribute [local irreducible] AW AOs AO AQ AQW thenA inBlockA postA ACalls Pure
set_option linter.unusedSimpArgs false
set_option linter.unusedVariables false
set_option linter.unusedSectionVars false

/-- The same slot. -/
def slotEq (b b' : Nat → Bool) (s s' : Int) : Bool := decide ((∀ i : Fin 8, b i.val = b' i.val) ∧ s = s')
def slotV (b : Nat → Bool) (s : Int) : List Value := tab 8 (fun i => .bool (b i)) ++ ([.int .i64 s] : List Value)
def slotL (b : Nat → Bool) (s : Int) : List Lit := [.bool (b 0), .bool (b 1), .bool (b 2), .bool (b 3), .bool (b 4), .bool (b 5), .bool (b 6), .bool (b 7), .int .i64 s]
theorem slotL_eq {b b' : Nat → Bool} {s s' : Int} : slotL b s = slotL b' s' ↔ slotEq b b' s s' = true := by
  unfold slotEq slotL
  simp only [List.cons.injEq, Lit.bool.injEq, Lit.int.injEq, true_and, and_true, decide_eq_true_eq]
  constructor
  · rintro ⟨h0, h1, h2, h3, h4, h5, h6, h7, hs⟩
    refine ⟨fun i => ?_, hs⟩
    match i with
    | ⟨0, _⟩ => exact h0
    | ⟨1, _⟩ => exact h1
    | ⟨2, _⟩ => exact h2
    | ⟨3, _⟩ => exact h3
    | ⟨4, _⟩ => exact h4
    | ⟨5, _⟩ => exact h5
    | ⟨6, _⟩ => exact h6
    | ⟨7, _⟩ => exact h7
  · rintro ⟨h, hs⟩
    exact ⟨h 0, h 1, h 2, h 3, h 4, h 5, h 6, h 7, hs⟩
/-- What the type is: told once. -/
def slotTy (P : Program) (t : TypeId) : Bool :=
  match P.underlying t with
  | some (.struct fs) => match fs.toList with
    | [f1, f2] => decide (f1.offset = 0) && decide (f2.offset = 8) && decide (P.cellsOf t = 9) && decide (P.cellsOf f1.type = 8) && decide (P.cellsOf f2.type = 1) && (fs.all (·.name != "_")) && (match P.underlying f2.type with | some (.int .i64) => true | _ => false) && (match P.underlying f1.type with | some (.array 8 e) => decide (P.cellsOf e = 1) && (match P.underlying e with | some .bool => true | _ => false) | _ => false)
    | _ => false
  | _ => false
theorem slot_lits {P : Program} {t : TypeId} (h : slotTy P t = true) (b : Nat → Bool) (s : Int) (hs : (Lit.int .i64 s).wf = true) : P.keyLits 3 t (slotV b s) = some (slotL b s) := by
  unfold slotTy at h
  split at h
  · rename_i fs hu
    split at h
    · rename_i f1 f2 hf
      simp only [Bool.and_eq_true, decide_eq_true_eq] at h
      obtain ⟨⟨⟨⟨⟨⟨⟨h1, h2⟩, h3⟩, h4⟩, h5⟩, h6⟩, h7⟩, h8⟩ := h
      split at h7
      · rename_i hi
        split at h8
        · rename_i e ha
          simp only [Bool.and_eq_true, decide_eq_true_eq] at h8
          obtain ⟨h9, h10⟩ := h8
          split at h10
          · rename_i hb
            have k2 : P.keyLits 2 f2.type [.int .i64 s] = some [.int .i64 s] := by
              unfold Program.keyLits
              rw [hi]
              exact if_pos ⟨rfl, hs⟩
            have k0 : ∀ x, P.keyLits 1 e [.bool x] = some [.bool x] := fun x => by
              unfold Program.keyLits
              rw [hb]
            have k1 : P.keyLits 2 f1.type [.bool (b 0), .bool (b 1), .bool (b 2), .bool (b 3), .bool (b 4), .bool (b 5), .bool (b 6), .bool (b 7)] = some [.bool (b 0), .bool (b 1), .bool (b 2), .bool (b 3), .bool (b 4), .bool (b 5), .bool (b 6), .bool (b 7)] := by
              unfold Program.keyLits
              rw [ha]
              simp only [h4, h9]
              rw [if_pos (by rfl)]
              have hr : List.range 8 = [0, 1, 2, 3, 4, 5, 6, 7] := rfl
              rw [hr]
              simp [List.mapM_cons, k0]
            show P.keyLits 3 t [.bool (b 0), .bool (b 1), .bool (b 2), .bool (b 3), .bool (b 4), .bool (b 5), .bool (b 6), .bool (b 7), .int .i64 s] = _
            unfold Program.keyLits
            rw [hu]
            simp only [h3, h6, hf]
            rw [if_pos (by exact ⟨rfl, trivial⟩)]
            simp [List.mapM_cons, h1, h2, h4, h5, k1, k2, slotL]
          · cases h10
        · cases h8
      · cases h7
    · cases h
  · cases h
theorem slot_formed {P : Program} {t : TypeId} (h : slotTy P t = true) (b : Nat → Bool) (s : Int) : (Value.agg (slotV b s).toArray).formed P t = true := by
  unfold slotTy at h
  split at h
  · rename_i fs hu
    split at h
    · simp only [Bool.and_eq_true, decide_eq_true_eq] at h
      obtain ⟨⟨⟨⟨⟨⟨⟨h1, h2⟩, h3⟩, h4⟩, h5⟩, h6⟩, h7⟩, h8⟩ := h
      show (match P.underlying t with | some (.struct _) | some (.array _ _) => (slotV b s).toArray.size == P.cellsOf t | _ => false) = true
      rw [hu, h3]
      rfl
    · cases h
  · cases h
theorem rig_flat {xs : List Value} (h : ∀ c ∈ xs, ∀ r y, VR r c y → y = c) : ∀ r y, VR r (.agg xs.toArray) y → y = .agg xs.toArray := fun r y hv => by
  obtain ⟨ys, rfl, hl, hx⟩ := hv.agg_inv
  have : ys = xs := List.ext_getElem? fun i => by
    simp only at hl hx
    by_cases hi : i < xs.length
    · have h1 : xs[i]? = some xs[i] := List.getElem?_eq_getElem hi
      have h2 : ys[i]? = some (ys[i]'(by omega)) := List.getElem?_eq_getElem _
      rw [h1, h2, h _ (List.getElem_mem hi) r _ (hx i _ _ h1 h2)]
    · rw [List.getElem?_eq_none (by omega), List.getElem?_eq_none (by omega)]
  rw [this]
theorem rig_slot (b : Nat → Bool) (s : Int) : ∀ r y, VR r (.agg (slotV b s).toArray) y → y = .agg (slotV b s).toArray :=
  rig_flat fun c hc => by
    rcases List.mem_append.1 hc with h | h
    · obtain ⟨i, _, rfl⟩ := List.mem_map.1 h
      exact rig_bool _
    · rw [List.mem_singleton.1 h]; exact rig_int _ _
theorem slot_run {P : Program} {t : TypeId} (h : slotTy P t = true) (hk : P.keyTypeAt 3 t = true) (b b' : Nat → Bool) (s s' : Int) (hs : (Lit.int .i64 s).wf = true) (hs' : (Lit.int .i64 s').wf = true) (w : World) :
    (Op.equalIn 10000 t (.agg (slotV b s).toArray) (.agg (slotV b' s').toArray)).run P w = .ok (slotEq b b' s s') w := by
  obtain ⟨r, h1, h2⟩ := run_equalIn_deep 9997 3 t hk w 3 3 (.agg (slotV b s).toArray) (.agg (slotV b' s').toArray) (slotL b s) (slotL b' s') (slot_formed h b s) (slot_formed h b' s') (slot_lits h b s hs) (slot_lits h b' s' hs')
  have e : r = slotEq b b' s s' := Bool.eq_iff_iff.2 (h2.trans slotL_eq)
  rw [← e]; exact h1
section
variable {P : Program} {ops l : List Oper} {K : St → Prop} {n d : Nat} {t : Env} {m : Mem} {ty : Nat} {pos : String}
theorem o_neSlot {xt yt : TypeId} {x y : Operand} {b b' : Nat → Bool} {s s' : Int} {af : _} (hx : evalA t x = .agg (slotV b s).toArray) (hy : evalA t y = .agg (slotV b' s').toArray) (hs : (Lit.int .i64 s).wf = true) (hs' : (Lit.int .i64 s').wf = true)
    (ht : slotTy P xt = true) (hk : P.keyTypeAt 3 xt = true) (hg : P.eqGuardType P.depth xt = false) (hd : Nat.blt d n = true) (h : AOs P ops l K ⟨n, (d, .bool (!(slotEq b b' s s'))) :: t, m⟩) :
    AOs P ops (⟨some d, .binOp .neq xt x y yt, ty, pos, af, none⟩ :: l) K ⟨n, t, m⟩ :=
  o_bin hx hy (rig_slot b s) (rig_slot b' s') (fun w => by
    rw [Sem.run_bind, run_eqGuard_agg w .neq xt x y _ _ hg]
    show (binOp .neq xt (.agg (slotV b s).toArray) (.agg (slotV b' s').toArray)).run P w = _
    rw [run_neq_struct, slot_run ht hk b b' s s' hs hs' w]
    rfl) (fun r => VR.bool r _) hd h
theorem o_neSlotE {xt yt : TypeId} {x y : Operand} {b b' : Nat → Bool} {s s' : Int} {nr : Bool} {af : _} (hr : slotEq b b' s s' = !nr) (hs : (Lit.int .i64 s).wf = true) (hs' : (Lit.int .i64 s').wf = true) (hx : evalA t x = .agg (slotV b s).toArray := by (conv => (lhs; whnf)); first | done | rfl) (hy : evalA t y = .agg (slotV b' s').toArray := by (conv => (lhs; whnf)); first | done | rfl)
    (ht : slotTy P xt = true := by decide +kernel) (hk : P.keyTypeAt 3 xt = true := by decide +kernel) (hg : P.eqGuardType P.depth xt = false := by decide +kernel) (hd : Nat.blt d n = true := by rfl) (h : AOs P ops l K ⟨n, (d, .bool nr) :: t, m⟩) :
    AOs P ops (⟨some d, .binOp .neq xt x y yt, ty, pos, af, none⟩ :: l) K ⟨n, t, m⟩ :=
  o_neSlot hx hy hs hs' ht hk hg hd (by rw [hr, Bool.not_not]; exact h)
end
end Go.Proofs.Ytfkbgclpbilknaa
