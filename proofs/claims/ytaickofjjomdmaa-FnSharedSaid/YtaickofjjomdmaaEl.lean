/- Equality of a struct of two whole numbers and a truth value with itself. No program in sight. -/
import Derived.Test.YtaickofjjomdmaaEa
namespace Go.Proofs.Ytaickofjjomdmaa
open Go.RowKit
attribute [local irreducible] AW AOs AO AQ AQW thenA inBlockA postA ACalls Pure
set_option linter.unusedSimpArgs false

def lightTy (P : Program) (t : TypeId) : Bool :=
  match P.underlying t with
  | some (.struct fs) => match fs.toList with
    | [f1, f2, f3] => decide (f1.offset = 0) && decide (f2.offset = 1) && decide (f3.offset = 2) && decide (P.cellsOf t = 3) && decide (P.cellsOf f1.type = 1) && decide (P.cellsOf f2.type = 1) && decide (P.cellsOf f3.type = 1) && (fs.all (·.name != "_")) && (match P.underlying f1.type with | some (.int .i64) => true | _ => false) && (match P.underlying f2.type with | some (.int .i64) => true | _ => false) && (match P.underlying f3.type with | some .bool => true | _ => false)
    | _ => false
  | _ => false
abbrev lightL (s i : Int) (r : Bool) : List Value := [.int .i64 s, .int .i64 i, .bool r]
theorem light_lits {P : Program} {t : TypeId} (h : lightTy P t = true) (s i : Int) (r : Bool) (hs : (Lit.int .i64 s).wf = true) (hi : (Lit.int .i64 i).wf = true) : P.keyLits 3 t (lightL s i r) = some [.int .i64 s, .int .i64 i, .bool r] := by
  unfold lightTy at h
  split at h
  · rename_i fs hu
    split at h
    · rename_i f1 f2 f3 hf
      simp only [Bool.and_eq_true, decide_eq_true_eq] at h
      obtain ⟨⟨⟨⟨⟨⟨⟨⟨⟨⟨h1, h2⟩, h3⟩, h4⟩, h5⟩, h6⟩, h7⟩, h8⟩, h9⟩, h10⟩, h11⟩ := h
      split at h9
      · rename_i e1
        split at h10
        · rename_i e2
          split at h11
          · rename_i e3
            have k1 : P.keyLits 2 f1.type [.int .i64 s] = some [.int .i64 s] := by
              unfold Program.keyLits
              rw [e1]
              exact if_pos ⟨rfl, hs⟩
            have k2 : P.keyLits 2 f2.type [.int .i64 i] = some [.int .i64 i] := by
              unfold Program.keyLits
              rw [e2]
              exact if_pos ⟨rfl, hi⟩
            have k3 : P.keyLits 2 f3.type [.bool r] = some [.bool r] := by
              unfold Program.keyLits
              rw [e3]
            unfold Program.keyLits
            rw [hu]
            simp only [h4, h8, hf]
            rw [if_pos (by exact ⟨rfl, trivial⟩)]
            simp [List.mapM_cons, h1, h2, h3, h5, h6, h7, k1, k2, k3]
          · cases h11
        · cases h10
      · cases h9
    · cases h
  · cases h
theorem light_formed {P : Program} {t : TypeId} (h : lightTy P t = true) (s i : Int) (r : Bool) : (Value.agg (lightL s i r).toArray).formed P t = true := by
  unfold lightTy at h
  split at h
  · rename_i fs hu
    split at h
    · simp only [Bool.and_eq_true, decide_eq_true_eq] at h
      show (match P.underlying t with | some (.struct _) | some (.array _ _) => (lightL s i r).toArray.size == P.cellsOf t | _ => false) = true
      rw [hu, h.1.1.1.1.1.1.1.2]
      rfl
    · cases h
  · cases h
theorem rig_light (s i : Int) (r : Bool) : ∀ r' y, VR r' (.agg (lightL s i r).toArray) y → y = .agg (lightL s i r).toArray :=
  rig_flat fun c hc => by
    simp only [lightL, List.mem_cons, List.not_mem_nil, or_false] at hc
    rcases hc with rfl | rfl | rfl
    · exact rig_int _ _
    · exact rig_int _ _
    · exact rig_bool _
theorem light_run {P : Program} {t : TypeId} (h : lightTy P t = true) (hk : P.keyTypeAt 3 t = true) (s i : Int) (r : Bool) (hs : (Lit.int .i64 s).wf = true) (hi : (Lit.int .i64 i).wf = true) (w : World) :
    (Op.equalIn 10000 t (.agg (lightL s i r).toArray) (.agg (lightL s i r).toArray)).run P w = .ok true w := by
  obtain ⟨x, h1, h2⟩ := run_equalIn_deep 9997 3 t hk w 3 3 (.agg (lightL s i r).toArray) (.agg (lightL s i r).toArray) _ _ (light_formed h s i r) (light_formed h s i r) (light_lits h s i r hs hi) (light_lits h s i r hs hi)
  have e : x = true := h2.2 rfl
  rw [← e]; exact h1
section
variable {P : Program} {ops l : List Oper} {K : St → Prop} {n d : Nat} {t : Env} {m : Mem} {ty : Nat} {pos : String}
theorem o_neLight {xt yt : TypeId} {x y : Operand} {s i : Int} {r : Bool} {af : _} (hx : evalA t x = .agg (lightL s i r).toArray := by (conv => (lhs; whnf)); first | done | rfl) (hy : evalA t y = .agg (lightL s i r).toArray := by (conv => (lhs; whnf)); first | done | rfl) (hs : (Lit.int .i64 s).wf = true := by assumption) (hi : (Lit.int .i64 i).wf = true := by assumption)
    (ht : lightTy P xt = true := by decide +kernel) (hk : P.keyTypeAt 3 xt = true := by decide +kernel) (hg : P.eqGuardType P.depth xt = false := by decide +kernel) (hd : Nat.blt d n = true := by rfl) (h : AOs P ops l K ⟨n, (d, .bool false) :: t, m⟩) :
    AOs P ops (⟨some d, .binOp .neq xt x y yt, ty, pos, af, none⟩ :: l) K ⟨n, t, m⟩ :=
  o_bin hx hy (rig_light s i r) (rig_light s i r) (fun w => by
    rw [Sem.run_bind, run_eqGuard_agg w .neq xt x y _ _ hg]
    show (binOp .neq xt (.agg (lightL s i r).toArray) (.agg (lightL s i r).toArray)).run P w = _
    rw [run_neq_struct, light_run ht hk s i r hs hi w]
    rfl) (fun r => VR.bool r _) hd h
end
end Go.Proofs.Ytaickofjjomdmaa
