/- Equality of an array of truth values with itself. No program in sight. -/
import Derived.Test.YtaickofjjomdmaaEq
namespace Go.Proofs.Ytaickofjjomdmaa
open Go.RowKit
attribute [local irreducible] AW AOs AO AQ AQW thenA inBlockA postA ACalls Pure
set_option linter.unusedSimpArgs false

/-- The type is made of so many truth values. -/
def arrB (P : Program) : Nat → TypeId → Nat → Bool
  | 0, _, _ => false
  | d + 1, t, k => match P.underlying t with
    | some .bool => decide (k = 1)
    | some (.array n e) => decide (P.cellsOf t = k) && (decide (n * P.cellsOf e = k) && arrB P d e (P.cellsOf e))
    | _ => false
theorem mapM_some {α β : Type} {f : α → Option β} : ∀ {l : List α}, (∀ i ∈ l, ∃ y, f i = some y) → ∃ ys, l.mapM f = some ys
  | [], _ => ⟨[], rfl⟩
  | x :: l, h => by
    obtain ⟨y, hy⟩ := h x (by simp)
    obtain ⟨ys, hys⟩ := mapM_some (l := l) fun i hi => h i (by simp [hi])
    exact ⟨y :: ys, by simp [List.mapM_cons, hy, hys]⟩
theorem arrB_lits {P : Program} : ∀ {d : Nat} {t : TypeId} {k : Nat} {cs : List Value}, arrB P d t k = true → cs.length = k → (∀ c ∈ cs, ∃ b, c = .bool b) → ∃ L, P.keyLits d t cs = some L
  | 0, _, _, _, h, _, _ => by simp [arrB] at h
  | d + 1, t, k, cs, h, hl, hb => by
    unfold arrB at h
    unfold Program.keyLits
    split at h
    · rename_i hu
      rw [decide_eq_true_eq] at h
      subst h
      obtain ⟨c, rfl⟩ : ∃ c, cs = [c] := by
        match cs, hl with
        | [c], _ => exact ⟨c, rfl⟩
      obtain ⟨b, rfl⟩ := hb c (by simp)
      rw [hu]
      exact ⟨_, rfl⟩
    · rename_i n e hu
      simp only [Bool.and_eq_true, decide_eq_true_eq] at h
      obtain ⟨h1, h2, h3⟩ := h
      rw [hu]
      simp only
      rw [if_pos (by rw [hl, h1])]
      obtain ⟨ys, hys⟩ := mapM_some (l := List.range n) (f := fun i => P.keyLits d e ((cs.drop (i * P.cellsOf e)).take (P.cellsOf e))) fun i hi => by
        have hin := List.mem_range.1 hi
        refine arrB_lits h3 ?_ fun c hc => hb c (List.mem_of_mem_drop (List.mem_of_mem_take hc))
        have : i * P.cellsOf e + P.cellsOf e ≤ n * P.cellsOf e := by
          have := Nat.mul_le_mul_right (P.cellsOf e) (show i + 1 ≤ n by omega)
          rwa [Nat.add_mul, Nat.one_mul] at this
        rw [List.length_take, List.length_drop]; omega
      exact ⟨ys.flatten, by rw [hys]; rfl⟩
    · cases h
theorem arr_formed {P : Program} {d : Nat} {t : TypeId} {k : Nat} {cs : List Value} (h : arrB P d t k = true) (hk : k ≠ 1) (hl : cs.length = k) : (Value.agg cs.toArray).formed P t = true := by
  cases d with
  | zero => simp [arrB] at h
  | succ d =>
    unfold arrB at h
    split at h
    · rw [decide_eq_true_eq] at h; exact (hk h).elim
    · rename_i n e hu
      simp only [Bool.and_eq_true, decide_eq_true_eq] at h
      show (match P.underlying t with | some (.struct _) | some (.array _ _) => cs.toArray.size == P.cellsOf t | _ => false) = true
      rw [hu]
      simp [hl, h.1]
    · cases h
theorem rig_bools {cs : List Value} (hb : ∀ c ∈ cs, ∃ b, c = .bool b) : ∀ r y, VR r (.agg cs.toArray) y → y = .agg cs.toArray :=
  rig_flat fun c hc => by obtain ⟨b, rfl⟩ := hb c hc; exact rig_bool _
theorem arr_run {P : Program} {t : TypeId} {k : Nat} {cs : List Value} (h : arrB P 3 t k = true) (h1 : k ≠ 1) (hk : P.keyTypeAt 3 t = true) (hl : cs.length = k) (hb : ∀ c ∈ cs, ∃ b, c = .bool b) (w : World) :
    (Op.equalIn 10000 t (.agg cs.toArray) (.agg cs.toArray)).run P w = .ok true w := by
  obtain ⟨L, hL⟩ := arrB_lits h hl hb
  obtain ⟨r, h2, h3⟩ := run_equalIn_deep 9997 3 t hk w 3 3 (.agg cs.toArray) (.agg cs.toArray) L L (arr_formed h h1 hl) (arr_formed h h1 hl) hL hL
  have e : r = true := h3.2 rfl
  rw [← e]; exact h2
theorem tab_bools {n : Nat} {p : Nat → Bool} : ∀ c ∈ tab n (fun i => Value.bool (p i)), ∃ b, c = .bool b := fun c hc => by
  obtain ⟨i, _, rfl⟩ := List.mem_map.1 hc
  exact ⟨_, rfl⟩
section
variable {P : Program} {ops l : List Oper} {K : St → Prop} {n d : Nat} {t : Env} {m : Mem} {ty : Nat} {pos : String}
theorem o_neArr {xt yt : TypeId} {x y : Operand} {p : Nat → Bool} {k : Nat} {af : _} (hx : evalA t x = .agg (tab k fun i => .bool (p i)).toArray := by (conv => (lhs; whnf)); first | done | rfl) (hy : evalA t y = .agg (tab k fun i => .bool (p i)).toArray := by (conv => (lhs; whnf)); first | done | rfl)
    (ht : arrB P 3 xt k = true := by decide +kernel) (h1 : k ≠ 1 := by decide) (hk : P.keyTypeAt 3 xt = true := by decide +kernel) (hg : P.eqGuardType P.depth xt = false := by decide +kernel) (hd : Nat.blt d n = true := by rfl) (h : AOs P ops l K ⟨n, (d, .bool false) :: t, m⟩) :
    AOs P ops (⟨some d, .binOp .neq xt x y yt, ty, pos, af, none⟩ :: l) K ⟨n, t, m⟩ :=
  o_bin hx hy (rig_bools tab_bools) (rig_bools tab_bools) (fun w => by
    rw [Sem.run_bind, run_eqGuard_agg w .neq xt x y _ _ hg]
    show (binOp .neq xt _ _).run P w = _
    rw [run_neq_struct, arr_run ht h1 hk (tab_len _ _) tab_bools w]
    rfl) (fun r => VR.bool r _) hd h
theorem o_eqArr {xt yt : TypeId} {x y : Operand} {p : Nat → Bool} {k : Nat} {af : _} (hx : evalA t x = .agg (tab k fun i => .bool (p i)).toArray := by (conv => (lhs; whnf)); first | done | rfl) (hy : evalA t y = .agg (tab k fun i => .bool (p i)).toArray := by (conv => (lhs; whnf)); first | done | rfl)
    (ht : arrB P 3 xt k = true := by decide +kernel) (h1 : k ≠ 1 := by decide) (hk : P.keyTypeAt 3 xt = true := by decide +kernel) (hg : P.eqGuardType P.depth xt = false := by decide +kernel) (hd : Nat.blt d n = true := by rfl) (h : AOs P ops l K ⟨n, (d, .bool true) :: t, m⟩) :
    AOs P ops (⟨some d, .binOp .eql xt x y yt, ty, pos, af, none⟩ :: l) K ⟨n, t, m⟩ :=
  o_bin hx hy (rig_bools tab_bools) (rig_bools tab_bools) (fun w => by
    rw [Sem.run_bind, run_eqGuard_agg w .eql xt x y _ _ hg]
    show (binOp .eql xt _ _).run P w = _
    rw [run_eql_struct, arr_run ht h1 hk (tab_len _ _) tab_bools w]
    rfl) (fun r => VR.bool r _) hd h
end
end Go.Proofs.Ytaickofjjomdmaa
