/- Numbers, phases and movements that are drawn from bytes. -/
import Derived.Test.YtddmclkijheicaaDoorB1
import Derived.Test.YtddmclkijheicaaDoorMu
namespace Go.Proofs.YtddmclkijheicaaDoor
open Go.RowKit
attribute [local irreducible] AW AOs AO AQ AQW thenA inBlockA postA ACalls Pure
set_option linter.unusedSimpArgs false
set_option linter.unusedVariables false
set_option linter.unusedSectionVars false

/-- The source of choices: how many bytes are read, and the seed. -/
abbrev DS := Nat × Int
def byteAt (n : Nat) (cd : Nat → Int) (i : Nat) : Int := if i < n then cd i else 0
def nxS (n : Nat) (cd : Nat → Int) (s : DS) : DS := (s.1 + 1, IntKind.u64.wrap (IntKind.u64.wrap (IntKind.u64.wrap (s.2 * 6364136223846793005) + byteAt n cd s.1) + 1442695040888963407))
def nxV (n : Nat) (cd : Nat → Int) (s : DS) : Int := if s.1 + 1 ≤ n then byteAt n cd s.1 else bits .and .u64 ((nxS n cd s).2.fdiv (2 ^ min (40 : Int).toNat IntKind.u64.bits)) 255
def pkV (n : Nat) (cd : Nat → Int) (s : DS) (m : Int) : Int := if m ≤ 1 then 0 else nxV n cd s % m
def pkS (n : Nat) (cd : Nat → Int) (s : DS) (m : Int) : DS := if m ≤ 1 then s else nxS n cd s
theorem and255 (x : Int) : 0 ≤ bits .and .u64 x 255 ∧ bits .and .u64 x 255 ≤ 255 := by
  have e : bits .and .u64 x 255 = IntKind.u64.wrap ((BitVec.ofInt 64 x &&& BitVec.ofInt 64 255).toNat : Int) := rfl
  have h : (BitVec.ofInt 64 x &&& BitVec.ofInt 64 255).toNat ≤ 255 := by
    rw [BitVec.toNat_and]
    exact Nat.and_le_right
  rw [e, wrap_fits (k := .u64) ⟨by omega, by omega⟩]
  omega
theorem and255w (x : Int) : IntKind.i64.wrap (bits .and .u64 x 255) = bits .and .u64 x 255 := by
  have h := and255 x
  exact wrap_fits (k := .i64) ⟨by omega, by omega⟩
theorem nxV_bd {n : Nat} {cd : Nat → Int} (hcd : ∀ q, 0 ≤ cd q ∧ cd q ≤ 255) (s : DS) : 0 ≤ nxV n cd s ∧ nxV n cd s ≤ 255 := by
  unfold nxV
  split
  · unfold byteAt
    split
    · exact hcd _
    · exact ⟨by decide, by decide⟩
  · exact and255 _
theorem pkV_bd {n : Nat} {cd : Nat → Int} (s : DS) {m : Int} (hm : 1 ≤ m) : 0 ≤ pkV n cd s m ∧ pkV n cd s m < m := by
  unfold pkV
  split
  · omega
  · exact ⟨Int.emod_nonneg _ (by omega), Int.emod_lt_of_pos _ (by omega)⟩
theorem pkS_at (n : Nat) (cd : Nat → Int) (s : DS) (m : Int) : (pkS n cd s m).1 ≤ s.1 + 1 := by
  unfold pkS
  split
  · omega
  · exact Nat.le_refl _

abbrev srcB (a : Option Addr) (n cp : Nat) (s : DS) : Blk := ⟨[.slice a n cp, .int .i64 (s.1 : Int), .int .u64 s.2], none, true⟩
theorem src_same {M : Mem} {a : Option Addr} {n cp j : Nat} {s : DS} {cd : Nat → Int} {B : Blk} (hb : M[j]? = some (srcB a n cp s)) (hS : SlAt M a n (tab n fun q => .int .u8 (cd q))) : SlAt (M.set j B) a n (tab n fun q => .int .u8 (cd q)) := fun hn => by
  obtain ⟨b, tg, rw', ha, hbb⟩ := hS hn
  refine ⟨b, tg, rw', ha, ?_⟩
  rw [List.getElem?_set]
  by_cases e : j = b
  · subst e
    rw [hb] at hbb
    obtain ⟨m, rfl⟩ : ∃ m, n = m + 1 := ⟨n - 1, by omega⟩
    simp [tab, List.range_succ_eq_map] at hbb
  · rw [if_neg e]; exact hbb
theorem src_closed {M : Mem} {a : Option Addr} {n cp j : Nat} {s s' : DS} (hb : M[j]? = some (srcB a n cp s)) (hM : Closed M.length M) : Closed (M.set j (srcB a n cp s')).length (M.set j (srcB a n cp s')) := by
  rw [List.length_set]
  intro x hx c hc
  rcases List.mem_or_eq_of_mem_set hx with hx | rfl
  · exact hM x hx c hc
  · simp only [List.mem_cons, List.not_mem_nil, or_false] at hc
    rcases hc with rfl | rfl | rfl
    · exact hM _ (List.mem_of_getElem? hb) _ (by simp)
    · exact Bel.flat (Flat.int _ _)
    · exact Bel.flat (Flat.int _ _)

section
variable (a : Option Addr) (n cp : Nat) (cd : Nat → Int)
/-! ### Phases -/
def phS (s : DS) : Nat → DS
  | 0 => s
  | i + 1 => pkS n cd (phS s i) 3
def phV (s : DS) (i : Nat) : Bool := decide (pkV n cd (phS n cd s i) 3 = 0)
theorem phS_at (s : DS) : ∀ i, (phS n cd s i).1 ≤ s.1 + i
  | 0 => Nat.le_refl _
  | i + 1 => by
    have h1 := phS_at s i
    have h2 := pkS_at n cd (phS n cd s i) 3
    show (pkS n cd (phS n cd s i) 3).1 ≤ _
    omega
end
end Go.Proofs.YtddmclkijheicaaDoor
