/- Texts of plans. -/
import Derived.Test.YtddmclkijheicaaGreatDoorHx
import Derived.Test.YtddmclkijheicaaGreatDoorPl2
import Derived.Lib.ItoaLen
import Derived.Test.YtddmclkijheicaaGreatDoorAf
import Derived.Test.YtddmclkijheicaaGreatDoorJv

namespace Go.Proofs.YtddmclkijheicaaGreatDoor
open Go.RowKit
attribute [local irreducible] AW AOs AO AQ AQW thenA inBlockA postA ACalls Pure
set_option linter.unusedSimpArgs false
set_option linter.unusedVariables false
set_option linter.unusedSectionVars false

end Go.Proofs.YtddmclkijheicaaGreatDoor

/- Open regions: each block has a course of its own; places are kept for blocks to come. No program in sight. -/
namespace Go.Proofs.YtddmclkijheicaaGreatDoor
open Go.RowKit
set_option linter.unusedSimpArgs false
set_option linter.unusedVariables false

/-- What a course has come to where the operations S have come. -/
def crs {α : Type} : List (Nat × α) → α → (Nat → Bool) → α
  | [], b, _ => b
  | (p, m) :: ps, b, S => bif S p then crs ps m S else b
def noFirst : List Kn → Prop
  | [] => True
  | k :: _ => k = .no
def obC {α : Type} : List Kn → List (Nat × α) → α → (α → α → Prop) → Prop
  | k :: ks, (_, m) :: ps, m0, f => match k with
    | .yes => obC ks ps m f
    | .no => f m0 m0
    | .free => f m0 m0 ∧ obC ks ps m f
    | .self => noFirst ks ∧ f m0 m
  | [], [], m0, f => f m0 m0
  | _, _, _, _ => False
theorem obC.at {α : Type} {ops : List Oper} {i : Nat} {S : Nat → Bool} (h1 : ∀ q, q ∈ (pres ops).getD i [] → S q = true) (h2 : ∀ q, i ∈ (pres ops).getD q [] → S q = false) (h3 : S i = false) :
    ∀ {ps : List (Nat × α)} {ks : List Kn} {m0 : α} {f : α → α → Prop}, ps.map (fun x => knW ops x.1 i) = ks → obC ks ps m0 f → f (crs ps m0 S) (crs ps m0 (withI S i))
  | [], ks, m0, f, hk, h => by
    subst hk; exact h
  | (p, m) :: ps, ks, m0, f, hk, h => by
    subst hk
    simp only [List.map_cons, obC] at h
    simp only [crs]
    cases hkn : knW ops p i with
    | yes =>
      rw [hkn] at h
      obtain ⟨ha, hb⟩ := ObK.at (ops := ops) (p := p) (i := i) (S := S) (f := fun b => b = true) (by rw [hkn]; exact rfl) h1 h2 h3
      rw [hkn] at hb
      rw [hb, ha]
      exact obC.at h1 h2 h3 rfl h
    | no =>
      rw [hkn] at h
      obtain ⟨ha, hb⟩ := ObK.at (ops := ops) (p := p) (i := i) (S := S) (f := fun b => b = false) (by rw [hkn]; exact rfl) h1 h2 h3
      rw [hkn] at hb
      rw [hb, ha]
      exact h
    | free =>
      rw [hkn] at h
      obtain ⟨ha, hb⟩ := ObK.at (ops := ops) (p := p) (i := i) (S := S) (f := fun _ => True) (by rw [hkn]; exact ⟨trivial, trivial⟩) h1 h2 h3
      rw [hkn] at hb
      rw [hb]
      show f (bif S p then _ else _) (bif S p then _ else _)
      cases S p
      · exact h.1
      · exact obC.at h1 h2 h3 rfl h.2
    | self =>
      rw [hkn] at h
      obtain ⟨ha, hb⟩ := ObK.at (ops := ops) (p := p) (i := i) (S := S) (f := fun b => b = false) (by rw [hkn]; exact rfl) h1 h2 h3
      rw [hkn] at hb
      rw [hb, ha]
      have hm : crs ps m (withI S i) = m := by
        cases ps with
        | nil => rfl
        | cons x ps =>
          have hno : knW ops x.1 i = .no := h.1
          obtain ⟨hc, hd⟩ := ObK.at (ops := ops) (p := x.1) (i := i) (S := S) (f := fun b => b = false) (by rw [hno]; exact rfl) h1 h2 h3
          rw [hno] at hd
          show (bif withI S i x.1 then _ else m) = m
          rw [hd]
          show (bif S x.1 then _ else m) = m
          rw [hc]; rfl
      show f m0 (crs ps m (withI S i))
      rw [hm]
      exact h.2
/-- Several courses side by side. -/
def obT : List (List Kn) → List (Blk × List (Nat × Blk)) → (List Blk → List Blk → Prop) → Prop
  | ks :: kss, tl :: tls, f => obC ks tl.2 tl.1 fun x y => obT kss tls fun xs ys => f (x :: xs) (y :: ys)
  | [], [], f => f [] []
  | _, _, _ => False
theorem obT.at {ops : List Oper} {i : Nat} {S : Nat → Bool} (h1 : ∀ q, q ∈ (pres ops).getD i [] → S q = true) (h2 : ∀ q, i ∈ (pres ops).getD q [] → S q = false) (h3 : S i = false) :
    ∀ {tls : List (Blk × List (Nat × Blk))} {kss : List (List Kn)} {f : List Blk → List Blk → Prop}, tls.map (fun tl => tl.2.map fun x => knW ops x.1 i) = kss → obT kss tls f →
      f (tls.map fun tl => crs tl.2 tl.1 S) (tls.map fun tl => crs tl.2 tl.1 (withI S i))
  | [], kss, f, hk, h => by subst hk; exact h
  | tl :: tls, kss, f, hk, h => by
    subst hk
    have h0 : obC (tl.2.map fun x => knW ops x.1 i) tl.2 tl.1 fun x y => obT (tls.map fun tl => tl.2.map fun x => knW ops x.1 i) tls fun xs ys => f (x :: xs) (y :: ys) := h
    have h' := obC.at (f := fun x y => obT (tls.map fun tl => tl.2.map fun x => knW ops x.1 i) tls fun xs ys => f (x :: xs) (y :: ys)) h1 h2 h3 rfl h0
    exact obT.at (f := fun xs ys => f (crs tl.2 tl.1 S :: xs) (crs tl.2 tl.1 (withI S i) :: ys)) h1 h2 h3 rfl h'
/-! ### Places kept for blocks to come -/
def gones (k : Nat) : Mem := List.replicate k gone
theorem Sim.more {B0 : Nat} {w0 : World} {r : Ren} {M : Mem} {w : World} (h : Sim B0 w0 r M w) (k : Nat) : Sim B0 w0 r (M ++ gones k) w := by
  have hg : ∀ {j b}, M.length ≤ j → (M ++ gones k)[j]? = some b → b = gone := fun {j b} hj hb => by
    rw [List.getElem?_append_right hj] at hb
    exact List.eq_of_mem_replicate (List.mem_of_getElem? hb)
  have hl : ∀ {j b}, j < M.length → (M ++ gones k)[j]? = some b → M[j]? = some b := fun {j b} hj hb => by rwa [List.getElem?_append_left hj] at hb
  refine ⟨h.below, h.base, fun j t c hr => ?_, h.lt, fun j b hb => ?_, fun i j b b' c z z' hb hb' hw hc hc' => ?_⟩
  · obtain ⟨b, hb, ht⟩ := h.dom j t c hr
    exact ⟨b, by rw [List.getElem?_append_left (List.getElem?_eq_some_iff.1 hb).1]; exact hb, ht⟩
  · by_cases hj : j < M.length
    · exact h.blk j b (hl hj hb)
    · obtain rfl := hg (by omega) hb
      refine .inl ⟨⟨rfl, rfl⟩, fun t => ?_⟩
      cases hr : r j t with
      | none => rfl
      | some c =>
        obtain ⟨b, hb, _⟩ := h.dom j t c hr
        exact absurd (List.getElem?_eq_some_iff.1 hb).1 hj
  · have h1 : i < M.length := by
      obtain ⟨b, hb, _⟩ := h.dom i _ _ hc
      exact (List.getElem?_eq_some_iff.1 hb).1
    have h2 : j < M.length := by
      obtain ⟨b, hb, _⟩ := h.dom j _ _ hc'
      exact (List.getElem?_eq_some_iff.1 hb).1
    exact h.inj i j b b' c z z' (hl h1 hb) (hl h2 hb') hw hc hc'
theorem AW.more {P : Program} {c : Code} {Q : Exit → St → Prop} {n : Nat} {t : Env} {m : Mem} (k : Nat) (h : AW P c Q ⟨n, t, m ++ gones k⟩) : AW P c Q ⟨n, t, m⟩ :=
  fun B0 w0 r a w hs => h B0 w0 r a w ⟨hs.defers, hs.size, hs.vals, hs.sim.more k⟩
section
variable {P : Program} {ops l : List Oper} {K : St → Prop} {n : Nat} {t : Env} {m0 M : Mem} {tls : List (Blk × List (Nat × Blk))} {d ty : Nat} {pos : String} {af : Array Edge} {op : Op}
end
section
variable {P : Program} {ops : List Oper} {n : Nat} {t : Env} {M m N : Mem} {d ty : Nat} {pos : String} {af : Array Edge} {op : Op} {B : Blk}
end
end Go.Proofs.YtddmclkijheicaaGreatDoor

/- Texts of plans: the walks. -/
namespace Go.Proofs.YtddmclkijheicaaGreatDoor
open Go.RowKit
attribute [local irreducible] AW AOs AO AQ AQW thenA inBlockA postA ACalls Pure
set_option linter.unusedSimpArgs false
set_option linter.unusedVariables false
set_option linter.unusedSectionVars false

abbrev tD (x : Int) : List UInt8 := Lib.decDigits x.toNat
theorem tD_len (x : Int) (h : 0 ≤ x ∧ x < 1000000000) : (tD x).length ≤ 21 := by
  have := Lib.itoa_length_le x (by omega) (by omega)
  unfold Lib.itoa at this
  rw [if_neg (by omega)] at this
  exact this
theorem joinTail_app (sep : List UInt8) (r s : List (List UInt8)) : Lib.joinTail sep (r ++ s) = Lib.joinTail sep r ++ Lib.joinTail sep s := by simp [Lib.joinTail]
theorem join_app (x : List UInt8) (r s : List (List UInt8)) (sep : List UInt8) : Lib.join ((x :: r) ++ s) sep = Lib.join (x :: r) sep ++ Lib.joinTail sep s := by
  rw [List.cons_append, Lib.join_cons, Lib.join_cons, joinTail_app, List.append_assoc]
theorem iDec (x : Int) (h : 0 ≤ x ∧ x < 1000000000) (M : Mem) : Pure Tryz.prog 60 [.int .i64 x] M (strV (tD x)) := by
  have := idecimal x (by omega) (by omega) M
  unfold itoaV Lib.itoa at this
  rwa [if_neg (by omega)] at this
section
variable (a : Option Addr) (n cp : Nat) (b o : Int) (G : Nat → Nat → Bool) (T : Nat → Int)
/-- Joined words. -/
abbrev wdB (W : List (List UInt8)) (tg : Option Nat) : Blk := ⟨tab W.length fun q => strV (W.getD q []), tg, true⟩
theorem iJoinW (W : List (List UInt8)) (sep : List UInt8) (j cp2 : Nat) (tg : Option Nat) (M : Mem) (hb : M[j]? = some (wdB W tg)) (hcap : W.length ≤ cp2) (hn : W.length ≤ 1000000) (hlen : (Lib.join W sep).length ≤ 1000000) :
    Pure Tryz.prog 61 [.slice (some ⟨j, 0, tg⟩) W.length cp2, strV sep] M (strV (Lib.join W sep)) := by
  have e1 : (W.map fun l => (⟨l.toArray⟩ : ByteArray)).map (·.data.toList) = W := by
    rw [List.map_map]
    refine (List.map_congr_left fun l _ => ?_).trans (List.map_id W)
    simp
  have e2 : (W.map fun l => (⟨l.toArray⟩ : ByteArray)).length = W.length := by simp
  have h := iJoin (W.map fun l => (⟨l.toArray⟩ : ByteArray)) ⟨sep.toArray⟩ j cp2 tg true M (by
    have et : (tab W.length fun q => strV (W.getD q [])) = tab W.length fun q => Value.string ((W.map fun l => (⟨l.toArray⟩ : ByteArray)).getD q ByteArray.empty) := tab_congr fun q hq => by
      rw [List.getD_eq_getElem?_getD, List.getD_eq_getElem?_getD, List.getElem?_map, List.getElem?_eq_getElem hq]; rfl
    rw [hb]
    unfold wordsB
    rw [e2]
    show some (⟨tab W.length (fun q => strV (W.getD q [])), tg, true⟩ : Blk) = _
    rw [et]) (by rw [e2]; exact hcap) (by rw [e2]; omega) (by rw [e1]; show (Lib.join W sep).length ≤ _; omega)
  unfold joinB at h
  rw [e1, e2] at h
  exact h
theorem wd_flat (W : List (List UInt8)) (tg : Option Nat) : ∀ c ∈ (wdB W tg).cells, Flat c := flat_tabs fun i => Flat.string _
end
end Go.Proofs.YtddmclkijheicaaGreatDoor

/- Texts of junctions: the words, and the text of the reference. -/
namespace Go.Proofs.YtddmclkijheicaaGreatDoor
open Go.RowKit
attribute [local irreducible] AW AOs AO AQ AQW thenA inBlockA postA ACalls Pure
set_option linter.unusedSimpArgs false
set_option linter.unusedVariables false
set_option linter.unusedSectionVars false

/-! ### Plain -/
def jnK : List UInt8 := [106, 117, 110, 99, 116, 105, 111, 110]
/-- Words with numbers, and their text. -/
def nmW (a b : List UInt8) (f : Nat → Nat) : Nat → List (List UInt8)
  | 0 => [jnK, a, b]
  | c + 1 => nmW a b f c ++ [hexN (f c) 8]
def nmS (a b : List UInt8) (f : Nat → Nat) : Nat → List UInt8
  | 0 => (([106, 117, 110, 99, 116, 105, 111, 110, 32] ++ a) ++ [32]) ++ b
  | c + 1 => nmS a b f c ++ ([32] ++ hexN (f c) 8)
theorem nmW_cons (a b : List UInt8) (f : Nat → Nat) : ∀ c, ∃ r, nmW a b f c = jnK :: r
  | 0 => ⟨_, rfl⟩
  | c + 1 => by
    obtain ⟨r, hr⟩ := nmW_cons a b f c
    exact ⟨r ++ [hexN (f c) 8], by unfold nmW; rw [hr]; rfl⟩
theorem nm_eq (a b : List UInt8) (f : Nat → Nat) : ∀ c, Lib.join (nmW a b f c) [32] = nmS a b f c
  | 0 => by
    show Lib.join [jnK, a, b] [32] = _
    rw [Lib.join_cons]
    simp [Lib.joinTail, nmS, jnK]
  | c + 1 => by
    have ih := nm_eq a b f c
    obtain ⟨r, hr⟩ := nmW_cons a b f c
    show Lib.join (nmW a b f c ++ [hexN (f c) 8]) [32] = nmS a b f c ++ _
    rw [← ih, hr, join_app]
    simp [Lib.joinTail]
theorem nmW_len (a b : List UInt8) (f : Nat → Nat) : ∀ c, (nmW a b f c).length = 3 + c
  | 0 => rfl
  | c + 1 => by
    unfold nmW
    rw [List.length_append, nmW_len a b f c]
    simp; omega
theorem nmS_len {a b : List UInt8} (f : Nat → Nat) (ha : a.length ≤ 21) (hb : b.length ≤ 21) : ∀ c, (nmS a b f c).length ≤ 100 + 9 * c
  | 0 => by
    show ((([106, 117, 110, 99, 116, 105, 111, 110, 32] ++ a) ++ [32]) ++ b).length ≤ _
    simp only [List.length_append, List.length_cons, List.length_nil]; omega
  | c + 1 => by
    have ih := nmS_len f ha hb c
    show (nmS a b f c ++ _).length ≤ _
    simp only [List.length_append, List.length_cons, List.length_nil, hexN_len]; omega
/-- The numbers of a junction, in order. -/
def jF (n o : Nat) (h : Nat → Nat) (c : Nat) : Nat := if c < n * o then jA h (c / o) (c % o) else h (18 + (c - n * o))
theorem jF_1 {n o : Nat} {h : Nat → Nat} {i k : Nat} (hi : i < n) (hk : k < o) : jF n o h (i * o + k) = jA h i k := by
  have h1 : i * o + k < n * o := by
    have : (i + 1) * o ≤ n * o := Nat.mul_le_mul_right o (by omega)
    rw [Nat.add_mul, Nat.one_mul] at this
    omega
  unfold jF
  rw [if_pos h1, Nat.add_comm (i * o) k, Nat.add_mul_div_right _ _ (by omega), Nat.add_mul_mod_self_right, Nat.div_eq_of_lt hk, Nat.mod_eq_of_lt hk, Nat.zero_add]
theorem jF_2 {n o : Nat} {h : Nat → Nat} {i : Nat} : jF n o h (n * o + i) = h (18 + i) := by
  unfold jF
  rw [if_neg (by omega), show n * o + i - n * o = i by omega]
def jnS (n o : Nat) (h : Nat → Nat) (c : Nat) : List UInt8 := nmS (tD (n : Int)) (tD (o : Int)) (jF n o h) c
def jnT (n o : Nat) (h : Nat → Nat) : List UInt8 := jnS n o h (n * o + n)
theorem sm_tD {n : Nat} (h : n ≤ 4) : (tD (n : Int)).length ≤ 21 := tD_len _ (by omega)
theorem jnS_len {n o : Nat} {h : Nat → Nat} (hn : n ≤ 4) (ho : o ≤ 4) {c : Nat} (hc : c ≤ 20) : (jnS n o h c).length ≤ 1000 := by
  have := nmS_len (jF n o h) (sm_tD hn) (sm_tD ho) c
  unfold jnS
  omega
theorem mul_le16 {n o : Nat} (hn : n ≤ 4) (ho : o ≤ 4) : n * o ≤ 16 := Nat.mul_le_mul hn ho
theorem ix_le {n o i : Nat} (hi : i < n) : i * o + o ≤ n * o := by
  have : (i + 1) * o ≤ n * o := Nat.mul_le_mul_right o (by omega)
  rwa [Nat.add_mul, Nat.one_mul] at this

/-! ### The reference's text -/
section
variable (n o : Nat) (h : Nat → Nat)
end
theorem jnP_nat {ins outs : Int} {h : Nat → Nat} (hp : jnP ins outs h) : ∃ n o : Nat, ins = n ∧ outs = o ∧ (1 ≤ n ∧ n ≤ 4) ∧ (1 ≤ o ∧ o ≤ 4) := ⟨ins.toNat, outs.toNat, by have := hp.1; omega, by have := hp.2.1; omega, by have := hp.1; omega, by have := hp.2.1; omega⟩
/-- The text of a junction, if it is valid. -/
def jnX (ins outs : Int) (h : Nat → Nat) : List UInt8 := if jnP ins outs h then jnT ins.toNat outs.toNat h else []
end Go.Proofs.YtddmclkijheicaaGreatDoor

/- Plain: a junction that is filled cell by cell. -/
namespace Go.Proofs.YtddmclkijheicaaGreatDoor
open Go.RowKit
attribute [local irreducible] AW AOs AO AQ AQW thenA inBlockA postA ACalls Pure
set_option linter.unusedSimpArgs false
set_option linter.unusedVariables false
set_option linter.unusedSectionVars false

/-- The cells of a junction of n ins and o outs, of which i rows and k cells of the next one are read off the list r. -/
def hP (n o : Nat) (r : Nat → Nat) (i k q : Nat) : Nat :=
  if q < 2 then 0
  else if q < 18 then (if (q - 2) % 4 < o ∧ ((q - 2) / 4 < i ∨ ((q - 2) / 4 = i ∧ (q - 2) % 4 < k)) then r ((q - 2) / 4 * o + (q - 2) % 4) else 0)
  else if q - 18 < i then r (n * o + (q - 18)) else 0
section
variable {n o : Nat} {r : Nat → Nat} {i k : Nat}
theorem hP_0 : hP n o r 0 0 = fun _ => 0 := by
  funext q
  unfold hP
  by_cases h1 : q < 2
  · rw [if_pos h1]
  · rw [if_neg h1]
    by_cases h2 : q < 18
    · rw [if_pos h2, if_neg (by omega)]
    · rw [if_neg h2, if_neg (by omega)]
theorem hP_cell (hi : i < 4) (hk : k < o) (ho : o ≤ 4) : (fun q => if q = 2 + i * 4 + k then r (i * o + k) else hP n o r i k q) = hP n o r i (k + 1) := by
  funext q
  by_cases e : q = 2 + i * 4 + k
  · subst e
    rw [if_pos rfl]
    unfold hP
    have h1 : (2 + i * 4 + k - 2) / 4 = i := by omega
    have h2 : (2 + i * 4 + k - 2) % 4 = k := by omega
    rw [if_neg (by omega), if_pos (by omega), h1, h2, if_pos (by omega)]
  · rw [if_neg e]
    unfold hP
    by_cases h1 : q < 2
    · rw [if_pos h1, if_pos h1]
    · rw [if_neg h1, if_neg h1]
      by_cases h2 : q < 18
      · rw [if_pos h2, if_pos h2]
        by_cases h3 : (q - 2) % 4 < o ∧ ((q - 2) / 4 < i ∨ ((q - 2) / 4 = i ∧ (q - 2) % 4 < k))
        · rw [if_pos h3, if_pos (by omega)]
        · rw [if_neg h3, if_neg (by omega)]
      · rw [if_neg h2, if_neg h2]
theorem hP_row (hi : i < 4) (ho : o ≤ 4) : (fun q => if q = 18 + i then r (n * o + i) else hP n o r i o q) = hP n o r (i + 1) 0 := by
  funext q
  by_cases e : q = 18 + i
  · subst e
    rw [if_pos rfl]
    unfold hP
    rw [if_neg (by omega), if_neg (by omega), if_pos (by omega), show 18 + i - 18 = i by omega]
  · rw [if_neg e]
    unfold hP
    by_cases h1 : q < 2
    · rw [if_pos h1, if_pos h1]
    · rw [if_neg h1, if_neg h1]
      by_cases h2 : q < 18
      · rw [if_pos h2, if_pos h2]
        by_cases h3 : (q - 2) % 4 < o ∧ ((q - 2) / 4 < i ∨ ((q - 2) / 4 = i ∧ (q - 2) % 4 < o))
        · rw [if_pos h3, if_pos (by omega)]
        · rw [if_neg h3, if_neg (by omega)]
      · rw [if_neg h2, if_neg h2]
        by_cases h3 : q - 18 < i
        · rw [if_pos h3, if_pos (by omega)]
        · rw [if_neg h3, if_neg (by omega)]
theorem hP_copy (hi : i < 4) (ho : o ≤ 4) : (fun q => if 2 + i * 4 ≤ q ∧ q < 2 + i * 4 + o then r (i * o + (q - (2 + i * 4))) else hP n o r i 0 q) = hP n o r i o := by
  funext q
  by_cases e : 2 + i * 4 ≤ q ∧ q < 2 + i * 4 + o
  · rw [if_pos e]
    unfold hP
    have h1 : (q - 2) / 4 = i := by omega
    have h2 : (q - 2) % 4 = q - (2 + i * 4) := by omega
    rw [if_neg (by omega), if_pos (by omega), h1, h2, if_pos (by omega)]
  · rw [if_neg e]
    unfold hP
    by_cases h1 : q < 2
    · rw [if_pos h1, if_pos h1]
    · rw [if_neg h1, if_neg h1]
      by_cases h2 : q < 18
      · rw [if_pos h2, if_pos h2]
        by_cases h3 : (q - 2) % 4 < o ∧ ((q - 2) / 4 < i ∨ ((q - 2) / 4 = i ∧ (q - 2) % 4 < 0))
        · rw [if_pos h3, if_pos (by omega)]
        · rw [if_neg h3, if_neg (by omega)]
      · rw [if_neg h2, if_neg h2]
/-- The numbers of the junction are those of the list. -/
theorem jF_hP (ho : 1 ≤ o ∧ o ≤ 4) (hn : n ≤ 4) {c : Nat} (hc : c < n * o + n) : jF n o (hP n o r n 0) c = r c := by
  have h16 := mul_le16 hn ho.2
  unfold jF
  by_cases h : c < n * o
  · have h1 : c / o < n := Nat.div_lt_of_lt_mul (by rw [Nat.mul_comm]; exact h)
    have h2 : c % o < o := Nat.mod_lt _ (by omega)
    have h3 : c / o * o + c % o = c := Nat.div_add_mod' c o
    rw [if_pos h]
    unfold jA hP
    have e1 : (2 + (c / o * 4 + c % o) - 2) / 4 = c / o := by omega
    have e2 : (2 + (c / o * 4 + c % o) - 2) % 4 = c % o := by omega
    rw [if_neg (by omega), if_pos (by omega), e1, e2, if_pos ⟨h2, .inl h1⟩, h3]
  · rw [if_neg h]
    unfold hP
    rw [if_neg (by omega), if_neg (by omega), if_pos (by omega), show n * o + (18 + (c - n * o) - 18) = c by omega]
theorem jn_H {a b : Int} {h h' : Nat → Nat} (e : h = h') : tab 22 (jnJ a b h) = tab 22 (jnJ a b h') := by rw [e]
theorem jn_st0 {a b x : Int} {h : Nat → Nat} : (tab 22 (jnJ a b h)).take 0 ++ cellsA (.int .i64 x) ++ (tab 22 (jnJ a b h)).drop (0 + (cellsA (.int .i64 x)).length) = tab 22 (jnJ x b h) := rfl
theorem jn_st1 {a b x : Int} {h : Nat → Nat} : (tab 22 (jnJ a b h)).take 1 ++ cellsA (.int .i64 x) ++ (tab 22 (jnJ a b h)).drop (1 + (cellsA (.int .i64 x)).length) = tab 22 (jnJ a x h) := rfl
theorem jn_stQ {a b : Int} {h : Nat → Nat} {x v : Nat} (h2 : 2 ≤ x) (h22 : x < 22) : (tab 22 (jnJ a b h)).take x ++ cellsA (.float .f32 v) ++ (tab 22 (jnJ a b h)).drop (x + (cellsA (.float .f32 v)).length) = tab 22 (jnJ a b fun q => if q = x then v else h q) := by
  rw [← jn_put h2]
  exact st_tab1 h22
end
end Go.Proofs.YtddmclkijheicaaGreatDoor
