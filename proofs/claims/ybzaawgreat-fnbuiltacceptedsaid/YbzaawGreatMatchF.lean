/-  Matching as a plain function on trees; its law with substitution.  -/
import Derived.Test.YbzaawGreatBdMem
import Derived.Test.YbzaawGreatLay
namespace Go.Proofs.YbzaawGreat
open Go.Wf Go.Deep
set_option linter.unusedSimpArgs false
set_option linter.unusedVariables false

abbrev KB := ByteArray × FT
def BdA.key (b : BdA) : KB := (b.nm, b.g)
def lookK : List KB → ByteArray → Option FT
  | [], _ => none
  | (n, g) :: r, s => if n = s then some g else lookK r s
theorem lookK_found : ∀ (bs : List BdA) (s : ByteArray) (k : Nat), k < bs.length → (∀ j, j < k → (bs.getD j bd0).nm ≠ s) → (bs.getD k bd0).nm = s → lookK (bs.map BdA.key) s = some (bs.getD k bd0).g
  | [], s, k, hk, _, _ => by simp at hk
  | b :: r, s, 0, _, _, h => by
    simp at h
    simp [lookK, BdA.key, h]
  | b :: r, s, k + 1, hk, hj, h => by
    have h0 := hj 0 (by omega)
    simp at h0
    have := lookK_found r s k (by simpa using hk) (fun j hjk => by have := hj (j + 1) (by omega); simpa using this) (by simpa using h)
    simp only [List.map_cons, lookK, BdA.key, if_neg h0, List.getD_cons_succ]
    exact this
theorem lookK_none : ∀ (bs : List BdA) (s : ByteArray), (∀ j, j < bs.length → (bs.getD j bd0).nm ≠ s) → lookK (bs.map BdA.key) s = none
  | [], s, _ => rfl
  | b :: r, s, hj => by
    have h0 := hj 0 (by simp)
    simp at h0
    have := lookK_none r s (fun j hjk => by have := hj (j + 1) (by simpa using hjk); simpa using this)
    simp only [List.map_cons, lookK, BdA.key, if_neg h0]
    exact this
def lk : FT → FT
  | .nil => .nil
  | .node _ _ _ l _ => l
def rk : FT → FT
  | .nil => .nil
  | .node _ _ _ _ r => r
open Classical in
noncomputable def matchF : FT → FT → List KB → Option (List KB)
  | .nil, _, _ => none
  | .node _ _ a l r, t, ls =>
    if a.op = 1 then (match lookK ls a.name with | some g => if g = t then some ls else none | none => some (ls ++ [(a.name, t)]))
    else if a.op = 2 then (if topO t = 2 then some ls else none)
    else if topO t = a.op then (match matchF l (lk t) ls with | none => none | some l1 => if isN r = true then some l1 else matchF r (rk t) l1)
    else none
section
variable {t : FT} {ls l1 : List KB} {s : ByteArray}
theorem mt_A1 {g : FT} (h : lookK ls s = some g) (he : g = t) : matchF (tA s) t ls = some ls := by
  subst he; simp [matchF, tA, h]
theorem mt_A2 {g : FT} (h : lookK ls s = some g) (he : g ≠ t) : matchF (tA s) t ls = none := by simp [matchF, tA, h, he]
theorem mt_A3 (h : lookK ls s = none) : matchF (tA s) t ls = some (ls ++ [(s, t)]) := by simp [matchF, tA, h]
theorem mt_B01 (h : topO t = 2) : matchF tB0 t ls = some ls := by simp [matchF, tB0, h]
theorem mt_B02 (h : topO t ≠ 2) : matchF tB0 t ls = none := by simp [matchF, tB0, h]
theorem mt_N1 {p : FT} (h : topO t = 3) : matchF (tN p) t ls = matchF p (lk t) ls := by
  simp only [matchF, tN, h]
  cases matchF p (lk t) ls <;> simp [isN]
theorem mt_N2 {p : FT} (h : topO t ≠ 3) : matchF (tN p) t ls = none := by simp [matchF, tN, h]
theorem mt_B1 {op : Int} {l r : FT} (h4 : 4 ≤ op) (h : topO t ≠ op) : matchF (tB op l r) t ls = none := by
  simp only [matchF, tB]; rw [if_neg (by omega), if_neg (by omega), if_neg h]
theorem mt_B2 {op : Int} {l r : FT} (h4 : 4 ≤ op) (h : topO t = op) (hl : matchF l (lk t) ls = none) : matchF (tB op l r) t ls = none := by
  simp only [matchF, tB]; rw [if_neg (by omega), if_neg (by omega), if_pos h, hl]
theorem mt_B3 {V : ByteArray → Prop} {op : Int} {l r : FT} (h4 : 4 ≤ op) (h : topO t = op) (hr : Shape V r) (hl : matchF l (lk t) ls = some l1) : matchF (tB op l r) t ls = matchF r (rk t) l1 := by
  simp only [matchF, tB]; rw [if_neg (by omega), if_neg (by omega), if_pos h, hl]; simp [hr.isN]
end
/-- A node that stands o others ahead. -/
def unshN (o : Nat) (x : Nd) : Nd := ⟨x.op, x.name, if 0 ≤ x.l then x.l - o else x.l, if 0 ≤ x.r then x.r - o else x.r⟩
theorem lay_unsh {V : ByteArray → Prop} (o : Nat) {t : FT} (h : Shape V t) : ∀ b, (lay (b + o) t).map (unshN o) = lay b t := by
  refine Shape.ind (P := fun t => ∀ b, (lay (b + o) t).map (unshN o) = lay b t) ?_ ?_ ?_ ?_ t h
  · intro s _ b; simp [lay_A, unshN]
  · intro b; simp [lay_B0, unshN]
  · intro t ht ih b
    have := ht.pos
    rw [lay_N b ht, lay_N (b + o) ht, List.map_append, ih]
    simp only [List.map_cons, List.map_nil, unshN]
    rw [if_pos (by omega), if_neg (by omega)]
    congr 2
    simp; omega
  · intro op l r h4 h7 hl hr ihl ihr b
    have := hl.pos
    have := hr.pos
    rw [lay_B b op hl hr, lay_B (b + o) op hl hr, List.map_append, List.map_append, ihl, show b + o + tsize l = (b + tsize l) + o by omega, ihr]
    simp only [List.map_cons, List.map_nil, unshN]
    rw [if_pos (by omega), if_pos (by omega)]
    congr 3
    simp; omega
/-- The subtree's nodes, counted from its own first. -/
theorem sub_unsh {ys : List Nd} {t : FT} {j s : Nat} (h : Sub okName ys t j s) : ∀ k, k < tsize t → (lay 0 t).getD k nd0 = unshN s (ys.getD (s + k) nd0) := fun k hk => by
  have ha := agr_of_sub h k (by rw [lay_len]; exact hk)
  have hl := lay_unsh s h.shape 0
  rw [Nat.zero_add] at hl
  have hk1 : k < (lay s t).length := by rw [lay_len]; exact hk
  rw [← hl]
  simp only [List.getD, List.getElem?_map]
  rw [ha, List.getElem?_eq_getElem hk1]
  rfl
end Go.Proofs.YbzaawGreat
