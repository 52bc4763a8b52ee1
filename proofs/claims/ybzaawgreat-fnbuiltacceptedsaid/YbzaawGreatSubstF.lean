/-  Substitution as a plain function: on trees, and on lists of nodes as the program does it.  -/
import Derived.Test.YbzaawGreatPlain
namespace Go.Proofs.YbzaawGreat
open Go.Wf Go.Deep
set_option linter.unusedSimpArgs false
set_option linter.unusedVariables false

/-- A binding in memory: a name, and the layout of a tree. -/
structure BdA where
  nm : ByteArray
  fa : Option Addr
  fc : Nat
  g : FT
def bd0 : BdA := ⟨emp, none, 0, tB0⟩
def BdOk (b : BdA) : Prop := Shape okName b.g ∧ thgt b.g ≤ 500
/-- The number of the first binding of the name (the list's length, if there is none). -/
def bidx : List BdA → ByteArray → Nat
  | [], _ => 0
  | b :: r, s => if b.nm = s then 0 else bidx r s + 1
theorem bidx_le : ∀ (bs : List BdA) (s : ByteArray), bidx bs s ≤ bs.length
  | [], s => by simp [bidx]
  | b :: r, s => by
    have := bidx_le r s
    unfold bidx
    split <;> simp <;> omega
theorem bidx_eq : ∀ (bs : List BdA) (s : ByteArray) (k : Nat), k ≤ bs.length → (∀ j, j < k → (bs.getD j bd0).nm ≠ s) → (k = bs.length ∨ (bs.getD k bd0).nm = s) → bidx bs s = k
  | [], s, k, hk, _, _ => by simp at hk; simp [bidx, hk]
  | b :: r, s, 0, _, _, h => by
    simp at h
    simp [bidx, h]
  | b :: r, s, k + 1, hk, hj, h => by
    have h0 := hj 0 (by omega)
    simp at h0
    have := bidx_eq r s k (by simpa using hk) (fun j hjk => by have := hj (j + 1) (by omega); simpa using this) (by simpa using h)
    simp [bidx, h0, this]
theorem bidx_ne : ∀ (bs : List BdA) (s : ByteArray) (j : Nat), j < bidx bs s → (bs.getD j bd0).nm ≠ s
  | [], s, j, h => by simp [bidx] at h
  | b :: r, s, j, h => by
    unfold bidx at h
    split at h
    · omega
    · rename_i hb
      cases j with
      | zero => simpa using hb
      | succ j => have := bidx_ne r s j (by omega); simpa using this
theorem bidx_at : ∀ (bs : List BdA) (s : ByteArray), bidx bs s < bs.length → (bs.getD (bidx bs s) bd0).nm = s
  | [], s, h => by simp at h
  | b :: r, s, h => by
    by_cases hb : b.nm = s
    · simp [bidx, hb]
    · have e : bidx (b :: r) s = bidx r s + 1 := by simp [bidx, hb]
      rw [e] at h ⊢
      have := bidx_at r s (by simpa using h)
      simpa using this
theorem bd_mem {bs : List BdA} {k : Nat} (h : k < bs.length) : bs.getD k bd0 ∈ bs := by
  rw [show bs.getD k bd0 = bs[k] by simp [h]]; exact List.getElem_mem h
/-- What a name stands for. -/
def lookF (bs : List BdA) (s : ByteArray) : FT := if bidx bs s < bs.length then (bs.getD (bidx bs s) bd0).g else tA s
def substF (bs : List BdA) : FT → FT
  | .nil => .nil
  | .node b o a l r => if a.op = 1 then lookF bs a.name else .node b o a (substF bs l) (substF bs r)
section
variable (bs : List BdA)
theorem su_A (s : ByteArray) : substF bs (tA s) = lookF bs s := rfl
theorem su_B0 : substF bs tB0 = tB0 := rfl
theorem su_N (t : FT) : substF bs (tN t) = tN (substF bs t) := rfl
theorem su_B {op : Int} (h4 : 4 ≤ op) (l r : FT) : substF bs (tB op l r) = tB op (substF bs l) (substF bs r) := by
  simp only [tB, substF]; rw [if_neg (by omega)]
end
theorem lookF_shape {bs : List BdA} (hb : ∀ b ∈ bs, BdOk b) {s : ByteArray} (hs : okName s) : Shape okName (lookF bs s) := by
  unfold lookF
  split
  · rename_i h
    have : bs.getD (bidx bs s) bd0 = bs[bidx bs s] := by simp [h]
    rw [this]
    exact (hb _ (List.getElem_mem h)).1
  · exact shA hs
theorem substF_shape {bs : List BdA} (hb : ∀ b ∈ bs, BdOk b) {t : FT} (h : Shape okName t) : Shape okName (substF bs t) := by
  refine Shape.ind (P := fun t => Shape okName (substF bs t)) ?_ ?_ ?_ ?_ t h
  · intro s hs; rw [su_A]; exact lookF_shape hb hs
  · exact shB0
  · intro t _ ih; rw [su_N]; exact shN ih
  · intro op l r h4 h7 _ _ ihl ihr; rw [su_B _ h4]; exact shB h4 h7 ihl ihr

/-- A node behind o others. -/
def shiftN (o : Nat) (x : Nd) : Nd := ⟨x.op, x.name, if 0 ≤ x.l then x.l + o else x.l, if 0 ≤ x.r then x.r + o else x.r⟩
theorem lay_shift {V : ByteArray → Prop} (o : Nat) {t : FT} (h : Shape V t) : ∀ b, (lay b t).map (shiftN o) = lay (b + o) t := by
  refine Shape.ind (P := fun t => ∀ b, (lay b t).map (shiftN o) = lay (b + o) t) ?_ ?_ ?_ ?_ t h
  · intro s _ b; simp [lay_A, shiftN]
  · intro b; simp [lay_B0, shiftN]
  · intro t ht ih b
    have := ht.pos
    rw [lay_N b ht, lay_N (b + o) ht, List.map_append, ih]
    simp only [List.map_cons, List.map_nil, shiftN]
    rw [if_pos (by omega), if_neg (by omega)]
    congr 2
    simp; omega
  · intro op l r h4 h7 hl hr ihl ihr b
    have := hl.pos
    have := hr.pos
    rw [lay_B b op hl hr, lay_B (b + o) op hl hr, List.map_append, List.map_append, ihl, ihr]
    simp only [List.map_cons, List.map_nil, shiftN]
    rw [if_pos (by omega), if_pos (by omega), show b + tsize l + o = b + o + tsize l by omega]
    congr 3
    simp; omega
/-- How many nodes a node becomes. -/
def cntN (bs : List BdA) (x : Nd) : Nat := if x.op = 1 ∧ bidx bs x.name < bs.length then tsize (bs.getD (bidx bs x.name) bd0).g else 1
def totN (bs : List BdA) (xs : List Nd) : Nat → Nat
  | 0 => 0
  | i + 1 => totN bs xs i + cntN bs (xs.getD i nd0)
theorem totN_mono (bs : List BdA) (xs : List Nd) {i j : Nat} (h : i ≤ j) : totN bs xs i ≤ totN bs xs j := by
  induction j with
  | zero => obtain rfl : i = 0 := by omega
            exact Nat.le_refl _
  | succ j ih =>
    by_cases e : i = j + 1
    · rw [e]; exact Nat.le_refl _
    · have := ih (by omega); simp only [totN]; omega
/-- The new place of the node i. -/
def newP (bs : List BdA) (xs : List Nd) (l : Int) : Int := if 0 ≤ l then (totN bs xs (l.toNat + 1) : Int) - 1 else l
def emitN (bs : List BdA) (xs : List Nd) (i : Nat) : List Nd :=
  if (xs.getD i nd0).op = 1 ∧ bidx bs (xs.getD i nd0).name < bs.length then (lay 0 (bs.getD (bidx bs (xs.getD i nd0).name) bd0).g).map (shiftN (totN bs xs i))
  else [⟨(xs.getD i nd0).op, (xs.getD i nd0).name, newP bs xs (xs.getD i nd0).l, newP bs xs (xs.getD i nd0).r⟩]
def outN (bs : List BdA) (xs : List Nd) : Nat → List Nd
  | 0 => []
  | i + 1 => outN bs xs i ++ emitN bs xs i
theorem emitN_len (bs : List BdA) (xs : List Nd) (i : Nat) : (emitN bs xs i).length = cntN bs (xs.getD i nd0) := by
  unfold emitN cntN
  split
  · rw [List.length_map, lay_len]
  · rfl
theorem outN_len (bs : List BdA) (xs : List Nd) : ∀ i, (outN bs xs i).length = totN bs xs i
  | 0 => rfl
  | i + 1 => by simp only [outN, totN, List.length_append, outN_len bs xs i, emitN_len]
theorem outN_sub {bs : List BdA} (hb : ∀ b ∈ bs, BdOk b) {xs : List Nd} {t : FT} {i s : Nat} (h : Sub okName xs t i s) :
    outN bs xs (i + 1) = outN bs xs s ++ lay (totN bs xs s) (substF bs t) ∧ totN bs xs (i + 1) = totN bs xs s + tsize (substF bs t) := by
  refine Sub.ind (P := fun t i s => outN bs xs (i + 1) = outN bs xs s ++ lay (totN bs xs s) (substF bs t) ∧ totN bs xs (i + 1) = totN bs xs s + tsize (substF bs t)) ?_ ?_ ?_ ?_ t i s h
  · intro i hi h0 hv h5 h6
    rw [su_A]
    simp only [outN, totN, emitN, cntN, h0, lookF]
    by_cases hl : bidx bs (xs.getD i nd0).name < bs.length
    · simp only [hl, and_self, ↓reduceIte]
      have hg : Shape okName (bs.getD (bidx bs (xs.getD i nd0).name) bd0).g := (hb _ (bd_mem hl)).1
      rw [lay_shift _ hg, Nat.zero_add]
      exact ⟨rfl, trivial⟩
    · simp only [hl, and_false, ↓reduceIte]
      rw [lay_A, h5, h6]
      exact ⟨rfl, rfl⟩
  · intro i hi h0 hv h5 h6
    rw [su_B0]
    simp only [outN, totN, emitN, cntN, h0, lay_B0, h5, h6, hv]
    rw [if_neg (by simp), if_neg (by simp)]
    exact ⟨rfl, rfl⟩
  · intro t i s hi h0 hn hi1 h5 h6 h ih
    have hs := substF_shape hb h.shape
    rw [show i - 1 + 1 = i by omega] at ih
    rw [su_N, lay_N _ hs, sz_N, ← List.append_assoc, ← ih.1]
    have hp : newP bs xs ((i : Int) - 1) = (totN bs xs i : Int) - 1 := by
      unfold newP; rw [if_pos (by omega), show ((i : Int) - 1).toNat + 1 = i by omega]
    simp only [outN, totN, emitN, cntN, h0, h5, h6, hn, hp]
    rw [if_neg (by simp), if_neg (by simp), ih.2]
    refine ⟨?_, by omega⟩
    simp [newP]
  · intro l r i s m hi h4 h7 hn hi1 hm h5 h6 hr hl ihr ihl
    have hsl := substF_shape hb hl.shape
    have hsr := substF_shape hb hr.shape
    rw [show i - 1 + 1 = i by omega] at ihr
    rw [show m - 1 + 1 = m by omega] at ihl
    rw [su_B _ h4, lay_B _ _ hsl hsr, sz_B, ← List.append_assoc, ← ihl.1, ← ihl.2, ← List.append_assoc, ← ihr.1, ← ihr.2]
    have hp : newP bs xs ((i : Int) - 1) = (totN bs xs i : Int) - 1 := by
      unfold newP; rw [if_pos (by omega), show ((i : Int) - 1).toNat + 1 = i by omega]
    have hq : newP bs xs ((m : Int) - 1) = (totN bs xs m : Int) - 1 := by
      unfold newP; rw [if_pos (by omega), show ((m : Int) - 1).toNat + 1 = m by omega]
    simp only [outN, totN, emitN, cntN, h5, h6, hn, hp, hq]
    rw [if_neg (by omega), if_neg (by omega)]
    exact ⟨rfl, by omega⟩
theorem outN_all {bs : List BdA} (hb : ∀ b ∈ bs, BdOk b) {xs : List Nd} {t : FT} (h : WF xs t) : outN bs xs xs.length = lay 0 (substF bs t) ∧ totN bs xs xs.length = tsize (substF bs t) := by
  have := outN_sub hb h.sub
  rw [show xs.length - 1 + 1 = xs.length by have := h.pos; omega] at this
  simpa [outN, totN] using this
end Go.Proofs.YbzaawGreat
