/-  Families of slices that a call owns, each in a block of its own: they are written element by element.  -/
import Derived.Test.YbzaawGreatMut
namespace Go.Wf

structure SlT where
  a : Option Addr
  n : Nat
  c : Nat
def SlT.val (x : SlT) : Value := .slice x.a x.n x.c

/-- Each slice of the family lies at the head of a block of its own. -/
structure FamOk (w : World) (E sz : Nat) (as : List SlT) : Prop where
  row : ∀ (k : Nat) (x : SlT), as[k]? = some x → x.n = 0 ∨ ∃ g cur, x.a = some ⟨g, 0, none⟩ ∧ Blk w g E cur ∧ x.n * sz ≤ cur.length
  dis : ∀ (k k' : Nat) (x x' : SlT), as[k]? = some x → as[k']? = some x' → x.n ≠ 0 → x'.n ≠ 0 → ablk x.a = ablk x'.a → k = k'
/-- The family's blocks. -/
def famB (as : List SlT) : Nat → Prop := fun b => ∃ x ∈ as, x.n ≠ 0 ∧ ablk x.a = b
theorem FamOk.nil (w : World) (E sz : Nat) : FamOk w E sz [] := ⟨fun k x h => by simp at h, fun k k' x x' h => by simp at h⟩
theorem FamOk.fr {w w' : World} {S : Nat → Prop} {E sz : Nat} {as : List SlT} (h : FamOk w E sz as) (hf : Fr S w w') (hs : ∀ b, famB as b → ¬ S b) : FamOk w' E sz as := by
  refine ⟨fun k x hx => ?_, h.dis⟩
  by_cases hn : x.n = 0
  · exact .inl hn
  · rcases h.row k x hx with h0 | ⟨g, cur, e, hB, hl⟩
    · exact absurd h0 hn
    · exact .inr ⟨g, cur, e, hB.fr hf (hs g ⟨x, List.mem_of_getElem? hx, hn, by rw [e]; rfl⟩), hl⟩
/-- The elements before (k, i) hold what they are to hold. -/
structure FamDone (w : World) (sz : Nat) (as : List SlT) (val : Nat → Nat → List Value) (k i : Nat) : Prop where
  cell : ∀ (k' i' : Nat) (x : SlT), as[k']? = some x → i' < x.n → (k' < k ∨ k' = k ∧ i' < i) → ∀ j, j < sz → w.cell? ⟨ablk x.a, i' * sz + j, none⟩ = (val k' i')[j]?
theorem FamDone.zero (w : World) (sz : Nat) (as : List SlT) (val : Nat → Nat → List Value) : FamDone w sz as val 0 0 := ⟨fun k' i' x _ _ h => by omega⟩
theorem FamDone.next {w : World} {sz : Nat} {as : List SlT} {val : Nat → Nat → List Value} {k i : Nat} {x : SlT} (h : FamDone w sz as val k i) (hk : as[k]? = some x) (hi : x.n ≤ i) : FamDone w sz as val (k + 1) 0 :=
  ⟨fun k' i' y hy hy2 hlt => by
    refine h.cell k' i' y hy hy2 ?_
    by_cases e : k' = k
    · subst e; rw [hk] at hy; cases hy; exact .inr ⟨rfl, by omega⟩
    · exact .inl (by omega)⟩
theorem FamDone.frN {w w' : World} {E sz : Nat} {as : List SlT} {val : Nat → Nat → List Value} {k i : Nat} {S : Nat → Prop} (h : FamDone w sz as val k i) (hF : FamOk w E sz as) (hf : Fr S w w') (hs : ∀ b, famB as b → ¬ S b) : FamDone w' sz as val k i :=
  ⟨fun k' i' x hx hi' hlt j hj => by
    rw [← h.cell k' i' x hx hi' hlt j hj]
    rcases hF.row k' x hx with h0 | ⟨g, cur, e, hB, hl⟩
    · omega
    · have hb : ablk x.a = g := by rw [e]; rfl
      rw [hb]
      exact World.cell?_of_block (w := w) (hf.block g hB.lt (hs g ⟨x, List.mem_of_getElem? hx, by omega, hb⟩))⟩

/-- One element is written. -/
theorem fam_step {w w' : World} {E sz : Nat} {as : List SlT} {val : Nat → Nat → List Value} {k i g : Nat} {x : SlT} {cur v : List Value} (hF : FamOk w E sz as) (hD : FamDone w sz as val k i) (hk : as[k]? = some x) (hi : i < x.n)
    (hx : x.a = some ⟨g, 0, none⟩) (hB : Blk w g E cur) (hl : x.n * sz ≤ cur.length) (hv : (val k i).length = sz) (hvv : v = val k i) (hB' : Blk w' g E (cur.take (i * sz) ++ v ++ cur.drop (i * sz + sz))) (hf : Fr (fun b => b = g) w w') :
    FamOk w' E sz as ∧ FamDone w' sz as val k (i + 1) ∧ FamOk w E sz as := by
  subst hvv
  have hxb : ablk x.a = g := by rw [hx]; rfl
  have hil : i * sz + sz ≤ cur.length := by
    have : (i + 1) * sz ≤ x.n * sz := Nat.mul_le_mul_right sz hi
    rw [Nat.add_mul, Nat.one_mul] at this; omega
  have htl : (cur.take (i * sz)).length = i * sz := by rw [List.length_take]; omega
  refine ⟨⟨fun k' y hy => ?_, hF.dis⟩, ⟨fun k' i' y hy hi' hlt j hj => ?_⟩, hF⟩
  · by_cases hn : y.n = 0
    · exact .inl hn
    · rcases hF.row k' y hy with h0 | ⟨g', cur', e, hB2, hl2⟩
      · exact absurd h0 hn
      · by_cases hg : g' = g
        · subst hg
          have : k' = k := hF.dis k' k y x hy hk hn (by omega) (by rw [e, hx])
          subst this
          rw [hk] at hy; cases hy
          exact .inr ⟨g', _, e, hB', by simp [htl, hv]; omega⟩
        · exact .inr ⟨g', cur', e, hB2.fr hf hg, hl2⟩
  · by_cases hkk : k' = k
    · subst hkk
      rw [hk] at hy; cases hy
      rw [hxb, hB'.cell]
      by_cases hii : i' = i
      · subst hii
        rw [List.append_assoc, List.getElem?_append_right (by omega), htl, List.getElem?_append_left (by omega), show i' * sz + j - i' * sz = j by omega]
      · have hlt' : i' < i := by omega
        have hmul : (i' + 1) * sz ≤ i * sz := Nat.mul_le_mul_right sz hlt'
        rw [Nat.add_mul, Nat.one_mul] at hmul
        rw [List.append_assoc, List.getElem?_append_left (by omega), List.getElem?_take, if_pos (by omega), ← hB.cell, ← hxb]
        exact hD.cell k' i' x hk hi' (.inr ⟨rfl, hlt'⟩) j hj
    · have hn : y.n ≠ 0 := by omega
      rcases hF.row k' y hy with h0 | ⟨g', cur', e, hB2, hl2⟩
      · exact absurd h0 hn
      · have hyb : ablk y.a = g' := by rw [e]; rfl
        have hg : g' ≠ g := fun eg => hkk (hF.dis k' k y x hy hk hn (by omega) (by rw [hyb, hxb, eg]))
        rw [hyb, (hB2.fr hf hg).cell, ← hB2.cell, ← hyb]
        exact hD.cell k' i' y hy hi' (by omega) j hj
end Go.Wf
