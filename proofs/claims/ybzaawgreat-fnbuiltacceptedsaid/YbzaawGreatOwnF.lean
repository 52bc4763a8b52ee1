/-  Lists of forms, written and read again: each form's list is laid anew.  -/
import Derived.Test.YbzaawGreatOwnB
import Derived.Test.YbzaawGreatDraw3
namespace Go.Proofs.YbzaawGreat
open Go.Wf
set_option linter.unusedSimpArgs false
set_option linter.unusedVariables false

def mkC (k i : Nat) : List Value := [.int .i64 (-1000 - (k : Int)), .string ⟨#[35]⟩, .int .i64 k, .int .i64 i]
def befo (k' i' k i : Nat) : Prop := k' < k ∨ k' = k ∧ i' < i
/-- The forms before (k, i) hold a list of one marked node. -/
structure FsDone (w : World) (zs : List SlT) (k i : Nat) : Prop where
  ex : ∃ val : Nat → Nat → List Value, FamDone w 1 zs val k i ∧ ∀ k' i' x, zs[k']? = some x → i' < x.n → befo k' i' k i → ∃ g, val k' i' = [.slice (some ⟨g, 0, none⟩) 1 1] ∧ Blk w g 113 (mkC k' i')
theorem FsDone.zero (w : World) (zs : List SlT) : FsDone w zs 0 0 := ⟨fun _ _ => [], FamDone.zero _ _ _ _, fun k' i' x _ _ h => by unfold befo at h; omega⟩
theorem FsDone.next {w : World} {zs : List SlT} {k i : Nat} {x : SlT} (h : FsDone w zs k i) (hk : zs[k]? = some x) (hi : x.n ≤ i) : FsDone w zs (k + 1) 0 := by
  obtain ⟨val, h1, h2⟩ := h.ex
  refine ⟨val, h1.next hk hi, fun k' i' y hy hy2 hb => h2 k' i' y hy hy2 ?_⟩
  unfold befo at hb ⊢
  by_cases e : k' = k
  · subst e; rw [hk] at hy; cases hy; exact .inr ⟨rfl, by omega⟩
  · exact .inl (by omega)
theorem FsDone.frN {w w' : World} {zs : List SlT} {k i : Nat} (h : FsDone w zs k i) (hF : FamOk w 32 1 zs) (hf : Fr noB w w') : FsDone w' zs k i := by
  obtain ⟨val, h1, h2⟩ := h.ex
  exact ⟨val, h1.frN hF hf (fun _ _ e => e), fun k' i' x hx hi hb => by obtain ⟨g, e, hB⟩ := h2 k' i' x hx hi hb; exact ⟨g, e, hB.frN hf⟩⟩
theorem blk_ne {w : World} {b b' E E' : Nat} {cs cs' : List Value} (h : Blk w b E cs) (h' : Blk w b' E' cs') (hne : E ≠ E') : b ≠ b' := by
  intro e
  subst e
  have := h.row.symm.trans h'.row
  simp at this
  exact hne this.2
theorem FsDone.step {w w5 w' : World} {zs : List SlT} {k i g gn : Nat} {x : SlT} {cur : List Value} (hF : FamOk w 32 1 zs) (hD : FsDone w zs k i) (hk : zs[k]? = some x) (hi : i < x.n) (hx : x.a = some ⟨g, 0, none⟩) (hB : Blk w g 32 cur) (hl : x.n * 1 ≤ cur.length)
    (f5 : Fr noB w w5) (hBn : Blk w5 gn 113 (mkC k i)) (hB' : Blk w' g 32 (cur.take i ++ [.slice (some ⟨gn, 0, none⟩) 1 1] ++ cur.drop (i + 1))) (f6 : Fr (fun b => b = g) w5 w') : FamOk w' 32 1 zs ∧ FsDone w' zs k (i + 1) := by
  have hF5 := hF.fr f5 (fun _ _ e => e)
  obtain ⟨val, h1, h2⟩ := (hD.frN hF f5).ex
  have hB5 := hB.frN f5
  let val' : Nat → Nat → List Value := fun k2 i2 => if k2 = k ∧ i2 = i then [.slice (some ⟨gn, 0, none⟩) 1 1] else val k2 i2
  have hvk : val' k i = [.slice (some ⟨gn, 0, none⟩) 1 1] := by simp [val']
  have hvo : ∀ k2 i2, ¬ (k2 = k ∧ i2 = i) → val' k2 i2 = val k2 i2 := fun k2 i2 e => by simp only [val']; rw [if_neg e]
  have h1' : FamDone w5 1 zs val' k i := ⟨fun k' i' y hy hy2 hb j hj => by rw [hvo k' i' (by omega)]; exact h1.cell k' i' y hy hy2 hb j hj⟩
  obtain ⟨q1, q2, _⟩ := fam_step hF5 h1' hk hi hx hB5 hl (by rw [hvk]; rfl) hvk.symm (by rw [Nat.mul_one]; exact hB') f6
  refine ⟨q1, val', q2, fun k' i' y hy hy2 hb => ?_⟩
  by_cases e : k' = k ∧ i' = i
  · obtain ⟨rfl, rfl⟩ := e
    exact ⟨gn, hvk, hBn.fr f6 (blk_ne hBn hB5 (by decide))⟩
  · obtain ⟨g', e', hB2⟩ := h2 k' i' y hy hy2 (by unfold befo at hb ⊢; omega)
    exact ⟨g', by rw [hvo k' i' e]; exact e', hB2.fr f6 (blk_ne hB2 hB5 (by decide))⟩
end Go.Proofs.YbzaawGreat
