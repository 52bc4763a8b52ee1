/-  Two owned slices as a family.  -/
import Derived.Test.YbzaawGreatOwnB
namespace Go.Wf
/-- Two owned slices in blocks of their own are a family. -/
theorem fam2 {w : World} {E sz n c m d : Nat} {a b : Option Addr} {xs ys : List Value} (h1 : Own w E sz a n c xs) (h2 : Own w E sz b m d ys) (hd : ∀ k, blkO a k → ¬ blkO b k) : FamOk w E sz [⟨a, n, c⟩, ⟨b, m, d⟩] := by
  refine ⟨fun k x hx => ?_, fun k k' x x' hx hx' hn hn' he => ?_⟩
  · match k, hx with
    | 0, hx => simp at hx; subst hx; exact h1.rowOf
    | 1, hx => simp at hx; subst hx; exact h2.rowOf
    | k + 2, hx => simp at hx
  · match k, k', hx, hx' with
    | 0, 0, _, _ => rfl
    | 1, 1, _, _ => rfl
    | 0, 1, hx, hx' =>
      simp at hx hx'; subst hx; subst hx'
      exact absurd (show blkO b (ablk a) by rw [he]; exact ablk_blkO h2.isA hn') (hd _ (ablk_blkO h1.isA hn))
    | 1, 0, hx, hx' =>
      simp at hx hx'; subst hx; subst hx'
      exact absurd (show blkO b (ablk a) by rw [← he]; exact ablk_blkO h2.isA hn) (hd _ (ablk_blkO h1.isA hn'))
    | k + 2, _, hx, _ => simp at hx
    | 0, k + 2, _, hx' => simp at hx'
    | 1, k + 2, _, hx' => simp at hx'
theorem famB2 {n c m d : Nat} {a b : Option Addr} (ha : IsA a n) (hb : IsA b m) {k : Nat} (h : famB [⟨a, n, c⟩, ⟨b, m, d⟩] k) : blkO a k ∨ blkO b k := by
  obtain ⟨x, hx, hn, rfl⟩ := h
  simp at hx
  rcases hx with rfl | rfl
  · exact .inl (ablk_blkO ha hn)
  · exact .inr (ablk_blkO hb hn)
end Go.Wf
