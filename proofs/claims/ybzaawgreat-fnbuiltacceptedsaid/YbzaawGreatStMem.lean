/-  Lists of strings and of booleans in memory.  -/
import Derived.Test.YbzaawGreatPlain
namespace Go.Proofs.YbzaawGreat
open Go.Wf Go.Deep
set_option linter.unusedSimpArgs false
set_option linter.unusedVariables false

def strsC (ss : List ByteArray) : List Value := ss.map Value.string
/-- The slice reads, in H, as these strings. -/
structure StH (H : Heap) (a : Option Addr) (n : Nat) (ss : List ByteArray) : Prop where
  len : n = ss.length
  sl : SlH H 1 a n (strsC ss)
theorem StH.mono {H H' : Heap} {a : Option Addr} {n : Nat} {ss : List ByteArray} (h : StH H a n ss) (hl : HLe H H') : StH H' a n ss := ⟨h.len, h.sl.mono hl⟩
theorem StH.at_ {H : Heap} {a : Option Addr} {n : Nat} {ss : List ByteArray} (h : StH H a n ss) (i : Nat) (hi : i < n) : H (ablk a) (aoff a + i) = some (.string (ss.getD i emp)) := by
  refine h.sl.cell _ _ ?_
  have : i < ss.length := by rw [← h.len]; exact hi
  simp [strsC, List.getD, this]
structure BoH (H : Heap) (a : Option Addr) (n : Nat) (vs : List Bool) : Prop where
  len : n = vs.length
  sl : SlH H 1 a n (vs.map Value.bool)
theorem BoH.mono {H H' : Heap} {a : Option Addr} {n : Nat} {ss : List Bool} (h : BoH H a n ss) (hl : HLe H H') : BoH H' a n ss := ⟨h.len, h.sl.mono hl⟩
theorem BoH.at_ {H : Heap} {a : Option Addr} {n : Nat} {ss : List Bool} (h : BoH H a n ss) (i : Nat) (hi : i < n) : H (ablk a) (aoff a + i) = some (.bool (ss.getD i false)) := by
  refine h.sl.cell _ _ ?_
  have : i < ss.length := by rw [← h.len]; exact hi
  simp [List.getD, this]
/-- A list of strings that was made anew. -/
structure GotStr (w w' : World) (a : Option Addr) (n c : Nat) (ss : List ByteArray) : Prop where
  len : n = ss.length
  own : Own w' 9 1 a n c (strsC ss)
  fr : Fr noB w w'
  new : ∀ k, blkO a k → w.heap.size ≤ k
theorem GotStr.keep {H : Heap} {w w' : World} {a : Option Addr} {n c : Nat} {ss : List ByteArray} (g : GotStr w w' a n c ss) (hH : HS H w) : ∃ H', HLe H H' ∧ HS H' w' ∧ StH H' a n ss := by
  obtain ⟨H', h1, h2, h3, _⟩ := g.own.keep (hH.frN g.fr) (fun k hk o => hH.off (g.new k hk) o)
  exact ⟨H', h1, h2, g.len, h3⟩
theorem strs_eq {xs ys : List ByteArray} (hl : xs.length = ys.length) (h : ∀ j, j < xs.length → xs.getD j emp = ys.getD j emp) : xs = ys := by
  apply List.ext_getElem hl
  intro j h1 h2
  have := h j h1
  simpa [h1, h2] using this

theorem strsC_snoc (l : List ByteArray) (x : ByteArray) : strsC (l ++ [x]) = strsC l ++ [.string x] := by simp [strsC]
end Go.Proofs.YbzaawGreat
