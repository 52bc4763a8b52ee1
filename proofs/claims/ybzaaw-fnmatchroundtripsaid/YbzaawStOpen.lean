/-  Arguments of the types []string and []bool, opened.  -/
import Derived.Test.YbzaawStMem
import Derived.Test.YbzaawProg
import Derived.ProofKit
import Derived.Deep.Slices
import Derived.Deep.Grids
import Derived.SliceStrings
import Derived.WideKeyArgs
namespace Go.Proofs.Ybzaaw
open Go.Wf Go.Deep Go.ChangeShapes Go.WideShapes
set_option linter.unusedVariables false

section
variable {H : Type} {enc : TypeId × Value → H} {W : World} {base : Nat}
theorem Fr.sameAt {W' : World} (h : Fr noB W W') {p : MemPlace} (hp : p.block < W.heap.size) : W.sameAt W' p := by
  cases p with
  | cell b o => exact World.cell?_of_block (w := W) (h.block b hp (fun e => e))
  | map b => exact h.block b hp (fun e => e)
theorem spot_none {a : Addr} {v : Value} (h : W.cell? a = some v) : a = ⟨a.block, a.off, none⟩ := by
  obtain ⟨b, o, s⟩ := a
  cases s with
  | none => rfl
  | some x => exfalso; unfold World.cell? at h; simp at h; split at h <;> simp at h
/-- A row of single cells. -/
theorem row_of_cells {x : Addr} {len : Nat} {cs : List Value} (hl : cs.length = len) (hcell : ∀ i, i < len → W.cell? (x.add i) = cs[i]?) : SlH (allH W) 1 (some x) len cs := by
  refine ⟨by omega, ?_, ?_⟩
  · by_cases h0 : len = 0
    · exact .inl h0
    · have h1 : 0 < cs.length := by omega
      have hc := hcell 0 (by omega)
      rw [List.getElem?_eq_getElem h1] at hc
      have := spot_none hc
      simp [Addr.add] at this
      exact .inr (by rw [this]; rfl)
  · intro j v hv
    have hj : j < len := by have := (List.getElem?_eq_some_iff.1 hv).1; omega
    have h1 : 0 < cs.length := by omega
    have e : x = ⟨x.block, x.off, none⟩ := by
      have hc := hcell 0 (by omega)
      rw [List.getElem?_eq_getElem h1] at hc
      have := spot_none hc
      simpa [Addr.add] using this
    have hc := hcell j hj
    have : x.add j = ⟨x.block, x.off + j, none⟩ := by
      unfold Addr.add
      by_cases hj0 : j = 0
      · rw [if_pos hj0, hj0]; exact e
      · rw [if_neg hj0]
    rw [this, hv] at hc
    exact hc
set_option maxRecDepth 100000 in
theorem open_strs {v : Value} {d : DataW H} {ps : List MemPlace} {r : Reach} {b0 : Nat} (hok : Value.okWide Yaao.prog W r b0 42 v) (h : DataW.Trod enc Yaao.prog W base (fun _ => true) true 42 v d ps) :
    ∃ a n c ss, v = .slice a n c ∧ StH (allH W) a n ss ∧ n ≤ maxLen ∧ ∀ i, (ss.getD i emp).size ≤ maxLen := by
  obtain ⟨a, n, c, rfl⟩ := okWide_slice Yaao.underlying42 hok
  obtain ⟨fuel, hf⟩ := h
  rcases open_strings Yaao.underlying42 Yaao.underlying9 (by kernel_rfl) hf with ⟨hcs, _⟩ | ⟨x, l, c, ss, hcs, _, hl, hm, hz, _, hcell, hws⟩
  · simp [Value.cells] at hcs
    obtain ⟨rfl, rfl, rfl⟩ := hcs
    exact ⟨none, 0, 0, [], rfl, ⟨rfl, SlH.nil _ _ _⟩, Nat.zero_le _, fun i => Nat.zero_le _⟩
  · simp [Value.cells] at hcs
    obtain ⟨rfl, rfl, rfl⟩ := hcs
    have hz' : ss.length = c := by simpa using hz
    refine ⟨some x, n, c, ss.take n, rfl, ⟨by simp; omega, row_of_cells (by simp [strsC]; omega) (fun i hi => ?_)⟩, Nat.le_trans hl hm, fun i => ?_⟩
    · have hi' : i < ss.length := by omega
      have := hcell i hi'
      rw [this]
      simp [strsC, hi, hi']
    · by_cases hi : i < (ss.take n).length
      · rw [show (ss.take n).getD i emp = (ss.take n)[i] by rw [List.getD, List.getElem?_eq_getElem hi]; rfl]
        exact hws _ (List.mem_of_mem_take (List.getElem_mem hi))
      · rw [show (ss.take n).getD i emp = emp by simp [List.getD, List.getElem?_eq_none (Nat.le_of_not_lt hi)]]
        exact Nat.zero_le _
set_option maxRecDepth 100000 in
theorem open_bos {v : Value} {d : DataW H} {ps : List MemPlace} {r : Reach} {b0 : Nat} (hok : Value.okWide Yaao.prog W r b0 27 v) (h : DataW.Trod enc Yaao.prog W base (fun _ => true) true 27 v d ps) :
    ∃ a n c vs, v = .slice a n c ∧ BoH (allH W) a n vs ∧ n ≤ maxLen := by
  obtain ⟨a, n, c, rfl⟩ := okWide_slice Yaao.underlying27 hok
  obtain ⟨fuel, hf⟩ := h
  rcases open_bools Yaao.underlying27 Yaao.underlying4 (by kernel_rfl) hf with ⟨hcs, _⟩ | ⟨x, l, c, B, hcs, _, hl, hm, _, hcell⟩
  · simp [Value.cells] at hcs
    obtain ⟨rfl, rfl, rfl⟩ := hcs
    exact ⟨none, 0, 0, [], rfl, ⟨rfl, SlH.nil _ _ _⟩, Nat.zero_le _⟩
  · simp [Value.cells] at hcs
    obtain ⟨rfl, rfl, rfl⟩ := hcs
    refine ⟨some x, n, c, (List.range n).map B, rfl, ⟨by simp, row_of_cells (by simp) (fun i hi => ?_)⟩, Nat.le_trans hl hm⟩
    rw [hcell i (by omega)]
    simp [hi]
end
end Go.Proofs.Ybzaaw
