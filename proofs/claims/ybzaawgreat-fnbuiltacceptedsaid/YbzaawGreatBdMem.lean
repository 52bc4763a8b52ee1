/-  Lists of bindings in memory.  -/
import Derived.Test.YbzaawGreatSubstF
namespace Go.Proofs.YbzaawGreat
open Go.Wf Go.Deep
set_option linter.unusedSimpArgs false
set_option linter.unusedVariables false

def BdA.enc (b : BdA) : List Value := [.string b.nm, .slice b.fa (tsize b.g) b.fc]
def encBs (bs : List BdA) : List Value := bs.flatMap BdA.enc
theorem encBs_length (l : List BdA) : (encBs l).length = l.length * 2 := by
  unfold encBs
  induction l with
  | nil => rfl
  | cons t r ih => simp only [List.flatMap_cons, List.length_append, ih, List.length_cons]; simp [BdA.enc]; omega
theorem encBs_snoc (l : List BdA) (b : BdA) : encBs (l ++ [b]) = encBs l ++ [.string b.nm, .slice b.fa (tsize b.g) b.fc] := by
  simp [encBs, BdA.enc]
/-- The slice reads, in H, as these bindings. -/
structure BsH (H : Heap) (a : Option Addr) (n : Nat) (bs : List BdA) : Prop where
  len : n = bs.length
  sl : SlH H 2 a n (encBs bs)
  f : ∀ b ∈ bs, NdH H b.fa (tsize b.g) (lay 0 b.g)
section
variable {H : Heap} {a : Option Addr} {n : Nat} {bs : List BdA}
theorem BsH.mono {H' : Heap} (h : BsH H a n bs) (hl : HLe H H') : BsH H' a n bs := ⟨h.len, h.sl.mono hl, fun b hb => (h.f b hb).mono hl⟩
theorem BsH.at_ (h : BsH H a n bs) (i j : Nat) (hi : i < n) (v : Value) (hj : j < 2) (hv : (bs.getD i bd0).enc[j]? = some v) : H (ablk a) (aoff a + i * 2 + j) = some v := by
  rw [Nat.add_assoc]
  refine h.sl.cell _ _ ?_
  have hi' : i < bs.length := by rw [← h.len]; exact hi
  have := flat_get BdA.enc 2 bs i j bs[i] (fun _ => rfl) (List.getElem?_eq_getElem hi') hj
  show (bs.flatMap BdA.enc)[i * 2 + j]? = _
  rw [this]
  rw [show bs.getD i bd0 = bs[i] by simp [hi']] at hv
  exact hv
theorem BsH.c0 (h : BsH H a n bs) (i : Nat) (hi : i < n) : H (ablk a) (aoff a + i * 2) = some (.string (bs.getD i bd0).nm) := h.at_ i 0 hi _ (by omega) rfl
theorem BsH.c1 (h : BsH H a n bs) (i : Nat) (hi : i < n) : H (ablk a) (aoff a + i * 2 + 1) = some (.slice (bs.getD i bd0).fa (tsize (bs.getD i bd0).g) (bs.getD i bd0).fc) := h.at_ i 1 hi _ (by omega) rfl
theorem BsH.fI (h : BsH H a n bs) (i : Nat) (hi : i < n) : NdH H (bs.getD i bd0).fa (tsize (bs.getD i bd0).g) (lay 0 (bs.getD i bd0).g) := h.f _ (bd_mem (by rw [← h.len]; exact hi))
end
/-- The bindings are formulas, and not too great. -/
structure BsOk (bs : List BdA) : Prop where
  ok : ∀ b ∈ bs, BdOk b
  sz : ∀ b ∈ bs, tsize b.g ≤ 1048576
  nm : ∀ b ∈ bs, ∀ i, ((lay 0 b.g).getD i nd0).name.size ≤ 9223372036854775807
theorem BdOk.wf {b : BdA} (h : BdOk b) : WF (lay 0 b.g) b.g := WF.of_lay h.1 h.2
theorem encBs_nil : encBs [] = [] := rfl
end Go.Proofs.YbzaawGreat
