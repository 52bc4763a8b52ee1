/-  Nodes as plain records; lists of them in memory.  -/
import Derived.Test.YbzaawGreatMut
import Derived.Test.YbzaawGreatTy2
namespace Go.Wf
theorem VL_of {P : Program} {C : World → Prop} {last : Prop} {d : Option Tmp} {ρ : Env} {next : Env → World → Prop} {r : Result Next} (h : VR P d ρ (fun ρ' w' => (C w' ∨ last) ∧ next ρ' w') r) : VL P C last d ρ next r := ⟨h.out⟩
end Go.Wf
namespace Go.Proofs.YbzaawGreat
open Go.Wf
set_option linter.unusedSimpArgs false
set_option linter.unusedVariables false

structure Nd where
  op : Int
  name : ByteArray
  l : Int
  r : Int
def Nd.enc (t : Nd) : List Value := [.int .i64 t.op, .string t.name, .int .i64 t.l, .int .i64 t.r]
def encNds (l : List Nd) : List Value := l.flatMap Nd.enc
theorem encNds_length (l : List Nd) : (encNds l).length = l.length * 4 := by
  unfold encNds
  induction l with
  | nil => rfl
  | cons t r ih => simp only [List.flatMap_cons, List.length_append, ih, List.length_cons]; simp [Nd.enc]; omega
theorem encNds_snoc (l : List Nd) (t : Nd) : encNds (l ++ [t]) = encNds l ++ [.int .i64 t.op, .string t.name, .int .i64 t.l, .int .i64 t.r] := by
  simp [encNds, Nd.enc]
def nd0 : Nd := ⟨0, ByteArray.empty, 0, 0⟩
theorem Nd.ext' {x y : Nd} (h : x.op = y.op ∧ x.name = y.name ∧ x.l = y.l ∧ x.r = y.r) : x = y := by
  obtain ⟨a, b, c, d⟩ := x; obtain ⟨a', b', c', d'⟩ := y; simp at h; simp [h]
theorem nds_eq {xs ys : List Nd} (hl : xs.length = ys.length) (h : ∀ j, j < xs.length → xs.getD j nd0 = ys.getD j nd0) : xs = ys := by
  apply List.ext_getElem hl
  intro j h1 h2
  have := h j h1
  simpa [h1, h2] using this
theorem take_snoc (xs : List Nd) (i : Nat) (h : i < xs.length) : xs.take (i + 1) = xs.take i ++ [xs.getD i nd0] := by
  rw [List.take_succ_eq_append_getElem h]; simp [h]

/-- The slice reads, in H, as these nodes. -/
structure NdH (H : Heap) (a : Option Addr) (n : Nat) (ts : List Nd) : Prop where
  len : n = ts.length
  sl : SlH H 4 a n (encNds ts)
section
variable {H : Heap} {a : Option Addr} {n : Nat} {ts : List Nd}
theorem NdH.mono {H' : Heap} (h : NdH H a n ts) (hl : HLe H H') : NdH H' a n ts := ⟨h.len, h.sl.mono hl⟩
theorem NdH.at_ (h : NdH H a n ts) (i j : Nat) (hi : i < n) (v : Value) (hj : j < 4) (hv : (ts.getD i nd0).enc[j]? = some v) : H (ablk a) (aoff a + i * 4 + j) = some v := by
  rw [Nat.add_assoc]
  refine h.sl.cell _ _ ?_
  have hi' : i < ts.length := by rw [← h.len]; exact hi
  have := flat_get Nd.enc 4 ts i j ts[i] (fun _ => rfl) (List.getElem?_eq_getElem hi') hj
  show (ts.flatMap Nd.enc)[i * 4 + j]? = _
  rw [this]
  rw [show ts.getD i nd0 = ts[i] by simp [hi']] at hv
  exact hv
theorem NdH.c0 (h : NdH H a n ts) (i : Nat) (hi : i < n) : H (ablk a) (aoff a + i * 4) = some (.int .i64 (ts.getD i nd0).op) := h.at_ i 0 hi _ (by omega) rfl
theorem NdH.c1 (h : NdH H a n ts) (i : Nat) (hi : i < n) : H (ablk a) (aoff a + i * 4 + 1) = some (.string (ts.getD i nd0).name) := h.at_ i 1 hi _ (by omega) rfl
theorem NdH.c2 (h : NdH H a n ts) (i : Nat) (hi : i < n) : H (ablk a) (aoff a + i * 4 + 2) = some (.int .i64 (ts.getD i nd0).l) := h.at_ i 2 hi _ (by omega) rfl
theorem NdH.c3 (h : NdH H a n ts) (i : Nat) (hi : i < n) : H (ablk a) (aoff a + i * 4 + 3) = some (.int .i64 (ts.getD i nd0).r) := h.at_ i 3 hi _ (by omega) rfl
end
/-- What the caller gets of a list of nodes that was made anew. -/
structure GotNds (E : Nat) (w w' : World) (a : Option Addr) (n c : Nat) (ts : List Nd) : Prop where
  len : n = ts.length
  own : Own w' E 4 a n c (encNds ts)
  fr : Fr noB w w'
  new : ∀ k, blkO a k → w.heap.size ≤ k
theorem GotNds.keep {E : Nat} {H : Heap} {w w' : World} {a : Option Addr} {n c : Nat} {ts : List Nd} (g : GotNds E w w' a n c ts) (hH : HS H w) : ∃ H', HLe H H' ∧ HS H' w' ∧ NdH H' a n ts := by
  obtain ⟨H', h1, h2, h3, _⟩ := g.own.keep (hH.frN g.fr) (fun k hk o => hH.off (g.new k hk) o)
  exact ⟨H', h1, h2, g.len, h3⟩

end Go.Proofs.YbzaawGreat
