/-  An argument of type []impl.Token, opened: it reads as a list of records.  -/
import Derived.Test.YbzabwNdBase
import Derived.Test.YbzabwProg
import Derived.ProofKit
import Derived.Deep.Slices
import Derived.WideKeyArgs
namespace Go.Proofs.Ybzabw
open Go.Wf Go.Deep Go.ChangeShapes Go.WideShapes
set_option linter.unusedVariables false

theorem cells3 : Yabo.prog.cellsOf 3 = 1 := by kernel_rfl
theorem cells9 : Yabo.prog.cellsOf 9 = 1 := by kernel_rfl
theorem cells59 : Yabo.prog.cellsOf 59 = 4 := by kernel_rfl

set_option maxRecDepth 100000
theorem und59 : ∃ f0 f1 f2 f3 : Field, Yabo.prog.underlying 59 = some (.struct #[f0, f1, f2, f3]) ∧ f0.offset = 0 ∧ f1.offset = 1 ∧ f2.offset = 2 ∧ f3.offset = 3 ∧ f0.type = 3 ∧ f1.type = 9 ∧ f2.type = 3 ∧ f3.type = 3 :=
  ⟨_, _, _, _, Yabo.underlying59, rfl, rfl, rfl, rfl, rfl, rfl, rfl, rfl⟩
section
variable {H : Type} {enc : TypeId × Value → H} {W : World} {base : Nat} {sp : Nat → Bool} {held : Bool}
theorem open_tok {fuel : Nat} {cs : List Value} {x : DataW H × List MemPlace} (h : DataW.trod enc Yabo.prog W base sp held fuel 59 cs = some x) (hl : cs.length = 4) : ∃ t : Nd, cs = t.enc ∧ t.name.size ≤ maxLen := by
  obtain ⟨f0, f1, f2, f3, hu, o0, o1, o2, o3, p0, p1, p2, p3⟩ := und59
  obtain ⟨xs, k, hk, hxy, _, hxl, hf⟩ := DataW.trod_struct hu h
  match xs, hxl, cs, hl with
  | [y0, y1, y2, y3], _, [v0, v1, v2, v3], _ =>
    have g0 := hf 0 _ rfl
    have g1 := hf 1 _ rfl
    have g2 := hf 2 _ rfl
    have g3 := hf 3 _ rfl
    simp [o0, o1, o2, o3, p0, p1, p2, p3, cells3, cells9] at g0 g1 g2 g3
    obtain ⟨n0, e0, _⟩ := DataW.trod_int Yabo.underlying3 g0
    obtain ⟨n1, e1, _, hsz⟩ := DataW.trod_string Yabo.underlying9 g1
    obtain ⟨n2, e2, _⟩ := DataW.trod_int Yabo.underlying3 g2
    obtain ⟨n3, e3, _⟩ := DataW.trod_int Yabo.underlying3 g3
    simp at e0 e1 e2 e3
    exact ⟨⟨n0, n1, n2, n3⟩, by simp [Nd.enc, e0, e1, e2, e3], hsz⟩

theorem Fr.sameAt {W' : World} (h : Fr noB W W') {p : MemPlace} (hp : p.block < W.heap.size) : W.sameAt W' p := by
  cases p with
  | cell b o => exact World.cell?_of_block (w := W) (h.block b hp (fun e => e))
  | map b => exact h.block b hp (fun e => e)
theorem spot_none {a : Addr} {v : Value} (h : W.cell? a = some v) : a = ⟨a.block, a.off, none⟩ := by
  obtain ⟨b, o, s⟩ := a
  cases s with
  | none => rfl
  | some x => exfalso; unfold World.cell? at h; simp at h; split at h <;> simp at h

/-- A list of nodes lies there. -/
theorem open_toks {v : Value} {d : DataW H} {ps : List MemPlace} {r : Reach} {b0 : Nat} (hok : Value.okWide Yabo.prog W r b0 43 v) (h : DataW.Trod enc Yabo.prog W base sp held 43 v d ps) :
    ∃ a n c xs, v = .slice a n c ∧ NdH (allH W) a n xs ∧ n ≤ maxLen ∧ ∀ i, (xs.getD i nd0).name.size ≤ maxLen := by
  obtain ⟨a, n, c, rfl⟩ := okWide_slice Yabo.underlying43 hok
  obtain ⟨fuel, h⟩ := h
  rcases open_slice Yabo.underlying43 h with ⟨h0, _⟩ | ⟨a', len, cap, m, k, D, Pl, h0, hb, hl, hm, hmm, _, hx⟩
  · simp [Value.cells] at h0
    obtain ⟨rfl, rfl, rfl⟩ := h0
    exact ⟨none, 0, 0, [], rfl, ⟨rfl, SlH.nil _ _ _⟩, Nat.zero_le _, fun i => Nat.zero_le _⟩
  · simp [Value.cells] at h0
    obtain ⟨rfl, rfl, rfl⟩ := h0
    have hnm : n ≤ m := by rw [hmm]; split <;> omega
    haveI hinh : Inhabited Nd := ⟨nd0⟩
    obtain ⟨T, hT⟩ := choose_lt (n := n) (p := fun i t => (∀ j, j < 4 → W.cell? (a'.add (i * 4 + j)) = (Nd.enc t)[j]?) ∧ t.name.size ≤ maxLen) (fun i hi => by
      obtain ⟨cs', h1, h2⟩ := hx i (by omega)
      rw [cells59] at h1
      obtain ⟨_, hlen, hcell⟩ := World.cells?_some h1
      obtain ⟨t, rfl, hsz⟩ := open_tok h2 hlen
      exact ⟨t, fun j hj => by rw [← add_add]; exact hcell j hj, hsz⟩)
    have ha : n = 0 ∨ a' = ⟨a'.block, a'.off, none⟩ := by
      by_cases h0 : n = 0
      · exact .inl h0
      · exact .inr (spot_none (W := W) (v := .int .i64 (T 0).op) (by have := (hT 0 (by omega)).1 0 (by omega); simpa [Addr.add, Nd.enc] using this))
    refine ⟨some a', n, c, (List.range n).map T, rfl, ⟨by simp, ⟨by rw [encNds_length]; simp, ?_, ?_⟩⟩, Nat.le_trans hl hm, fun i => ?_⟩
    · exact ha.imp id (fun e => by rw [e]; rfl)
    · intro j v hv
      have hj : j < (encNds ((List.range n).map T)).length := (List.getElem?_eq_some_iff.1 hv).1
      rw [encNds_length] at hj
      simp at hj
      have hi : j / 4 < n := by omega
      have hjj : j = j / 4 * 4 + j % 4 := by omega
      have hg := flat_get Nd.enc 4 ((List.range n).map T) (j / 4) (j % 4) (T (j / 4)) (fun _ => rfl) (by simp [hi]) (by omega)
      rw [← hjj] at hg
      have hc := (hT (j / 4) hi).1 (j % 4) (by omega)
      rw [← hjj, ← hg, show ((List.range n).map T).flatMap Nd.enc = encNds ((List.range n).map T) from rfl, hv] at hc
      have e := ha.resolve_left (by omega)
      have : a'.add j = ⟨a'.block, a'.off + j, none⟩ := by
        unfold Addr.add
        by_cases hj0 : j = 0
        · rw [if_pos hj0, hj0]; exact e
        · rw [if_neg hj0]
      rw [this] at hc
      exact hc
    · by_cases hi : i < n
      · simp [List.getD, hi]; exact (hT i hi).2
      · simp [List.getD, hi, nd0]
end
end Go.Proofs.Ybzabw
