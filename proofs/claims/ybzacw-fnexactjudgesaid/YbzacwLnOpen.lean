/-  An argument of type []impl.Line, opened: it reads as a list of lines.  -/
import Derived.Test.YbzacwLnsB
import Derived.Test.YbzacwProg
import Derived.ProofKit
import Derived.Deep.Slices
import Derived.WideKeyArgs
namespace Go.Proofs.Ybzacw
open Go.Wf Go.Deep Go.ChangeShapes Go.WideShapes
set_option linter.unusedVariables false

theorem cells3 : Yaco.prog.cellsOf 3 = 1 := by kernel_rfl
theorem cells9 : Yaco.prog.cellsOf 9 = 1 := by kernel_rfl
theorem cells53 : Yaco.prog.cellsOf 53 = 4 := by kernel_rfl
theorem cells31 : Yaco.prog.cellsOf 31 = 5 := by kernel_rfl
theorem cells29 : Yaco.prog.cellsOf 29 = 1 := by kernel_rfl
theorem cells25 : Yaco.prog.cellsOf 25 = 1 := by kernel_rfl

set_option maxRecDepth 100000
theorem und53 : ∃ f0 f1 f2 f3 : Field, Yaco.prog.underlying 53 = some (.struct #[f0, f1, f2, f3]) ∧ f0.offset = 0 ∧ f1.offset = 1 ∧ f2.offset = 2 ∧ f3.offset = 3 ∧ f0.type = 3 ∧ f1.type = 9 ∧ f2.type = 3 ∧ f3.type = 3 :=
  ⟨_, _, _, _, Yaco.underlying53, rfl, rfl, rfl, rfl, rfl, rfl, rfl, rfl⟩
theorem und31 : ∃ f0 f1 f2 f3 f4 : Field, Yaco.prog.underlying 31 = some (.struct #[f0, f1, f2, f3, f4]) ∧ f0.offset = 0 ∧ f1.offset = 1 ∧ f2.offset = 2 ∧ f3.offset = 3 ∧ f4.offset = 4 ∧ f0.type = 3 ∧ f1.type = 29 ∧ f2.type = 3 ∧ f3.type = 25 ∧ f4.type = 3 :=
  ⟨_, _, _, _, _, Yaco.underlying31, rfl, rfl, rfl, rfl, rfl, rfl, rfl, rfl, rfl, rfl⟩
section
variable {H : Type} {enc : TypeId × Value → H} {W : World} {base : Nat} {sp : Nat → Bool} {held : Bool}
theorem Fr.sameAt {W' : World} (h : Fr noB W W') {p : MemPlace} (hp : p.block < W.heap.size) : W.sameAt W' p := by
  cases p with
  | cell b o => exact World.cell?_of_block (w := W) (h.block b hp (fun e => e))
  | map b => exact h.block b hp (fun e => e)
theorem spot_none {a : Addr} {v : Value} (h : W.cell? a = some v) : a = ⟨a.block, a.off, none⟩ := by
  obtain ⟨b, o, s⟩ := a
  cases s with
  | none => rfl
  | some x => exfalso; unfold World.cell? at h; simp at h; split at h <;> simp at h
/-- A row of records of one size. -/
theorem row_gen {τ : Type} (f : τ → List Value) (sz : Nat) (hsz : 0 < sz) (hf : ∀ t, (f t).length = sz) {a' : Addr} {n : Nat} {T : Nat → τ} (hT : ∀ i, i < n → ∀ j, j < sz → W.cell? (a'.add (i * sz + j)) = (f (T i))[j]?) : SlH (allH W) sz (some a') n (((List.range n).map T).flatMap f) := by
  have hlen : (((List.range n).map T).flatMap f).length = n * sz := by
    have : ∀ l : List τ, (l.flatMap f).length = l.length * sz := fun l => by
      induction l with
      | nil => simp
      | cons t r ih => simp only [List.flatMap_cons, List.length_append, ih, List.length_cons, hf, Nat.add_mul]; omega
    rw [this]; simp
  have ha : n = 0 ∨ a' = ⟨a'.block, a'.off, none⟩ := by
    by_cases h0 : n = 0
    · exact .inl h0
    · have h1 := hT 0 (by omega) 0 hsz
      rw [Nat.zero_mul, Nat.add_zero, List.getElem?_eq_getElem (by rw [hf]; exact hsz)] at h1
      have := spot_none h1
      simp [Addr.add] at this
      exact .inr (by rw [this])
  refine ⟨hlen, ha.imp id (fun e => by rw [e]; rfl), ?_⟩
  intro j v hv
  have hj : j < n * sz := by rw [← hlen]; exact (List.getElem?_eq_some_iff.1 hv).1
  have hi : j / sz < n := (Nat.div_lt_iff_lt_mul hsz).2 hj
  have hm : j % sz < sz := Nat.mod_lt _ hsz
  have hjj : j / sz * sz + j % sz = j := by rw [Nat.mul_comm]; exact Nat.div_add_mod _ _
  have hg := flat_get f sz ((List.range n).map T) (j / sz) (j % sz) (T (j / sz)) hf (by simp [hi]) hm
  rw [hjj] at hg
  have hc := hT (j / sz) hi (j % sz) hm
  rw [hjj, ← hg, hv] at hc
  have e := ha.resolve_left (Nat.ne_of_gt (Nat.lt_of_le_of_lt (Nat.zero_le _) hi))
  have : a'.add j = ⟨a'.block, a'.off + j, none⟩ := by
    unfold Addr.add
    by_cases hj0 : j = 0
    · rw [if_pos hj0, hj0]; exact e
    · rw [if_neg hj0]
  rw [this] at hc
  exact hc
theorem open_node {fuel : Nat} {cs : List Value} {x : DataW H × List MemPlace} (h : DataW.trod enc Yaco.prog W base sp held fuel 53 cs = some x) (hl : cs.length = 4) : ∃ t : Nd, cs = t.enc ∧ t.name.size ≤ maxLen := by
  obtain ⟨f0, f1, f2, f3, hu, o0, o1, o2, o3, p0, p1, p2, p3⟩ := und53
  obtain ⟨xs, k, hk, hxy, _, hxl, hf⟩ := DataW.trod_struct hu h
  match xs, hxl, cs, hl with
  | [y0, y1, y2, y3], _, [v0, v1, v2, v3], _ =>
    have g0 := hf 0 _ rfl
    have g1 := hf 1 _ rfl
    have g2 := hf 2 _ rfl
    have g3 := hf 3 _ rfl
    simp [o0, o1, o2, o3, p0, p1, p2, p3, cells3, cells9] at g0 g1 g2 g3
    obtain ⟨n0, e0, _⟩ := DataW.trod_int Yaco.underlying3 g0
    obtain ⟨n1, e1, _, hsz⟩ := DataW.trod_string Yaco.underlying9 g1
    obtain ⟨n2, e2, _⟩ := DataW.trod_int Yaco.underlying3 g2
    obtain ⟨n3, e3, _⟩ := DataW.trod_int Yaco.underlying3 g3
    simp at e0 e1 e2 e3
    exact ⟨⟨n0, n1, n2, n3⟩, by simp [Nd.enc, e0, e1, e2, e3], hsz⟩
/-- A list of nodes lies there. -/
theorem open_nodesC {fuel : Nat} {v : Value} {x : DataW H × List MemPlace} (h : DataW.trod enc Yaco.prog W base sp held fuel 29 [v] = some x) :
    ∃ a c xs, v = .slice a xs.length c ∧ NdH (allH W) a xs.length xs ∧ xs.length ≤ maxLen ∧ ∀ i, (xs.getD i nd0).name.size ≤ maxLen := by
  rcases open_slice Yaco.underlying29 h with ⟨h0, _⟩ | ⟨a', n, cap, m, k, D, Pl, h0, hb, hl, hm, hmm, _, hx⟩
  · simp at h0
    exact ⟨none, 0, [], h0, ⟨rfl, SlH.nil _ _ _⟩, Nat.zero_le _, fun i => Nat.zero_le _⟩
  · simp at h0
    have hnm : n ≤ m := by rw [hmm]; split <;> omega
    haveI hinh : Inhabited Nd := ⟨nd0⟩
    obtain ⟨T, hT⟩ := choose_lt (n := n) (p := fun i t => (∀ j, j < 4 → W.cell? (a'.add (i * 4 + j)) = (Nd.enc t)[j]?) ∧ t.name.size ≤ maxLen) (fun i hi => by
      obtain ⟨cs', h1, h2⟩ := hx i (by omega)
      rw [cells53] at h1
      obtain ⟨_, hlen, hcell⟩ := World.cells?_some h1
      obtain ⟨t, rfl, ht⟩ := open_node h2 hlen
      exact ⟨t, fun j hj => by rw [← add_add]; exact hcell j hj, ht⟩)
    have hlr : ((List.range n).map T).length = n := by simp
    have hs := row_gen (W := W) Nd.enc 4 (by omega) (fun _ => rfl) (fun i hi => (hT i hi).1)
    refine ⟨some a', cap, (List.range n).map T, by rw [hlr]; exact h0, ⟨rfl, by rw [hlr]; exact hs⟩, by rw [hlr]; exact Nat.le_trans hl hm, fun i => ?_⟩
    by_cases hi : i < n
    · rw [show ((List.range n).map T).getD i nd0 = T i by simp [List.getD, hi]]
      exact (hT i hi).2
    · rw [show ((List.range n).map T).getD i nd0 = nd0 by simp [List.getD, hi]]
      exact Nat.zero_le _
/-- A list of integers lies there. -/
theorem open_intsC {fuel : Nat} {v : Value} {x : DataW H × List MemPlace} (h : DataW.trod enc Yaco.prog W base sp held fuel 25 [v] = some x) :
    ∃ a c zs, v = .slice a zs.length c ∧ InH (allH W) a zs.length zs ∧ zs.length ≤ maxLen := by
  rcases open_ints Yaco.underlying25 Yaco.underlying3 (by kernel_rfl) h with ⟨h0, _⟩ | ⟨a', n, cap, zs, h0, _, hl, hm, hz, _, hcell, _⟩
  · simp at h0
    exact ⟨none, 0, [], h0, ⟨rfl, SlH.nil _ _ _⟩, Nat.zero_le _⟩
  · simp at h0
    have hnz : n ≤ zs.length := by rw [hz]; split <;> omega
    have hs := row_gen (W := W) (fun z : Int => [Value.int .i64 z]) 1 (by omega) (fun _ => rfl) (a' := a') (n := n) (T := fun i => zs.getD i 0) (fun i hi j hj => by
      obtain rfl : j = 0 := by omega
      rw [Nat.mul_one, Nat.add_zero, hcell i (by omega)]; rfl)
    have e : (List.range n).map (fun i => zs.getD i 0) = zs.take n := by
      apply List.ext_getElem
      · simp; omega
      · intro i h1 h2
        simp at h1
        have : i < zs.length := by omega
        simp [this]
    have hlt : (zs.take n).length = n := by simp; omega
    refine ⟨some a', cap, zs.take n, by rw [hlt]; exact h0, ⟨rfl, ?_⟩, by rw [hlt]; exact Nat.le_trans hl hm⟩
    rw [hlt]
    rw [e] at hs
    have e2 : (zs.take n).flatMap (fun z : Int => [Value.int .i64 z]) = intC (zs.take n) := by
      unfold intC
      generalize zs.take n = l
      induction l with
      | nil => rfl
      | cons z r ih => simp [ih]
    rw [e2] at hs
    exact hs
theorem open_line {fuel : Nat} {cs : List Value} {x : DataW H × List MemPlace} (h : DataW.trod enc Yaco.prog W base sp held fuel 31 cs = some x) (hl : cs.length = 5) : ∃ t : LnA, cs = t.enc ∧ LnH (allH W) t.fa t.ra t.ln ∧ t.ln.f.length ≤ maxLen ∧ t.ln.refs.length ≤ maxLen ∧ ∀ i, (t.ln.f.getD i nd0).name.size ≤ maxLen := by
  obtain ⟨f0, f1, f2, f3, f4, hu, o0, o1, o2, o3, o4, p0, p1, p2, p3, p4⟩ := und31
  obtain ⟨xs, k, hk, hxy, _, hxl, hf⟩ := DataW.trod_struct hu h
  match xs, hxl, cs, hl with
  | [y0, y1, y2, y3, y4], _, [v0, v1, v2, v3, v4], _ =>
    have g0 := hf 0 _ rfl
    have g1 := hf 1 _ rfl
    have g2 := hf 2 _ rfl
    have g3 := hf 3 _ rfl
    have g4 := hf 4 _ rfl
    simp [o0, o1, o2, o3, o4, p0, p1, p2, p3, p4, cells3, cells29, cells25] at g0 g1 g2 g3 g4
    obtain ⟨n0, e0, _⟩ := DataW.trod_int Yaco.underlying3 g0
    obtain ⟨fa, fc, ns, e1, t1, m1, s1⟩ := open_nodesC g1
    obtain ⟨n2, e2, _⟩ := DataW.trod_int Yaco.underlying3 g2
    obtain ⟨ra, rc, zs, e3, t3, m3⟩ := open_intsC g3
    obtain ⟨n4, e4, _⟩ := DataW.trod_int Yaco.underlying3 g4
    simp at e0 e2 e4
    exact ⟨⟨fa, fc, ra, rc, ⟨n0, ns, n2, zs, n4⟩⟩, by simp [LnA.enc, lnC, e0, e1, e2, e3, e4], ⟨t1, t3⟩, m1, m3, s1⟩
/-- A list of lines lies there. -/
theorem open_lines {v : Value} {d : DataW H} {ps : List MemPlace} {r : Reach} {b0 : Nat} (hok : Value.okWide Yaco.prog W r b0 48 v) (h : DataW.Trod enc Yaco.prog W base sp held 48 v d ps) :
    ∃ a n c xs, v = .slice a n c ∧ LsH (allH W) a n xs ∧ n ≤ maxLen ∧ ∀ x ∈ xs, x.ln.f.length ≤ maxLen ∧ x.ln.refs.length ≤ maxLen ∧ ∀ i, (x.ln.f.getD i nd0).name.size ≤ maxLen := by
  obtain ⟨a, n, c, rfl⟩ := okWide_slice Yaco.underlying48 hok
  obtain ⟨fuel, h⟩ := h
  rcases open_slice Yaco.underlying48 h with ⟨h0, _⟩ | ⟨a', len, cap, m, k, D, Pl, h0, hb, hl, hm, hmm, _, hx⟩
  · simp [Value.cells] at h0
    obtain ⟨rfl, rfl, rfl⟩ := h0
    exact ⟨none, 0, 0, [], rfl, ⟨rfl, SlH.nil _ _ _, fun _ h => (by cases h)⟩, Nat.zero_le _, fun _ h => (by cases h)⟩
  · simp [Value.cells] at h0
    obtain ⟨rfl, rfl, rfl⟩ := h0
    have hnm : n ≤ m := by rw [hmm]; split <;> omega
    haveI hinh : Inhabited LnA := ⟨la0⟩
    obtain ⟨T, hT⟩ := choose_lt (n := n) (p := fun i t => (∀ j, j < 5 → W.cell? (a'.add (i * 5 + j)) = (LnA.enc t)[j]?) ∧ LnH (allH W) t.fa t.ra t.ln ∧ t.ln.f.length ≤ maxLen ∧ t.ln.refs.length ≤ maxLen ∧ ∀ i, (t.ln.f.getD i nd0).name.size ≤ maxLen) (fun i hi => by
      obtain ⟨cs', h1, h2⟩ := hx i (by omega)
      rw [cells31] at h1
      obtain ⟨_, hlen, hcell⟩ := World.cells?_some h1
      obtain ⟨t, rfl, ht⟩ := open_line h2 hlen
      exact ⟨t, fun j hj => by rw [← add_add]; exact hcell j hj, ht⟩)
    have hs := row_gen (W := W) LnA.enc 5 (by omega) (fun _ => rfl) (fun i hi => (hT i hi).1)
    have hmem : ∀ x ∈ (List.range n).map T, ∃ i, i < n ∧ x = T i := fun x hx => by
      obtain ⟨i, hi, rfl⟩ := List.mem_map.1 hx
      exact ⟨i, List.mem_range.1 hi, rfl⟩
    refine ⟨some a', n, c, (List.range n).map T, rfl, ⟨by simp, hs, fun x hx => ?_⟩, Nat.le_trans hl hm, fun x hx => ?_⟩
    · obtain ⟨i, hi, rfl⟩ := hmem x hx
      exact (hT i hi).2.1
    · obtain ⟨i, hi, rfl⟩ := hmem x hx
      exact (hT i hi).2.2
end
end Go.Proofs.Ybzacw
