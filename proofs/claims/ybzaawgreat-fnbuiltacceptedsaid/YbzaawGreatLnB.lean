/-  Lines and lists of integers in memory.  -/
import Derived.Test.YbzaawGreatNdBase
import Derived.Test.YbzaawGreatRetC
import Derived.Test.YbzaawGreatSlCut
import Derived.Test.YbzaawGreatTy2
import Derived.Deep.Trees
namespace Go.Wf
/-- A store of five cells over five. -/
theorem V_store5 {T b E : Nat} {z0 z1 z2 z3 z4 c0 c1 c2 c3 c4 : Value} {ρ : Env} {next : Env → World → Prop} {P : Program} {w : World} (hi : infoT P T = true) (hs : szT P T = 5) (hb : Blk w b E [z0, z1, z2, z3, z4]) (h0 : oneC c0 = true) (h1 : oneC c1 = true) (h2 : oneC c2 = true) (h3 : oneC c3 = true) (h4 : oneC c4 = true)
    (h : ∀ w', Blk w' b E [c0, c1, c2, c3, c4] → Fr (fun k => k = b) w w' → next ρ w') : VR P none ρ next (rStore P T (.pointer (some ⟨b, 0, none⟩)) (.agg #[c0, c1, c2, c3, c4]) w) :=
  V_store hi hs hb rfl (by simp [Value.cells, h0, h1, h2, h3, h4]) (by simp) (fun w' hB hf => h w' (by simpa [Value.cells] using hB) hf)
theorem own_blkNe {w : World} {E E' sz n c b : Nat} {a : Option Addr} {xs cs : List Value} (h : Own w E sz a n c xs) (hB : Blk w b E' cs) (hne : E ≠ E') : ¬ blkO a b := by
  intro h1
  rcases h.form.2 with ⟨rfl, _⟩ | ⟨g, cur, rfl, hg, _⟩
  · exact blkO_none b h1
  · simp [blkO] at h1
    subst h1
    have := hg.symm.trans hB.row
    simp at this
    exact hne this.2
/-- 'x := v' of a struct of five cells. -/
theorem e_stn5 (P : Program) (w : World) {T : Nat} (hi : infoT P T = true) (hs : szT P T = 5) (z0 z1 z2 z3 z4 c0 c1 c2 c3 c4 : Value) (h0 : oneC c0 = true) (h1 : oneC c1 = true) (h2 : oneC c2 = true) (h3 : oneC c3 = true) (h4 : oneC c4 = true) :
    rStore P T (.pointer (some ⟨w.heap.size, 0, none⟩)) (.agg #[c0, c1, c2, c3, c4]) (w.alloc (.cells [z0, z1, z2, z3, z4].toArray T)) = .ok .skip (w.alloc (.cells [c0, c1, c2, c3, c4].toArray T)) := by
  rw [run_storeVar P (w.alloc (.cells [z0, z1, z2, z3, z4].toArray T)) hi hs (cs := [z0, z1, z2, z3, z4]) rfl (by simp [Value.cells, h0, h1, h2, h3, h4]) (Blk.new w T _) (by simp)]
  simp [Value.cells, setRow_new]
theorem own_own {w : World} {E E' sz sz' n c n' c' : Nat} {a b : Option Addr} {xs ys : List Value} (h : Own w E sz a n c xs) (h' : Own w E' sz' b n' c' ys) (hne : E ≠ E') : ∀ k, blkO a k → ¬ blkO b k := by
  intro k h1 h2
  rcases h.form.2 with ⟨rfl, _⟩ | ⟨g, cur, rfl, hg, _⟩
  · exact blkO_none k h1
  · rcases h'.form.2 with ⟨rfl, _⟩ | ⟨g', cur', rfl, hg', _⟩
    · exact blkO_none k h2
    · simp [blkO] at h1 h2
      subst h1; subst h2
      have := hg.symm.trans hg'
      simp at this
      exact hne this.2
end Go.Wf
namespace Go.Proofs.YbzaawGreat
open Go.Wf Go.Deep
set_option linter.unusedSimpArgs false
set_option linter.unusedVariables false

structure Ln where
  kind : Int
  f : List Nd
  rule : Int
  refs : List Int
  src : Int
def badL : Ln := ⟨6, [], 0, [], 0⟩
def intC (zs : List Int) : List Value := zs.map (Value.int .i64)
theorem intC_len (zs : List Int) : (intC zs).length = zs.length := by simp [intC]
theorem intC_snoc (zs : List Int) (z : Int) : intC (zs ++ [z]) = intC zs ++ [.int .i64 z] := by simp [intC]
def lnC (fa : Option Addr) (fc : Nat) (ra : Option Addr) (rc : Nat) (ln : Ln) : List Value := [.int .i64 ln.kind, .slice fa ln.f.length fc, .int .i64 ln.rule, .slice ra ln.refs.length rc, .int .i64 ln.src]
/-- A line that was made anew: its two lists are its own. -/
structure GotLn (w w' : World) (fa : Option Addr) (fc : Nat) (ra : Option Addr) (rc : Nat) (ln : Ln) : Prop where
  fr : Fr noB w w'
  own : Own w' 113 4 fa ln.f.length fc (encNds ln.f)
  new : ∀ k, blkO fa k → w.heap.size ≤ k
  oi : Own w' 3 1 ra ln.refs.length rc (intC ln.refs)
  ni : ∀ k, blkO ra k → w.heap.size ≤ k
theorem GotLn.put {w w2 w3 : World} {fa ra : Option Addr} {fc rc br : Nat} {ln : Ln} {cs : List Value} (g : GotLn w w2 fa fc ra rc ln) (hB : Blk w2 br 91 cs) (hf : Fr (fun k => k = br) w2 w3) (hw : w.heap.size ≤ br) : GotLn w w3 fa fc ra rc ln :=
  ⟨g.fr.trans hf (fun k hk e => by omega), g.own.fr hf (fun k e1 e2 => own_blkNe g.own hB (by decide) (e2 ▸ e1)), g.new, g.oi.fr hf (fun k e1 e2 => own_blkNe g.oi hB (by decide) (e2 ▸ e1)), g.ni⟩
theorem GotLn.base {w0 w w' : World} {fa ra : Option Addr} {fc rc : Nat} {ln : Ln} (hf : Fr noB w0 w) (g : GotLn w w' fa fc ra rc ln) : GotLn w0 w' fa fc ra rc ln :=
  ⟨hf.no g.fr, g.own, fun k hk => Nat.le_trans hf.size (g.new k hk), g.oi, fun k hk => Nat.le_trans hf.size (g.ni k hk)⟩
/-- The slice reads, in H, as these integers. -/
structure InH (H : Heap) (a : Option Addr) (n : Nat) (zs : List Int) : Prop where
  len : n = zs.length
  sl : SlH H 1 a n (intC zs)
theorem InH.mono {H H' : Heap} {a : Option Addr} {n : Nat} {zs : List Int} (h : InH H a n zs) (hl : HLe H H') : InH H' a n zs := ⟨h.len, h.sl.mono hl⟩
theorem InH.at_ {H : Heap} {a : Option Addr} {n : Nat} {zs : List Int} (h : InH H a n zs) (i : Nat) (hi : i < n) : H (ablk a) (aoff a + i) = some (.int .i64 (zs.getD i 0)) := by
  refine h.sl.cell _ _ ?_
  have : i < zs.length := by rw [← h.len]; exact hi
  simp [intC, List.getD, this]
structure GotInt (w w' : World) (a : Option Addr) (n c : Nat) (zs : List Int) : Prop where
  len : n = zs.length
  own : Own w' 3 1 a n c (intC zs)
  fr : Fr noB w w'
  new : ∀ k, blkO a k → w.heap.size ≤ k
theorem GotInt.keep {H : Heap} {w w' : World} {a : Option Addr} {n c : Nat} {zs : List Int} (g : GotInt w w' a n c zs) (hH : HS H w) : ∃ H', HLe H H' ∧ HS H' w' ∧ InH H' a n zs := by
  obtain ⟨H', h1, h2, h3, _⟩ := g.own.keep (hH.frN g.fr) (fun k hk o => hH.off (g.new k hk) o)
  exact ⟨H', h1, h2, g.len, h3⟩
theorem ints_eq {xs ys : List Int} (hl : xs.length = ys.length) (h : ∀ j, j < xs.length → xs.getD j 0 = ys.getD j 0) : xs = ys := by
  apply List.ext_getElem hl
  intro j h1 h2
  have := h j h1
  simpa [h1, h2] using this
theorem take_snocI (xs : List Int) (i : Nat) (h : i < xs.length) : xs.take (i + 1) = xs.take i ++ [xs.getD i 0] := by
  rw [List.take_succ_eq_append_getElem h]; simp [h]
/-- A line's two lists read, in H, as they should. -/
structure LnH (H : Heap) (fa ra : Option Addr) (ln : Ln) : Prop where
  f : NdH H fa ln.f.length ln.f
  r : InH H ra ln.refs.length ln.refs
theorem LnH.mono {H H' : Heap} {fa ra : Option Addr} {ln : Ln} (h : LnH H fa ra ln) (hl : HLe H H') : LnH H' fa ra ln := ⟨h.f.mono hl, h.r.mono hl⟩
/-- A line made anew, its nodes of the type E. -/
structure GotLnE (E : Nat) (w w' : World) (fa : Option Addr) (fc : Nat) (ra : Option Addr) (rc : Nat) (ln : Ln) : Prop where
  fr : Fr noB w w'
  own : Own w' E 4 fa ln.f.length fc (encNds ln.f)
  new : ∀ k, blkO fa k → w.heap.size ≤ k
  oi : Own w' 3 1 ra ln.refs.length rc (intC ln.refs)
  ni : ∀ k, blkO ra k → w.heap.size ≤ k
theorem GotLn.e {w w' : World} {fa ra : Option Addr} {fc rc : Nat} {ln : Ln} (g : GotLn w w' fa fc ra rc ln) : GotLnE 113 w w' fa fc ra rc ln := ⟨g.fr, g.own, g.new, g.oi, g.ni⟩
theorem GotLnE.keep {E : Nat} {H : Heap} {w w' : World} {fa ra : Option Addr} {fc rc : Nat} {ln : Ln} (g : GotLnE E w w' fa fc ra rc ln) (hE : E ≠ 3) (hH : HS H w) : ∃ H', HLe H H' ∧ HS H' w' ∧ LnH H' fa ra ln := by
  obtain ⟨H1, l1, hH1, t1, m1⟩ := g.own.keep (hH.frN g.fr) (fun k hk o => hH.off (g.new k hk) o)
  obtain ⟨H2, l2, hH2, t2, m2⟩ := g.oi.keep hH1 (fun k hk o => (m1 k (fun e => own_own g.own g.oi hE k e hk) o).trans (hH.off (g.ni k hk) o))
  exact ⟨H2, l1.trans l2, hH2, ⟨rfl, t1.mono l2⟩, ⟨rfl, t2⟩⟩
theorem LnH.put {H : Heap} {w : World} {E fc rc : Nat} {fa ra : Option Addr} {ln : Ln} (hE : E ≠ 3) (hH : HS H w) (o1 : Own w E 4 fa ln.f.length fc (encNds ln.f)) (o2 : Own w 3 1 ra ln.refs.length rc (intC ln.refs))
    (n1 : ∀ k, blkO fa k → ∀ o, H k o = none) (n2 : ∀ k, blkO ra k → ∀ o, H k o = none) : ∃ H', HLe H H' ∧ HS H' w ∧ LnH H' fa ra ln ∧ ∀ k, ¬ blkO fa k → ¬ blkO ra k → ∀ o, H' k o = H k o := by
  obtain ⟨H1, l1, hH1, t1, m1⟩ := o1.keep hH n1
  obtain ⟨H2, l2, hH2, t2, m2⟩ := o2.keep hH1 (fun k hk o => (m1 k (fun e => own_own o1 o2 hE k e hk) o).trans (n2 k hk o))
  exact ⟨H2, l1.trans l2, hH2, ⟨⟨rfl, t1.mono l2⟩, ⟨rfl, t2⟩⟩, fun k e1 e2 o => (m2 k e2 o).trans (m1 k e1 o)⟩
end Go.Proofs.YbzaawGreat
