/-  Helps for 'FnExactJudge': what of the copies and of the verdicts stays.  -/
import Derived.Test.YbzacwLnSc
import Derived.Test.YbzacwCvLs
import Derived.Test.YbzacwCvVd
import Derived.Test.YbzacwEqVd
import Derived.Test.YbzacwSJI
import Derived.Test.YbzacwJudgeI
namespace Go.Proofs.Ybzacw
open Go.Wf Go.Deep
set_option linter.unusedSimpArgs false
set_option linter.unusedVariables false

theorem LsSm.of_map {xs ys : List LnA} (h : LsSm xs) (he : ys.map LnA.ln = xs.map LnA.ln) : LsSm ys := fun y hy => by
  have : y.ln ∈ xs.map LnA.ln := by rw [← he]; exact List.mem_map_of_mem hy
  obtain ⟨x, hx, e⟩ := List.mem_map.1 this
  rw [← e]; exact h x hx
theorem bd_map {xs ys : List LnA} {n : Nat} (h : ∀ i, i < n → (xs.getD i la0).ln.f.length ≤ 1048576 ∧ (xs.getD i la0).ln.refs.length ≤ 1048576) (he : ys.map LnA.ln = xs.map LnA.ln) : ∀ i, i < n → (ys.getD i la0).ln.f.length ≤ 1048576 ∧ (ys.getD i la0).ln.refs.length ≤ 1048576 := fun i hi => by
  rw [same_ln2 he]; exact h i hi
/-- The copied lists lie between the two worlds. -/
theorem GotLs.bnd {T E : Nat} {w w' : World} {a : Option Addr} {n c : Nat} {xs : List LnA} (g : GotLs T E w w' a n c xs) {k : Nat} (h : lsB a xs k) : w.heap.size ≤ k ∧ k < w'.heap.size := by
  rcases h with e | ⟨x, hx, e | e⟩
  · exact ⟨g.new k e, g.own.lt e⟩
  · exact ⟨g.lns.nf x hx k e, (g.lns.f x hx).lt e⟩
  · exact ⟨g.lns.nr x hx k e, (g.lns.r x hx).lt e⟩
theorem Vds.frS {S : Nat → Prop} {lo : Nat} {w w' : World} {xs : List VdA} (h : Vds lo w xs) (hf : Fr S w w') (hs : ∀ k, S k → k < lo ∨ w.heap.size ≤ k) : Vds lo w' xs :=
  ⟨fun x hx => (h.p x hx).fr hf (fun k e e2 => by have := h.np x hx k e; have := (h.p x hx).lt e; have := hs k e2; omega), h.np, h.dp, h.fm.fr hf (fun x hx k e e2 => by have := h.fm.nf x hx k e; have := (h.fm.f x hx).lt e; have := hs k e2; omega), h.ok⟩
/-- A list of verdicts, with all its lists, is put among the cells that stay. -/
theorem keepG {H : Heap} {lo : Nat} {w : World} {a : Option Addr} {m c : Nat} {xs : List VdA} (hH : HS H w) (ho : Own w 84 5 a m c (encVs xs)) (hlen : m = xs.length) (new : ∀ k, blkO a k → lo ≤ k) (hv : Vds lo w xs) (hn : ∀ k, lo ≤ k → ∀ o, H k o = none) (hg : ∀ x ∈ xs, VGood x.v) :
    ∃ H', HLe H H' ∧ HS H' w ∧ VsH H' a m xs ∧ VN H' a m xs ∧ ∀ k, ¬ blkO a k → (∀ x ∈ xs, ¬ blkO x.pa k) → (∀ z ∈ nodesOf xs, ¬ blkO z.fa k) → ∀ o, H' k o = H k o := by
  obtain ⟨H1, l1, hH1, t1, n1, m1⟩ := hv.keepN hH hn hg
  obtain ⟨H2, l2, hH2, t2, m2⟩ := ho.keep hH1 (fun k hk o => (m1 k (fun x hx e => own_own (hv.p x hx) ho (by decide) k e hk) (fun z hz e => own_own (hv.fm.f z hz) ho (by decide) k e hk) o).trans (hn k (new k hk) o))
  exact ⟨H2, l1.trans l2, hH2, ⟨hlen, t2, fun x hx => (t1 x hx).mono l2⟩, ⟨hlen, t2, fun x hx => (n1 x hx).mono l2⟩, fun k h1 h2 h3 o => (m2 k h1 o).trans (m1 k h2 h3 o)⟩
theorem GotVs.keepV {H : Heap} {w w' : World} {a : Option Addr} {m c : Nat} {xs : List VdA} (g : GotVs w w' a m c xs) (hH : HS H w) (hg : ∀ x ∈ xs, VGood x.v) : ∃ H', HLe H H' ∧ HS H' w' ∧ VN H' a m xs := by
  obtain ⟨H', h1, h2, h3, h4⟩ := g.keepN hH hg
  exact ⟨H', h1, h2, g.len, h3.sl, h4⟩
/-- Two lists of verdicts stay, one made after the other. -/
theorem keepG2 {H : Heap} {lo mi : Nat} {w w0 : World} {a b : Option Addr} {m c m' c' : Nat} {xs ys : List VdA} (hH : HS H w) (hg : ∀ x ∈ xs, VGood x.v) (hg' : ∀ x ∈ ys, VGood x.v) (hlm : lo ≤ mi) (hmi : w0.heap.size ≤ mi)
    (ho0 : Own w0 84 5 a m c (encVs xs)) (hv0 : Vds lo w0 xs)
    (ho : Own w 84 5 a m c (encVs xs)) (hlen : m = xs.length) (new : ∀ k, blkO a k → lo ≤ k) (hv : Vds lo w xs) (ho' : Own w 84 5 b m' c' (encVs ys)) (hlen' : m' = ys.length) (new' : ∀ k, blkO b k → mi ≤ k) (hv' : Vds mi w ys) (hn : ∀ k, lo ≤ k → ∀ o, H k o = none) :
    ∃ H', HLe H H' ∧ HS H' w ∧ VsH H' a m xs ∧ VN H' a m xs ∧ VsH H' b m' ys ∧ VN H' b m' ys := by
  obtain ⟨H1, l1, hH1, t1, n1, m1⟩ := keepG hH ho hlen new hv hn hg
  obtain ⟨H2, l2, hH2, t2, n2, _⟩ := keepG hH1 ho' hlen' new' hv' (fun k hk o => (m1 k (fun e => by have := ho0.lt e; omega) (fun x hx e => by have := (hv0.p x hx).lt e; omega) (fun z hz e => by have := (hv0.fm.f z hz).lt e; omega) o).trans (hn k (by omega) o)) hg'
  exact ⟨H2, l1.trans l2, hH2, t1.mono l2, n1.mono l2, t2, n2⟩
/-- How many lists the verdicts have. -/
theorem nodesOf_le9 {L : List Ln} {xs : List VdA} (h : xs.map VdA.v = judgeF L) : (nodesOf xs).length ≤ L.length ∧ xs.length ≤ L.length := by
  refine ⟨?_, ?_⟩
  · rw [nodesOf_sum, h]; exact judgeF_sum L
  · have e : xs.length = (judgeF L).length := by rw [← h, List.length_map]
    rw [e, judgeF_len]; exact cntT_le L
end Go.Proofs.Ybzacw
