/-  A line's lists in memory; the two parsers of a line with what stays.  -/
import Derived.Test.YbzacwPLine
import Derived.Test.YbzacwMLine
import Derived.Test.YbzacwInts
import Derived.Test.YbzacwTreeMem2
namespace Go.Wf
theorem own_own {w : World} {E E' sz sz' n c n' c' : Nat} {a b : Option Addr} {xs ys : List Value} (h : Own w E sz a n c xs) (h' : Own w E' sz' b n' c' ys) (hne : E ≠ E') : ∀ k, blkO a k → ¬ blkO b k := by
  intro k h1 h2
  rcases h.form.2 with ⟨rfl, _⟩ | ⟨g, cur, rfl, hg, _⟩
  · exact blkO_none k h1
  · rcases h'.form.2 with ⟨rfl, _⟩ | ⟨g', cur', rfl, hg', _⟩
    · exact blkO_none k h2
    · simp [blkO] at h1 h2
      subst h1; subst h2
      have := hg.symm.trans hg'
      simp at this
      exact hne this.2
end Go.Wf
namespace Go.Proofs.Ybzacw
open Go.Wf Go.Deep
set_option linter.unusedSimpArgs false
set_option linter.unusedVariables false

/-- A line's two lists read, in H, as they should. -/
structure LnH (H : Heap) (fa ra : Option Addr) (ln : Ln) : Prop where
  f : NdH H fa ln.f.length ln.f
  r : InH H ra ln.refs.length ln.refs
theorem LnH.mono {H H' : Heap} {fa ra : Option Addr} {ln : Ln} (h : LnH H fa ra ln) (hl : HLe H H') : LnH H' fa ra ln := ⟨h.f.mono hl, h.r.mono hl⟩
/-- A line made anew, its nodes of the type E. -/
structure GotLnE (E : Nat) (w w' : World) (fa : Option Addr) (fc : Nat) (ra : Option Addr) (rc : Nat) (ln : Ln) : Prop where
  fr : Fr noB w w'
  own : Own w' E 4 fa ln.f.length fc (encNds ln.f)
  new : ∀ k, blkO fa k → w.heap.size ≤ k
  oi : Own w' 3 1 ra ln.refs.length rc (intC ln.refs)
  ni : ∀ k, blkO ra k → w.heap.size ≤ k
theorem GotLn.e {w w' : World} {fa ra : Option Addr} {fc rc : Nat} {ln : Ln} (g : GotLn w w' fa fc ra rc ln) : GotLnE 53 w w' fa fc ra rc ln := ⟨g.fr, g.own, g.new, g.oi, g.ni⟩
theorem GotLnE.keep {E : Nat} {H : Heap} {w w' : World} {fa ra : Option Addr} {fc rc : Nat} {ln : Ln} (g : GotLnE E w w' fa fc ra rc ln) (hE : E ≠ 3) (hH : HS H w) : ∃ H', HLe H H' ∧ HS H' w' ∧ LnH H' fa ra ln := by
  obtain ⟨H1, l1, hH1, t1, m1⟩ := g.own.keep (hH.frN g.fr) (fun k hk o => hH.off (g.new k hk) o)
  obtain ⟨H2, l2, hH2, t2, m2⟩ := g.oi.keep hH1 (fun k hk o => (m1 k (fun e => own_own g.own g.oi hE k e hk) o).trans (hH.off (g.ni k hk) o))
  exact ⟨H2, l1.trans l2, hH2, ⟨rfl, t1.mono l2⟩, ⟨rfl, t2⟩⟩
theorem PP.ex : ∃ P : PP, ∀ ts, Ans ts (P ts).1 (P ts).2 :=
  ⟨fun ts => (Classical.choose (Ans.ex ts), Classical.choose (Classical.choose_spec (Ans.ex ts))), fun ts => Classical.choose_spec (Classical.choose_spec (Ans.ex ts))⟩
theorem refsL_le {ts : List Nd} {i : Nat} {zs : List Int} (h : refsL (ts.drop i) = some zs) : zs.length ≤ ts.length := by
  have := refsL_len _ _ h
  rw [List.length_drop] at this
  omega
theorem lineF_bd {P : PP} (hP : ∀ ts, Ans ts (P ts).1 (P ts).2) (ts : List Nd) : (lineF P ts).f.length ≤ ts.length ∧ (lineF P ts).refs.length ≤ ts.length := by
  have hl := fun ts => (hP ts).len
  have h0 : badL.f.length ≤ ts.length ∧ badL.refs.length ≤ ts.length := ⟨Nat.zero_le _, Nat.zero_le _⟩
  unfold lineF
  split
  · exact h0
  · split
    · split
      · exact ⟨Nat.zero_le _, Nat.zero_le _⟩
      · exact h0
    · split
      · split
        · have := hl (ts.drop 1)
          rw [List.length_drop] at this
          exact ⟨by show (P (ts.drop 1)).1.length ≤ _; omega, Nat.zero_le _⟩
        · exact h0
      · unfold stepF
        split
        · exact h0
        · unfold stepJ
          split
          · exact h0
          · split
            · exact h0
            · split
              · exact h0
              · rename_i zs hz
                split
                · have h1 := hl (ts.take (lastBy ts ts.length).toNat)
                  rw [List.length_take] at h1
                  exact ⟨by show (P (ts.take (lastBy ts ts.length).toNat)).1.length ≤ _; omega, refsL_le hz⟩
                · exact h0
theorem parseLine_ok3 {H : Heap} {w : World} (hH : HS H w) (s : ByteArray) (hs : s.size ≤ 4294967296) {P : PP} (hP : ∀ ts, Ans ts (P ts).1 (P ts).2) {ln : Ln} (hln : ln = lineF P (toksOf s)) (R : Value → World → Prop)
    (h : ∀ w' fa fc ra rc H', HLe H H' → HS H' w' → HS H w' → GotLn w w' fa fc ra rc ln → LnH H' fa ra ln → R (.agg (lnC fa fc ra rc ln).toArray) w') : CallsV Yaco.prog 12 #[.string s] w R :=
  parseLine_ok s hs hP w R fun w' fa fc ra rc ln' e g => by
    rw [← hln] at e
    subst e
    obtain ⟨H', l, hH', t⟩ := g.e.keep (by decide) hH
    exact h w' fa fc ra rc H' l hH' (hH.frN g.fr) g t
theorem mparseLine_ok3 {H : Heap} {w : World} (hH : HS H w) (s : ByteArray) (hs : s.size ≤ 4294967296) {P : PP} (hP : ∀ ts, Ans ts (P ts).1 (P ts).2) {ln : Ln} (hln : ln = lineF P (toksOf s)) (R : Value → World → Prop)
    (h : ∀ w' fa fc ra rc H', HLe H H' → HS H' w' → HS H w' → GotLn w w' fa fc ra rc ln → LnH H' fa ra ln → R (.agg (lnC fa fc ra rc ln).toArray) w') : CallsV Yaco.prog 11 #[.string s] w R :=
  mparseLine_ok s hs hP w R fun w' fa fc ra rc ln' e g => by
    rw [← hln] at e
    subst e
    obtain ⟨H', l, hH', t⟩ := g.e.keep (by decide) hH
    exact h w' fa fc ra rc H' l hH' (hH.frN g.fr) g t
/-- Two owned lists of a line are put among the cells that stay. -/
theorem LnH.put {H : Heap} {w : World} {E fc rc : Nat} {fa ra : Option Addr} {ln : Ln} (hE : E ≠ 3) (hH : HS H w) (o1 : Own w E 4 fa ln.f.length fc (encNds ln.f)) (o2 : Own w 3 1 ra ln.refs.length rc (intC ln.refs))
    (n1 : ∀ k, blkO fa k → ∀ o, H k o = none) (n2 : ∀ k, blkO ra k → ∀ o, H k o = none) : ∃ H', HLe H H' ∧ HS H' w ∧ LnH H' fa ra ln ∧ ∀ k, ¬ blkO fa k → ¬ blkO ra k → ∀ o, H' k o = H k o := by
  obtain ⟨H1, l1, hH1, t1, m1⟩ := o1.keep hH n1
  obtain ⟨H2, l2, hH2, t2, m2⟩ := o2.keep hH1 (fun k hk o => (m1 k (fun e => own_own o1 o2 hE k e hk) o).trans (n2 k hk o))
  exact ⟨H2, l1.trans l2, hH2, ⟨⟨rfl, t1.mono l2⟩, ⟨rfl, t2⟩⟩, fun k e1 e2 o => (m2 k e2 o).trans (m1 k e1 o)⟩
end Go.Proofs.Ybzacw
