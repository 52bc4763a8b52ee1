/-  The two parsers of a line with what stays.  -/
import Derived.Test.YbzaawGreatPLine
import Derived.Test.YbzaawGreatMLine
import Derived.Test.YbzaawGreatLnB
import Derived.Test.YbzaawGreatTreeMem2
namespace Go.Proofs.YbzaawGreat
open Go.Wf Go.Deep
set_option linter.unusedSimpArgs false
set_option linter.unusedVariables false

theorem PP.ex : ∃ P : PP, ∀ ts, Ans ts (P ts).1 (P ts).2 :=
  ⟨fun ts => (Classical.choose (Ans.ex ts), Classical.choose (Classical.choose_spec (Ans.ex ts))), fun ts => Classical.choose_spec (Classical.choose_spec (Ans.ex ts))⟩
theorem refsL_le {ts : List Nd} {i : Nat} {zs : List Int} (h : refsL (ts.drop i) = some zs) : zs.length ≤ ts.length := by
  have := refsL_len _ _ h
  rw [List.length_drop] at this
  omega
theorem lineF_bd {P : PP} (hP : ∀ ts, Ans ts (P ts).1 (P ts).2) (ts : List Nd) : (lineF P ts).f.length ≤ ts.length ∧ (lineF P ts).refs.length ≤ ts.length := by
  have hl := fun ts => (hP ts).len
  have h0 : badL.f.length ≤ ts.length ∧ badL.refs.length ≤ ts.length := ⟨Nat.zero_le _, Nat.zero_le _⟩
  unfold lineF
  split
  · exact h0
  · split
    · split
      · exact ⟨Nat.zero_le _, Nat.zero_le _⟩
      · exact h0
    · split
      · split
        · have := hl (ts.drop 1)
          rw [List.length_drop] at this
          exact ⟨by show (P (ts.drop 1)).1.length ≤ _; omega, Nat.zero_le _⟩
        · exact h0
      · unfold stepF
        split
        · exact h0
        · unfold stepJ
          split
          · exact h0
          · split
            · exact h0
            · split
              · exact h0
              · rename_i zs hz
                split
                · have h1 := hl (ts.take (lastBy ts ts.length).toNat)
                  rw [List.length_take] at h1
                  exact ⟨by show (P (ts.take (lastBy ts ts.length).toNat)).1.length ≤ _; omega, refsL_le hz⟩
                · exact h0
theorem parseLine_ok3 {H : Heap} {w : World} (hH : HS H w) (s : ByteArray) (hs : s.size ≤ 4294967296) {P : PP} (hP : ∀ ts, Ans ts (P ts).1 (P ts).2) {ln : Ln} (hln : ln = lineF P (toksOf s)) (R : Value → World → Prop)
    (h : ∀ w' fa fc ra rc H', HLe H H' → HS H' w' → HS H w' → GotLn w w' fa fc ra rc ln → LnH H' fa ra ln → R (.agg (lnC fa fc ra rc ln).toArray) w') : CallsV Yaao.prog 43 #[.string s] w R :=
  parseLine_ok s hs hP w R fun w' fa fc ra rc ln' e g => by
    rw [← hln] at e
    subst e
    obtain ⟨H', l, hH', t⟩ := g.e.keep (by decide) hH
    exact h w' fa fc ra rc H' l hH' (hH.frN g.fr) g t
theorem mparseLine_ok3 {H : Heap} {w : World} (hH : HS H w) (s : ByteArray) (hs : s.size ≤ 4294967296) {P : PP} (hP : ∀ ts, Ans ts (P ts).1 (P ts).2) {ln : Ln} (hln : ln = lineF P (toksOf s)) (R : Value → World → Prop)
    (h : ∀ w' fa fc ra rc H', HLe H H' → HS H' w' → HS H w' → GotLn w w' fa fc ra rc ln → LnH H' fa ra ln → R (.agg (lnC fa fc ra rc ln).toArray) w') : CallsV Yaao.prog 49 #[.string s] w R :=
  mparseLine_ok s hs hP w R fun w' fa fc ra rc ln' e g => by
    rw [← hln] at e
    subst e
    obtain ⟨H', l, hH', t⟩ := g.e.keep (by decide) hH
    exact h w' fa fc ra rc H' l hH' (hH.frN g.fr) g t
end Go.Proofs.YbzaawGreat
