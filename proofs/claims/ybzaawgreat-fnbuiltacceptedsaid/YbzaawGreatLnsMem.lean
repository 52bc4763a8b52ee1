/-  The text cut into pieces: the plain side.  -/
import Derived.Test.YbzaawGreatLnMem
import Derived.Test.YbzaawGreatLnsB
namespace Go.Proofs.YbzaawGreat
open Go.Wf Go.Deep
set_option linter.unusedSimpArgs false
set_option linter.unusedVariables false

/-- The pieces of the text from i on; the piece at hand began at st. -/
def pcs (s : ByteArray) : Nat → Nat → Nat → List ByteArray
  | 0, i, st => [s.extract st s.size]
  | n + 1, i, st => if byteAt s i = 10 then s.extract st i :: pcs s n (i + 1) (i + 1) else pcs s n (i + 1) st
def restP (s : ByteArray) (i st : Nat) : List ByteArray := if i ≤ s.size then pcs s (s.size - i) i st else []
def pieces (s : ByteArray) : List ByteArray := restP s 0 0
theorem restP_end (s : ByteArray) (st : Nat) : restP s s.size st = [s.extract st s.size] := by
  simp [restP, pcs]
theorem restP_over (s : ByteArray) (st : Nat) : restP s (s.size + 1) st = [] := by
  unfold restP; rw [if_neg (by omega)]
theorem restP_nl {s : ByteArray} {i : Nat} (st : Nat) (hi : i < s.size) (h : byteAt s i = 10) : restP s i st = s.extract st i :: restP s (i + 1) (i + 1) := by
  unfold restP
  rw [if_pos (by omega), if_pos (by omega), show s.size - i = (s.size - (i + 1)) + 1 by omega, pcs, if_pos h]
theorem restP_no {s : ByteArray} {i : Nat} (st : Nat) (hi : i < s.size) (h : byteAt s i ≠ 10) : restP s i st = restP s (i + 1) st := by
  unfold restP
  rw [if_pos (by omega), if_pos (by omega), show s.size - i = (s.size - (i + 1)) + 1 by omega, pcs, if_neg h]
theorem pcs_len (s : ByteArray) : ∀ n i st, (pcs s n i st).length ≤ n + 1
  | 0, _, _ => by simp [pcs]
  | n + 1, i, st => by
    unfold pcs
    split
    · have := pcs_len s n (i + 1) (i + 1); simp; omega
    · have := pcs_len s n (i + 1) st; omega
theorem pieces_len (s : ByteArray) : (pieces s).length ≤ s.size + 1 := by
  unfold pieces restP; rw [if_pos (by omega)]; have := pcs_len s (s.size - 0) 0 0; omega
theorem pcs_size (s : ByteArray) : ∀ n i st, ∀ p ∈ pcs s n i st, p.size ≤ s.size
  | 0, _, st, p, h => by simp [pcs] at h; subst h; exact ext_le _ _ _
  | n + 1, i, st, p, h => by
    unfold pcs at h
    split at h
    · rcases List.mem_cons.1 h with rfl | h
      · exact ext_le _ _ _
      · exact pcs_size s n _ _ p h
    · exact pcs_size s n _ _ p h
theorem pieces_size (s : ByteArray) : ∀ p ∈ pieces s, p.size ≤ s.size := by
  unfold pieces restP; rw [if_pos (by omega)]; exact pcs_size s _ _ _
def Ln.at_ (l : Ln) (k : Int) : Ln := ⟨l.kind, l.f, l.rule, l.refs, k⟩
/-- The lines of the pieces; the first piece is line k. -/
def linesF (P : PP) : List ByteArray → Nat → List Ln
  | [], _ => []
  | p :: r, k => if (lexF p).length = 0 then linesF P r (k + 1) else (lineF P (toksOf p)).at_ k :: linesF P r (k + 1)
theorem linesF_blank {P : PP} {p : ByteArray} (r : List ByteArray) (k : Nat) (h : (lexF p).length = 0) : linesF P (p :: r) k = linesF P r (k + 1) := by
  simp only [linesF]; rw [if_pos h]
theorem linesF_line {P : PP} {p : ByteArray} (r : List ByteArray) (k : Nat) (h : (lexF p).length ≠ 0) : linesF P (p :: r) k = (lineF P (toksOf p)).at_ k :: linesF P r (k + 1) := by
  simp only [linesF]; rw [if_neg h]
theorem linesF_len (P : PP) : ∀ l k, (linesF P l k).length ≤ l.length
  | [], _ => by simp [linesF]
  | p :: r, k => by
    have := linesF_len P r (k + 1)
    unfold linesF
    split <;> simp <;> omega
def textF (P : PP) (s : ByteArray) : List Ln := if s.size > 65536 then [] else linesF P (pieces s) 1
theorem textF_len (P : PP) (s : ByteArray) : (textF P s).length ≤ 65537 := by
  unfold textF
  split
  · simp
  · have := linesF_len P (pieces s) 1; have := pieces_len s; omega
theorem linesF_bd {P : PP} (hP : ∀ ts, Ans ts (P ts).1 (P ts).2) : ∀ l k, ∀ x ∈ linesF P l k, x.f.length ≤ 65536 ∧ x.refs.length ≤ 65536
  | [], _, x, hx => by simp [linesF] at hx
  | p :: r, k, x, hx => by
    unfold linesF at hx
    split at hx
    · exact linesF_bd hP r _ x hx
    · rcases List.mem_cons.1 hx with rfl | hx
      · have h1 := lineF_bd hP (toksOf p)
        have h2 := toksOf_len p
        exact ⟨by show (lineF P (toksOf p)).f.length ≤ _; omega, by show (lineF P (toksOf p)).refs.length ≤ _; omega⟩
      · exact linesF_bd hP r _ x hx
theorem textF_bd {P : PP} (hP : ∀ ts, Ans ts (P ts).1 (P ts).2) (s : ByteArray) : ∀ x ∈ textF P s, x.f.length ≤ 65536 ∧ x.refs.length ≤ 65536 := by
  unfold textF
  split
  · intro x hx; cases hx
  · exact linesF_bd hP _ _
end Go.Proofs.YbzaawGreat
