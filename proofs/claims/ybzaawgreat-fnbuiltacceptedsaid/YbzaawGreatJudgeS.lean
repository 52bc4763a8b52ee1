/-  impl.stepFits: the rules.  -/
import Derived.Test.YbzaawGreatJudgeM
import Derived.Test.YbzaawGreatDraw3
namespace Go.Proofs.YbzaawGreat
open Go.Wf Go.Deep
set_option linter.unusedSimpArgs false
set_option linter.unusedVariables false

section
variable (a b c d e f : Value)
theorem in6a : initEnv #[a, b, c, d, e, f] 0 = a := rfl
theorem in6b : initEnv #[a, b, c, d, e, f] 1 = b := rfl
theorem in6c : initEnv #[a, b, c, d, e, f] 2 = c := rfl
theorem in6d : initEnv #[a, b, c, d, e, f] 3 = d := rfl
theorem in6e : initEnv #[a, b, c, d, e, f] 4 = e := rfl
theorem in6f : initEnv #[a, b, c, d, e, f] 5 = f := rfl
end
/-- The i-th of a list of slices is the formula t. -/
structure FsAt (H : Heap) (sa : Option Addr) (i : Nat) (t : FT) : Prop where
  ex : ∃ a n c, H (ablk sa) (aoff sa + i) = some (.slice a n c) ∧ FmH H a n t
theorem FsAt.mono {H H' : Heap} {sa : Option Addr} {i : Nat} {t : FT} (h : FsAt H sa i t) (hl : HLe H H') : FsAt H' sa i t := by
  obtain ⟨a, n, c, h1, h2⟩ := h.ex; exact ⟨a, n, c, hl _ _ _ h1, h2.mono hl⟩
end Go.Proofs.YbzaawGreat
