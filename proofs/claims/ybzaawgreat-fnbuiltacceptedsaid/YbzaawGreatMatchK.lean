/-  Matching, kid after kid.  -/
import Derived.Test.YbzaawGreatSubLem
namespace Go.Proofs.YbzaawGreat
open Go.Wf Go.Deep
set_option linter.unusedSimpArgs false
set_option linter.unusedVariables false

/-- The kids are matched one after another. -/
noncomputable def matchK : List FT → List FT → List KB → Option (List KB)
  | [], _, ls => some ls
  | p :: ps, ts, ls => match matchF p (ts.headD .nil) ls with | none => none | some l1 => matchK ps ts.tail l1
theorem kids_top {V : ByteArray → Prop} {t : FT} (h : Shape V t) : (topO t = 1 ∧ kids t = []) ∨ (topO t = 2 ∧ kids t = []) ∨ (topO t = 3 ∧ kids t = [lk t]) ∨ (4 ≤ topO t ∧ kids t = [lk t, rk t]) := by
  refine Shape.ind (P := fun t => (topO t = 1 ∧ kids t = []) ∨ (topO t = 2 ∧ kids t = []) ∨ (topO t = 3 ∧ kids t = [lk t]) ∨ (4 ≤ topO t ∧ kids t = [lk t, rk t])) ?_ ?_ ?_ ?_ t h
  · intro s _; exact .inl ⟨rfl, rfl⟩
  · exact .inr (.inl ⟨rfl, rfl⟩)
  · intro t ht _; exact .inr (.inr (.inl ⟨rfl, kids_N ht⟩))
  · intro op l r h4 h7 hl hr _ _; exact .inr (.inr (.inr ⟨h4, kids_B hl hr⟩))
theorem match_kids {V : ByteArray → Prop} {p t : FT} (hp : Shape V p) (ht : Shape V t) (h1 : topO p ≠ 1) (h2 : topO p ≠ 2) (he : topO t = topO p) (ls : List KB) : matchF p t ls = matchK (kids p) (kids t) ls ∧ (kids t).length = (kids p).length := by
  have hkt := kids_top ht
  refine Shape.ind (P := fun p => topO p ≠ 1 → topO p ≠ 2 → topO t = topO p → matchF p t ls = matchK (kids p) (kids t) ls ∧ (kids t).length = (kids p).length) ?_ ?_ ?_ ?_ p hp h1 h2 he
  · intro s _ h; exact absurd rfl h
  · intro _ h; exact absurd rfl h
  · intro p hp _ _ _ he
    have he' : topO t = 3 := he
    rcases hkt with ⟨e, _⟩ | ⟨e, _⟩ | ⟨_, e⟩ | ⟨e, _⟩
    · omega
    · omega
    · rw [e, kids_N hp, mt_N1 he']
      refine ⟨?_, rfl⟩
      simp only [matchK, List.headD_cons]
      cases matchF p (lk t) ls <;> rfl
    · omega
  · intro op l r h4 h7 hl hr _ _ _ _ he
    have he' : topO t = op := he
    rcases hkt with ⟨e, _⟩ | ⟨e, _⟩ | ⟨e, _⟩ | ⟨_, e⟩
    · omega
    · omega
    · omega
    · rw [e, kids_B hl hr]
      refine ⟨?_, rfl⟩
      simp only [matchK, List.headD_cons, List.tail_cons]
      cases hm : matchF l (lk t) ls with
      | none => rw [mt_B2 h4 he' hm]
      | some l1 =>
        rw [mt_B3 h4 he' hr hm]
        simp only
        cases matchF r (rk t) l1 <;> rfl
theorem matchK_go (ps ts : List FT) (i : Nat) (hi : i < ps.length) (ls : List KB) : matchK (ps.drop i) (ts.drop i) ls = match matchF (ps.getD i .nil) (ts.getD i .nil) ls with | none => none | some l1 => matchK (ps.drop (i + 1)) (ts.drop (i + 1)) l1 := by
  rw [List.drop_eq_getElem_cons hi]
  simp only [matchK]
  rw [show (ts.drop i).headD .nil = ts.getD i .nil by simp [List.headD_eq_head?_getD, List.getD], show (ts.drop i).tail = ts.drop (i + 1) by simp, show ps.getD i .nil = ps[i] by simp [List.getD, hi]]
theorem matchK_end (ps ts : List FT) (ls : List KB) : matchK (ps.drop ps.length) ts ls = some ls := by rw [List.drop_length]; rfl
theorem match_ne {p t : FT} (h1 : topO p ≠ 1) (h2 : topO p ≠ 2) (hne : topO t ≠ topO p) (ls : List KB) : matchF p t ls = none := by
  cases p with
  | nil => rfl
  | node b o a l r =>
    have g1 : ¬ a.op = 1 := h1
    have g2 : ¬ a.op = 2 := h2
    have g3 : ¬ topO t = a.op := hne
    simp only [matchF]
    rw [if_neg g1, if_neg g2, if_neg g3]
theorem match_two {V : ByteArray → Prop} {p : FT} (hp : Shape V p) (h : topO p = 2) : p = tB0 := by
  refine Shape.ind (P := fun p => topO p = 2 → p = tB0) ?_ ?_ ?_ ?_ p hp h
  · intro s _ h; cases h
  · intro _; rfl
  · intro t _ _ h; cases h
  · intro op l r h4 _ _ _ _ _ h; have : op = 2 := h; omega
end Go.Proofs.YbzaawGreat
