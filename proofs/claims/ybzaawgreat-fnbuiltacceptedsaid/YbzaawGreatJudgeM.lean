/-  Formulas in memory, for the judge; comparisons with two outcomes.  -/
import Derived.Test.YbzaawGreatJudgeF
namespace Go.Proofs.YbzaawGreat
open Go.Wf Go.Deep
set_option linter.unusedSimpArgs false
set_option linter.unusedVariables false

/-- The slice reads, in H, as the layout of the formula t. -/
structure FmH (H : Heap) (a : Option Addr) (n : Nat) (t : FT) : Prop where
  nd : NdH H a n (lay 0 t)
  wf : WF (lay 0 t) t
  small : n ≤ 1048576
theorem FmH.mono {H H' : Heap} {a : Option Addr} {n : Nat} {t : FT} (h : FmH H a n t) (hl : HLe H H') : FmH H' a n t := ⟨h.nd.mono hl, h.wf, h.small⟩
theorem FmH.of {H : Heap} {a : Option Addr} {n : Nat} {f : List Nd} (h : NdH H a n f) (hw : ∃ t, WF f t) (hn : n ≤ 1048576) : FmH H a n (trOf f) := by
  have := trOf_wf hw
  have e := this.lay
  exact ⟨by rw [← e]; exact h, by rw [← e]; exact this, hn⟩
theorem FmH.len {H : Heap} {a : Option Addr} {n : Nat} {t : FT} (h : FmH H a n t) : n = tsize t := by rw [h.nd.len, lay_len]
theorem FmH.pos {H : Heap} {a : Option Addr} {n : Nat} {t : FT} (h : FmH H a n t) : 1 ≤ n := by rw [h.len]; exact h.wf.sub.shape.pos
/-- At the node i of the slice stands the formula t. -/
def EqArg (H : Heap) (a : Option Addr) (n : Nat) (i : Int) (t : FT) : Prop := ∃ xs s, ∃ k : Nat, i = k ∧ NdH H a n xs ∧ Sub okName xs t k s
theorem EqArg.mono {H H' : Heap} {a : Option Addr} {n : Nat} {i : Int} {t : FT} (h : EqArg H a n i t) (hl : HLe H H') : EqArg H' a n i t := by
  obtain ⟨xs, s, k, e, h1, h2⟩ := h; exact ⟨xs, s, k, e, h1.mono hl, h2⟩
theorem FmH.root {H : Heap} {a : Option Addr} {n : Nat} {t : FT} (h : FmH H a n t) : EqArg H a n ((n : Int) - 1) t := by
  have hp := h.pos
  have hl := h.nd.len
  exact ⟨_, 0, n - 1, by omega, h.nd, by rw [hl]; exact h.wf.sub⟩
/-- The root's cells. -/
theorem FmH.cells {H : Heap} {a : Option Addr} {n : Nat} {t : FT} (h : FmH H a n t) : ∃ l r : Int, H (ablk a) (aoff a + (n - 1) * 4) = some (.int .i64 (topO t)) ∧ H (ablk a) (aoff a + (n - 1) * 4 + 1) = some (.string (topN t)) ∧ H (ablk a) (aoff a + (n - 1) * 4 + 2) = some (.int .i64 l) ∧ H (ablk a) (aoff a + (n - 1) * 4 + 3) = some (.int .i64 r) ∧
    (3 ≤ topO t → EqArg H a n l (lk t)) ∧ (4 ≤ topO t → EqArg H a n r (rk t)) := by
  have hp := h.pos
  have hl := h.nd.len
  have hs := h.wf.sub
  rw [← hl] at hs
  have hto := hs.top
  have htn : topN t = ((lay 0 t).getD (n - 1) nd0).name := by
    generalize hz : n - 1 = z at hs
    cases ht : t with
    | nil => rw [ht] at hs; exact hs.elim
    | node b o a l r => rw [ht] at hs; rw [← ht]; rw [ht]; exact hs.2.2.2.2.1.symm
  refine ⟨_, _, by rw [hto]; exact h.nd.c0 (n - 1) (by omega), by rw [htn]; exact h.nd.c1 (n - 1) (by omega), h.nd.c2 (n - 1) (by omega), h.nd.c3 (n - 1) (by omega), fun h3 => ?_, fun h4 => ?_⟩
  · by_cases h3' : ((lay 0 t).getD (n - 1) nd0).op = 3
    · obtain ⟨_, e, hsub⟩ := sub_N hs h3'
      exact ⟨_, _, _, e, h.nd, hsub⟩
    · obtain ⟨m, _, _, e, _, _, hsub⟩ := sub_BB hs (by omega)
      exact ⟨_, _, _, e, h.nd, hsub⟩
  · obtain ⟨m, _, _, _, e, hsub, _⟩ := sub_BB hs (by omega)
    exact ⟨_, _, _, e, h.nd, hsub⟩
theorem eqAt_ok5 {H : Heap} {w0 w : World} (hH : HS H w) (hF : Fr noB w0 w) {a b : Option Addr} {n c m d : Nat} {i j : Int} {t u : FT} (hA : EqArg H a n i t) (hB : EqArg H b m j u) (R : Value → World → Prop)
    (h1 : t = u → ∀ w', HS H w' → Fr noB w0 w' → R (.bool true) w') (h2 : t ≠ u → ∀ w', HS H w' → Fr noB w0 w' → R (.bool false) w') : CallsV Yaao.prog 99 #[.slice a n c, .int .i64 i, .slice b m d, .int .i64 j] w R := by
  obtain ⟨xs, s, k, rfl, hx, hsx⟩ := hA
  obtain ⟨ys, s', k', rfl, hy, hsy⟩ := hB
  refine eqAt_ok t k s hsx u k' s' H w a b n c m d R hsy hH hx hy (fun r w' hr hf => ?_)
  cases r with
  | true => exact h1 (hr.1 rfl) w' (hH.frN hf) (hF.no hf)
  | false => exact h2 (fun e => by have := hr.2 e; cases this) w' (hH.frN hf) (hF.no hf)
theorem isBot_ok5 {H : Heap} {w0 w : World} (hH : HS H w) (hF : Fr noB w0 w) {a : Option Addr} {n c : Nat} {t : FT} (tA : FmH H a n t) (R : Value → World → Prop)
    (h1 : topO t = 2 → ∀ w', HS H w' → Fr noB w0 w' → R (.bool true) w') (h2 : topO t ≠ 2 → ∀ w', HS H w' → Fr noB w0 w' → R (.bool false) w') : CallsV Yaao.prog 100 #[.slice a n c] w R := by
  refine isBot_ok hH tA.nd tA.wf R (fun w' hf => ?_)
  by_cases e : topO t = 2
  · rw [decide_eq_true e]; exact h1 e w' (hH.frN hf) (hF.no hf)
  · rw [decide_eq_false e]; exact h2 e w' (hH.frN hf) (hF.no hf)
end Go.Proofs.YbzaawGreat
