/-  Matching and substitution: the plain laws.  -/
import Derived.Test.YbzaawGreatMatchF
namespace Go.Proofs.YbzaawGreat
open Go.Wf Go.Deep
set_option linter.unusedSimpArgs false
set_option linter.unusedVariables false

theorem look_key : ∀ (bs : List BdA) (s : ByteArray), lookF bs s = (lookK (bs.map BdA.key) s).getD (tA s)
  | [], s => by simp [lookF, bidx, lookK]
  | b :: r, s => by
    have ih := look_key r s
    by_cases h : b.nm = s
    · simp [lookF, bidx, lookK, BdA.key, h]
    · simp only [List.map_cons, lookK, BdA.key, if_neg h]
      rw [← ih]
      simp [lookF, bidx, h]
theorem lookK_app : ∀ (ls more : List KB) (s : ByteArray) (g : FT), lookK ls s = some g → lookK (ls ++ more) s = some g
  | [], _, s, g, h => by simp [lookK] at h
  | (n, g') :: r, more, s, g, h => by
    simp only [List.cons_append, lookK] at h ⊢
    split
    · rename_i hn; rw [if_pos hn] at h; exact h
    · rename_i hn; rw [if_neg hn] at h; exact lookK_app r more s g h
theorem lookK_snoc : ∀ (ls : List KB) (s : ByteArray) (t : FT), lookK ls s = none → lookK (ls ++ [(s, t)]) s = some t
  | [], s, t, _ => by simp [lookK]
  | (n, g') :: r, s, t, h => by
    simp only [List.cons_append, lookK] at h ⊢
    split
    · rename_i hn; rw [if_pos hn] at h; cases h
    · rename_i hn; rw [if_neg hn] at h; exact lookK_snoc r s t h
theorem lookK_snoc2 : ∀ (ls : List KB) (s : ByteArray) (t : FT) (s' : ByteArray) (g : FT), lookK (ls ++ [(s, t)]) s' = some g → lookK ls s' = some g ∨ (s' = s ∧ g = t)
  | [], s, t, s', g, h => by
    simp only [List.nil_append, lookK] at h
    split at h
    · rename_i e; simp at h; exact .inr ⟨e.symm, h.symm⟩
    · cases h
  | (n, g') :: r, s, t, s', g, h => by
    simp only [List.cons_append, lookK] at h ⊢
    split
    · rename_i hn; rw [if_pos hn] at h; exact .inl h
    · rename_i hn; rw [if_neg hn] at h; exact lookK_snoc2 r s t s' g h
theorem node_N {V : ByteArray → Prop} {t : FT} (h : Shape V t) (h3 : topO t = 3) : t = tN (lk t) ∧ Shape V (lk t) := by
  refine Shape.ind (P := fun t => topO t = 3 → t = tN (lk t) ∧ Shape V (lk t)) ?_ ?_ ?_ ?_ t h h3
  · intro s _ h; cases h
  · intro h; cases h
  · intro t ht _ _; exact ⟨rfl, ht⟩
  · intro op l r h4 _ _ _ _ _ h; have : op = 3 := h; omega
theorem node_B {V : ByteArray → Prop} {t : FT} (h : Shape V t) (h4 : 4 ≤ topO t) : t = tB (topO t) (lk t) (rk t) ∧ Shape V (lk t) ∧ Shape V (rk t) := by
  refine Shape.ind (P := fun t => 4 ≤ topO t → t = tB (topO t) (lk t) (rk t) ∧ Shape V (lk t) ∧ Shape V (rk t)) ?_ ?_ ?_ ?_ t h h4
  · intro s _ h; have h' : (4 : Int) ≤ 1 := h; omega
  · intro h; have h' : (4 : Int) ≤ 2 := h; omega
  · intro t _ _ h; have h' : (4 : Int) ≤ 3 := h; omega
  · intro op l r h4 _ hl hr _ _ _; exact ⟨rfl, hl, hr⟩
theorem node_B0 {V : ByteArray → Prop} {t : FT} (h : Shape V t) (h2 : topO t = 2) : t = tB0 := by
  refine Shape.ind (P := fun t => topO t = 2 → t = tB0) ?_ ?_ ?_ ?_ t h h2
  · intro s _ h; cases h
  · intro _; rfl
  · intro t _ _ h; cases h
  · intro op l r h4 _ _ _ _ _ h; have : op = 2 := h; omega
/-- What a match adds holds of the target's subtrees; the substitution gives the target back. -/
theorem match_sub {V : ByteArray → Prop} {Q : FT → Prop} (hQ : ∀ t, Q t → Shape V t) (hq3 : ∀ t, Q t → topO t = 3 → Q (lk t)) (hq4 : ∀ t, Q t → 4 ≤ topO t → Q (lk t) ∧ Q (rk t)) {W : ByteArray → Prop} {p : FT} (hp : Shape W p) :
    ∀ t ls ls', Q t → matchF p t ls = some ls' → (∃ e, ls' = ls ++ e ∧ ∀ x ∈ e, Q x.2) ∧ ∀ bs : List BdA, (∃ more, bs.map BdA.key = ls' ++ more) → substF bs p = t := by
  refine Shape.ind (P := fun p => ∀ t ls ls', Q t → matchF p t ls = some ls' → (∃ e, ls' = ls ++ e ∧ ∀ x ∈ e, Q x.2) ∧ ∀ bs : List BdA, (∃ more, bs.map BdA.key = ls' ++ more) → substF bs p = t) ?_ ?_ ?_ ?_ p hp
  · intro s _ t ls ls' hqt hm
    cases hl : lookK ls s with
    | some g =>
      by_cases he : g = t
      · rw [mt_A1 hl he] at hm
        simp at hm; subst hm
        refine ⟨⟨[], by simp, by simp⟩, fun bs ⟨more, hmr⟩ => ?_⟩
        rw [su_A, look_key, hmr, lookK_app _ more _ _ hl]; simp [he]
      · rw [mt_A2 hl he] at hm; cases hm
    | none =>
      rw [mt_A3 hl] at hm
      simp at hm; subst hm
      refine ⟨⟨[(s, t)], rfl, by simpa using hqt⟩, fun bs ⟨more, hmr⟩ => ?_⟩
      rw [su_A, look_key, hmr, lookK_app _ more _ _ (lookK_snoc ls s t hl)]; rfl
  · intro t ls ls' hqt hm
    by_cases h2 : topO t = 2
    · rw [mt_B01 h2] at hm
      simp at hm; subst hm
      exact ⟨⟨[], by simp, by simp⟩, fun bs _ => by rw [su_B0, node_B0 (hQ t hqt) h2]⟩
    · rw [mt_B02 h2] at hm; cases hm
  · intro p _ ih t ls ls' hqt hm
    by_cases h3 : topO t = 3
    · rw [mt_N1 h3] at hm
      obtain ⟨h1, h2⟩ := ih (lk t) ls ls' (hq3 t hqt h3) hm
      refine ⟨h1, fun bs hb => ?_⟩
      rw [su_N, h2 bs hb]
      exact (node_N (hQ t hqt) h3).1.symm
    · rw [mt_N2 h3] at hm; cases hm
  · intro op l r h4 h7 hl hr ihl ihr t ls ls' hqt hm
    by_cases ho : topO t = op
    · cases hml : matchF l (lk t) ls with
      | none => rw [mt_B2 h4 ho hml] at hm; cases hm
      | some l1 =>
        rw [mt_B3 h4 ho hr hml] at hm
        have hq := hq4 t hqt (by omega)
        obtain ⟨⟨e1, he1, hx1⟩, hs1⟩ := ihl (lk t) ls l1 hq.1 hml
        obtain ⟨⟨e2, he2, hx2⟩, hs2⟩ := ihr (rk t) l1 ls' hq.2 hm
        refine ⟨⟨e1 ++ e2, by rw [he2, he1, List.append_assoc], fun x hx => (List.mem_append.1 hx).elim (hx1 x) (hx2 x)⟩, fun bs ⟨more, hmr⟩ => ?_⟩
        rw [su_B _ h4, hs1 bs ⟨e2 ++ more, by rw [hmr, he2, List.append_assoc]⟩, hs2 bs ⟨more, hmr⟩]
        have := (node_B (hQ t hqt) (by omega)).1
        rw [ho] at this
        exact this.symm
    · rw [mt_B1 h4 ho] at hm; cases hm
/-- A substituted pattern is matched. -/
theorem match_back {W : ByteArray → Prop} (bs : List BdA) {p : FT} (hp : Shape W p) : ∀ ls, (∀ s g, lookK ls s = some g → g = lookF bs s) → ∃ ls', matchF p (substF bs p) ls = some ls' ∧ ∀ s g, lookK ls' s = some g → g = lookF bs s := by
  refine Shape.ind (P := fun p => ∀ ls, (∀ s g, lookK ls s = some g → g = lookF bs s) → ∃ ls', matchF p (substF bs p) ls = some ls' ∧ ∀ s g, lookK ls' s = some g → g = lookF bs s) ?_ ?_ ?_ ?_ p hp
  · intro s _ ls hc
    rw [su_A]
    cases hl : lookK ls s with
    | some g => exact ⟨ls, mt_A1 hl (hc s g hl), hc⟩
    | none =>
      refine ⟨_, mt_A3 hl, fun s' g h => ?_⟩
      rcases lookK_snoc2 _ _ _ _ _ h with h | ⟨rfl, rfl⟩
      · exact hc s' g h
      · rfl
  · intro ls hc; exact ⟨ls, mt_B01 rfl, hc⟩
  · intro p _ ih ls hc
    rw [su_N, mt_N1 rfl]
    exact ih ls hc
  · intro op l r h4 h7 hl hr ihl ihr ls hc
    obtain ⟨l1, h1, hc1⟩ := ihl ls hc
    obtain ⟨l2, h2, hc2⟩ := ihr l1 hc1
    rw [su_B _ h4]
    exact ⟨l2, by rw [mt_B3 (t := tB op (substF bs l) (substF bs r)) h4 rfl hr h1]; exact h2, hc2⟩
end Go.Proofs.YbzaawGreat
