/-  Verdicts compared and owned; what the plain judge says of its verdicts.  -/
import Derived.Test.YbzaawGreatVdAdd
import Derived.Test.YbzaawGreatNdEqM
import Derived.Test.YbzaawGreatDraw3
namespace Go.Proofs.YbzaawGreat
open Go.Wf Go.Deep
set_option linter.unusedSimpArgs false
set_option linter.unusedVariables false

/-- A verdict's lists, all of them, read as they should. -/
structure VdN (H : Heap) (x : VdA) : Prop where
  sl : SlH H 1 x.pa x.ps.length (x.ps.map FmA.cell)
  ps : ∀ p ∈ x.ps, NdH H p.fa (tsize p.t) (lay 0 p.t) ∧ TOk p.t
  g : NdH H x.g.fa (tsize x.g.t) (lay 0 x.g.t)
  gs : tsize x.g.t ≤ 1048576
  n : x.ps.length ≤ 1048576
theorem VdN.mono {H H' : Heap} {x : VdA} (h : VdN H x) (hl : HLe H H') : VdN H' x := ⟨h.sl.mono hl, fun p hp => ⟨(h.ps p hp).1.mono hl, (h.ps p hp).2⟩, h.g.mono hl, h.gs, h.n⟩
theorem VdN.at_ {H : Heap} {x : VdA} (h : VdN H x) (i : Nat) (hi : i < x.ps.length) : H (ablk x.pa) (aoff x.pa + i) = some (x.ps.getD i fm0).cell := by
  refine h.sl.cell _ _ ?_
  simp [List.getD, hi]
theorem VdN.psI {H : Heap} {x : VdA} (h : VdN H x) (i : Nat) (hi : i < x.ps.length) : NdH H (x.ps.getD i fm0).fa (tsize (x.ps.getD i fm0).t) (lay 0 (x.ps.getD i fm0).t) ∧ TOk (x.ps.getD i fm0).t := by
  refine h.ps _ ?_
  rw [show x.ps.getD i fm0 = x.ps[i] by simp [hi]]
  exact List.getElem_mem _
/-- What the plain judge says of a verdict. -/
def VGood (v : Vd) : Prop := (v.ok = true ∧ v.code = 0 ∧ v.at_ = 0) ∨ (v.ok = false ∧ 1 ≤ v.code ∧ v.code ≤ 8 ∧ v.prem = [] ∧ v.goal = .nil)
theorem failF_good {c s : Int} (h1 : 1 ≤ c) (h8 : c ≤ 8) : VGood (failF c s) := .inr ⟨rfl, h1, h8, rfl, rfl⟩
theorem checkF_bd (prev : List Vd) (st : JS) (l : Ln) : checkF prev st l = 0 ∨ (1 ≤ checkF prev st l ∧ checkF prev st l ≤ 8) := by
  unfold checkF
  split
  · exact .inr (by omega)
  · split
    · exact .inr (by omega)
    · split
      · exact .inl rfl
      · exact .inr (by omega)
theorem lineJ_bd {prev : List Vd} {st : JS} {l : Ln} {c : Int} (h : lineJ prev st l = .inl c) : 1 ≤ c ∧ c ≤ 8 := by
  unfold lineJ at h
  split at h
  · cases h; omega
  · split at h
    · split at h
      · cases h; omega
      · cases h
    · split at h
      · cases h
      · split at h
        · split at h
          · cases h; omega
          · cases h
        · split at h
          · split at h
            · rename_i hc
              cases h
              rcases checkF_bd prev st l with e | e
              · exact absurd e hc
              · exact e
            · cases h
          · cases h
theorem linesJ_bd {prev : List Vd} : ∀ {ls : List Ln} {st : JS} {c s : Int}, linesJ prev st ls = .inl (c, s) → 1 ≤ c ∧ c ≤ 8
  | [], st, c, s, h => by cases h
  | l :: r, st, c, s, h => by
    unfold linesJ at h
    split at h
    · rename_i c' e
      cases h
      exact lineJ_bd e
    · exact linesJ_bd h
theorem blockJ_good (prev : List Vd) (s : Int) (ls : List Ln) : VGood (blockJ prev s ls) := by
  unfold blockJ
  split
  · rename_i c s' e
    obtain ⟨h1, h8⟩ := linesJ_bd e
    exact failF_good h1 h8
  · rename_i st e
    unfold endJ
    split
    · exact failF_good (by omega) (by omega)
    · split
      · exact failF_good (by omega) (by omega)
      · exact .inl ⟨rfl, rfl, rfl⟩
theorem judgeB_good : ∀ (bs : List (Int × List Ln)) (prev : List Vd), (∀ v ∈ prev, VGood v) → ∀ v ∈ judgeB prev bs, VGood v
  | [], prev, h => h
  | (s, b) :: r, prev, h => by
    refine judgeB_good r _ (fun v hv => ?_)
    rcases List.mem_append.1 hv with hv | hv
    · exact h v hv
    · rw [List.mem_singleton] at hv; subst hv; exact blockJ_good _ _ _
theorem judgeF_good (L : List Ln) : ∀ v ∈ judgeF L, VGood v := judgeB_good _ _ (fun v hv => by cases hv)
/-- How many theorems begin in the lines. -/
def cntT : List Ln → Nat
  | [] => 0
  | l :: r => (if l.kind = 1 then 1 else 0) + cntT r
theorem cntT_snoc (L : List Ln) (x : Ln) : cntT (L ++ [x]) = cntT L + (if x.kind = 1 then 1 else 0) := by
  induction L with
  | nil => simp [cntT]
  | cons l r ih => simp only [List.cons_append, cntT, ih]; omega
theorem blks_len : ∀ L, (blks L).length = cntT L
  | [] => rfl
  | l :: r => by
    unfold blks cntT
    have := blks_len r
    by_cases h : l.kind = 1
    · rw [if_pos h, if_pos h, List.length_cons, this]; omega
    · rw [if_neg h, if_neg h, this]; omega
theorem judgeB_len : ∀ (bs : List (Int × List Ln)) (prev : List Vd), (judgeB prev bs).length = prev.length + bs.length
  | [], prev => by simp [judgeB]
  | (s, b) :: r, prev => by
    unfold judgeB
    rw [judgeB_len r, List.length_append, List.length_cons, List.length_cons, List.length_nil]; omega
theorem judgeF_len (L : List Ln) : (judgeF L).length = cntT L := by
  unfold judgeF
  rw [judgeB_len, blks_len]; simp
theorem cntT_le (L : List Ln) : cntT L ≤ L.length := by
  induction L with
  | nil => simp [cntT]
  | cons l r ih => simp only [cntT, List.length_cons]; split <;> omega
/-- The premises of all verdicts, and their number. -/
def vsum (vs : List Vd) : Nat := (vs.map fun v => v.prem.length + 1).foldr (· + ·) 0
theorem vsum_app (a b : List Vd) : vsum (a ++ b) = vsum a + vsum b := by
  unfold vsum
  induction a with
  | nil => simp
  | cons x r ih => simp only [List.cons_append, List.map_cons, List.foldr_cons, ih]; omega
theorem lineJ_prem {prev : List Vd} {st st' : JS} {l : Ln} (h : lineJ prev st l = .inr st') : st'.prem.length ≤ st.prem.length + 1 := by
  unfold lineJ at h
  split at h
  · cases h
  · split at h
    · split at h
      · cases h
      · cases h; simp
    · split at h
      · cases h; simp
      · split at h
        · split at h
          · cases h
          · cases h; simp
        · split at h
          · split at h
            · cases h
            · cases h; simp
          · cases h; omega
theorem linesJ_prem {prev : List Vd} : ∀ {ls : List Ln} {st st' : JS}, linesJ prev st ls = .inr st' → st'.prem.length ≤ st.prem.length + ls.length
  | [], st, st', h => by cases h; simp
  | l :: r, st, st', h => by
    unfold linesJ at h
    split at h
    · cases h
    · rename_i st2 e
      have h1 := lineJ_prem e
      have h2 := linesJ_prem h
      rw [List.length_cons]
      omega
theorem blockJ_prem (prev : List Vd) (s : Int) (ls : List Ln) : (blockJ prev s ls).prem.length ≤ ls.length := by
  unfold blockJ
  split
  · exact Nat.zero_le _
  · rename_i st e
    have := linesJ_prem e
    unfold endJ
    split
    · exact Nat.zero_le _
    · split
      · exact Nat.zero_le _
      · simpa [js0] using this
def bsum (bs : List (Int × List Ln)) : Nat := (bs.map fun b => b.2.length + 1).foldr (· + ·) 0
theorem judgeB_sum : ∀ (bs : List (Int × List Ln)) (prev : List Vd), vsum (judgeB prev bs) ≤ vsum prev + bsum bs
  | [], prev => by simp [judgeB, bsum]
  | (s, b) :: r, prev => by
    unfold judgeB
    have h1 := judgeB_sum r (prev ++ [blockJ prev s b])
    rw [vsum_app] at h1
    have h2 := blockJ_prem prev s b
    have h3 : vsum [blockJ prev s b] = (blockJ prev s b).prem.length + 1 := by simp [vsum]
    have h4 : bsum ((s, b) :: r) = b.length + 1 + bsum r := by simp [bsum]
    omega
theorem blks_dw : ∀ L, blks L = blks (L.dropWhile fun x => x.kind ≠ 1)
  | [] => rfl
  | l :: r => by
    by_cases h : l.kind = 1
    · rw [List.dropWhile_cons_of_neg (by simp [h])]
    · rw [List.dropWhile_cons_of_pos (by simp [h]), blks, if_neg h]
      exact blks_dw r
theorem blks_sum : ∀ (n : Nat) (L : List Ln), L.length ≤ n → bsum (blks L) ≤ L.length
  | _, [], _ => by simp [blks, bsum]
  | 0, l :: r, h => by simp at h
  | n + 1, l :: r, h => by
    unfold blks
    have hr : r.length ≤ n := by simpa using h
    by_cases hk : l.kind = 1
    · rw [if_pos hk, blks_dw r]
      have hlen : (r.takeWhile fun x => decide (x.kind ≠ 1)).length + (r.dropWhile fun x => decide (x.kind ≠ 1)).length = r.length := by
        rw [← List.length_append, List.takeWhile_append_dropWhile]
      have := blks_sum n (r.dropWhile fun x => decide (x.kind ≠ 1)) (by omega)
      have h4 : ∀ (b : List Ln) (q : List (Int × List Ln)), bsum ((l.src, b) :: q) = b.length + 1 + bsum q := fun b q => by simp [bsum]
      rw [h4, List.length_cons]
      omega
    · rw [if_neg hk]
      have := blks_sum n r hr
      rw [List.length_cons]; omega
theorem judgeF_sum (L : List Ln) : vsum (judgeF L) ≤ L.length := by
  unfold judgeF
  have h1 := judgeB_sum (blks L) []
  have h2 := blks_sum L.length L (Nat.le_refl _)
  have h3 : vsum [] = 0 := rfl
  omega
theorem nodesOf_sum : ∀ xs : List VdA, (nodesOf xs).length = vsum (xs.map VdA.v)
  | [] => rfl
  | x :: r => by
    have := nodesOf_sum r
    have e1 : nodesOf (x :: r) = (x.ps ++ [x.g]) ++ nodesOf r := by simp [nodesOf]
    have e2 : vsum ((x :: r).map VdA.v) = x.ps.length + 1 + vsum (r.map VdA.v) := by simp [vsum, VdA.v]
    rw [e1, e2, List.length_append, this]; simp
theorem Vds.keepN {H : Heap} {lo : Nat} {w : World} {xs : List VdA} (h : Vds lo w xs) (hH : HS H w) (hn : ∀ k, lo ≤ k → ∀ o, H k o = none) (hg : ∀ x ∈ xs, VGood x.v) : ∃ H', HLe H H' ∧ HS H' w ∧ (∀ x ∈ xs, VdH H' x) ∧ (∀ x ∈ xs, VdN H' x) ∧ ∀ k, (∀ x ∈ xs, ¬ blkO x.pa k) → (∀ z ∈ nodesOf xs, ¬ blkO z.fa k) → ∀ o, H' k o = H k o := by
  obtain ⟨H1, l1, hH1, t1, m1⟩ := h.fm.keep hH hn
  obtain ⟨H2, l2, hH2, t2, m2⟩ := keepFam 32 1 VdA.pa (fun x => x.ps.length) VdA.pc (fun x => x.ps.map FmA.cell) xs hH1 h.p h.dp (fun x hx k hk o => (m1 k (fun z hz e => own_own (h.fm.f z hz) (h.p x hx) (by decide) k e hk) o).trans (hn k (h.np x hx k hk) o))
  refine ⟨H2, l1.trans l2, hH2, fun x hx => ?_, fun x hx => ?_, fun k h1 h2 o => (m2 k h1 o).trans (m1 k h2 o)⟩
  · have hk := h.ok x hx
    exact ⟨t2 x hx, fun p hp => ⟨(t1 p (nodesOf_ps hx hp)).mono l2, (hk.ps p hp).1, (hk.ps p hp).2.1⟩, fun e => ⟨(t1 x.g (nodesOf_g hx)).mono l2, (hk.g e).1, (hk.g e).2.1⟩, hk.n⟩
  · have hk := h.ok x hx
    refine ⟨t2 x hx, fun p hp => ⟨(t1 p (nodesOf_ps hx hp)).mono l2, hk.ps p hp⟩, (t1 x.g (nodesOf_g hx)).mono l2, ?_, hk.n⟩
    rcases hg x hx with ⟨e, _⟩ | ⟨_, _, _, _, e⟩
    · exact (hk.g e).2.1
    · have : x.g.t = .nil := e
      rw [this]; exact Nat.zero_le _
-- laws.eqNodes
set_option maxRecDepth 20000 in
theorem eqNodes_ok9 {H : Heap} {w : World} (hH : HS H w) {a b : Option Addr} {n c m d : Nat} {xs : List Nd} (tA : NdH H a n xs) (tB : NdH H b m xs) (hn : n ≤ 1048576) (R : Value → World → Prop)
    (h : ∀ w', Fr noB w w' → R (.bool true) w') : CallsV Yaao.prog 44 #[.slice a n c, .slice b m d] w R := by
  refine ent44 (by simp) ?_
  repeat' (first | refine W_seq (fun K hK => ?_) | refine W_block ?_ | refine W_skip ?_ | refine W_exit ?_ | refine W_ret ?_ | refine W_region ?_ | simp (disch := first | (simp only [undef, want_some, upd_app, List.getElem?_cons_succ, List.getElem?_cons_zero, Option.join_some, e_bt, e_bf, Nat.reduceEqDiff, ↓reduceIte, Bool.not_true, Bool.not_false, ne_eq, not_false_eq_true]; done) | ((with_reducible refine pkE ?_); with_unfolding_all rfl) | ((with_reducible refine cszE ?_); with_unfolding_all rfl) | ((with_reducible refine isQE ?_); with_unfolding_all rfl) | assumption | omega) only [List.map_cons, List.map_nil, List.map_toArray, Nat.reduceEqDiff, b_exit, b_exitN, b_normal, b_ret, ev_const, ev_tmp, fo_assign, fo_move, init1, init2a, init2b, init3a, init3b, init3c, o_call _ _ _ _ _ _ _ c71, put_some, r_enter, r_value, s_nil, s_none, t_exit, t_normal, t_ret, upd_app, ↓reduceIte] | refine mequal_ok hH tA tB hn _ (fun r w1 hr f1 => ?_) | (refine W_cond rfl (fun hc => ?_) (fun hc => ?_) <;> (try simp only [decide_eq_true_eq, decide_eq_false_iff_not, Bool.not_eq_true', Bool.not_eq_false', Int.not_lt, Int.not_le, Decidable.not_not] at hc) <;> (try contradiction) <;> (try (exfalso; omega))) | (refine G_split rfl rfl (fun hc => ?_) (fun hc => ?_) <;> (try simp only [decide_eq_true_eq, decide_eq_false_iff_not, Bool.not_eq_true', Bool.not_eq_false', Int.not_lt, Int.not_le, Decidable.not_not] at hc) <;> (try contradiction) <;> (try (exfalso; omega))) | (with_reducible (refine hK _ _ ?_); clear hK K) | go_step)
  obtain rfl : r = true := hr.2 rfl
  refine ret1 rfl ?_; simp (disch := first | (simp only [undef, want_some, upd_app, List.getElem?_cons_succ, List.getElem?_cons_zero, Option.join_some, e_bt, e_bf, Nat.reduceEqDiff, ↓reduceIte, Bool.not_true, Bool.not_false, ne_eq, not_false_eq_true]; done) | ((with_reducible refine pkE ?_); with_unfolding_all rfl) | ((with_reducible refine cszE ?_); with_unfolding_all rfl) | ((with_reducible refine isQE ?_); with_unfolding_all rfl) | assumption | omega) only [List.map_cons, List.map_nil, List.map_toArray, Nat.reduceEqDiff, b_exit, b_exitN, b_normal, b_ret, ev_const, ev_tmp, fo_assign, fo_move, init1, init2a, init2b, init3a, init3b, init3c, o_call _ _ _ _ _ _ _ c71, put_some, r_enter, r_value, s_nil, s_none, t_exit, t_normal, t_ret, upd_app, ↓reduceIte]
  exact h _ f1
end Go.Proofs.YbzaawGreat
