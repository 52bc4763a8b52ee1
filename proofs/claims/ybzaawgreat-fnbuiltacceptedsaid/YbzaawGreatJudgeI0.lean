/-  Lists of verdicts in the making; theorems in a list of lines.  -/
import Derived.Test.YbzaawGreatJudgeB
import Derived.Test.YbzaawGreatSlCut
import Derived.Test.YbzaawGreatDraw4
namespace Go.Wf
theorem flat_take {α : Type} (f : α → List Value) (sz : Nat) (hf : ∀ y, (f y).length = sz) : ∀ (l : List α) (k : Nat), (l.flatMap f).take (k * sz) = (l.take k).flatMap f
  | [], k => by simp
  | y :: r, 0 => by simp
  | y :: r, k + 1 => by
    have ih := flat_take f sz hf r k
    have h4 := hf y
    rw [List.flatMap_cons, List.take_succ_cons, List.flatMap_cons, List.take_append, List.take_of_length_le (by rw [h4, Nat.add_mul]; omega), h4, show (k + 1) * sz - sz = k * sz by rw [Nat.add_mul]; omega, ih]
theorem flat_drop {α : Type} (f : α → List Value) (sz : Nat) (hf : ∀ y, (f y).length = sz) : ∀ (l : List α) (k : Nat), (l.flatMap f).drop (k * sz) = (l.drop k).flatMap f
  | [], k => by simp
  | y :: r, 0 => by simp
  | y :: r, k + 1 => by
    have ih := flat_drop f sz hf r k
    have h4 := hf y
    rw [List.flatMap_cons, List.drop_succ_cons, List.drop_append, List.drop_eq_nil_of_le (by rw [h4, Nat.add_mul]; omega), h4, show (k + 1) * sz - sz = k * sz by rw [Nat.add_mul]; omega, ih, List.nil_append]
end Go.Wf
namespace Go.Proofs.YbzaawGreat
open Go.Wf Go.Deep
set_option linter.unusedSimpArgs false
set_option linter.unusedVariables false

theorem LsH.cut {H : Heap} {a : Option Addr} {n : Nat} {ts : List LnA} (h : LsH H a n ts) (c l r : Nat) (hc : n ≤ c) (hlr : l ≤ r) (hr : r ≤ n) : LsH H (hdA a c l 5) (r - l) ((ts.take r).drop l) := by
  have h1 := h.sl.cut c l r hc hlr hr
  unfold encLs at h1
  rw [flat_take LnA.enc 5 (fun _ => rfl), flat_drop LnA.enc 5 (fun _ => rfl)] at h1
  exact ⟨by rw [List.length_drop, List.length_take, ← h.len, Nat.min_eq_left hr], h1, fun x hx => h.ln x (List.mem_of_mem_take (List.mem_of_mem_drop hx))⟩
theorem blks_skip {L : List Ln} {i : Nat} (d : Ln) (hi : i < L.length) (hk : (L.getD i d).kind ≠ 1) : blks (L.drop i) = blks (L.drop (i + 1)) := by
  rw [drop_at L i d hi, blks, if_neg hk]
theorem blks_th {L : List Ln} {i : Nat} (d : Ln) (hi : i < L.length) (hk : (L.getD i d).kind = 1) : blks (L.drop i) = ((L.getD i d).src, (L.drop (i + 1)).takeWhile fun x => x.kind ≠ 1) :: blks (L.drop (i + 1)) := by
  rw [drop_at L i d hi, blks, if_pos hk]
/-- From s on the first theorem begins at j, or there is none. -/
structure NoTh (L : List Ln) (d : Ln) (s j : Nat) : Prop where
  le : s ≤ j
  no : ∀ k, s ≤ k → k < j → (L.getD k d).kind ≠ 1
theorem NoTh.refl (L : List Ln) (d : Ln) (s : Nat) : NoTh L d s s := ⟨Nat.le_refl _, fun k h1 h2 => by omega⟩
theorem NoTh.next {L : List Ln} {d : Ln} {s j : Nat} (h : NoTh L d s j) (hk : (L.getD j d).kind ≠ 1) : NoTh L d s (j + 1) := ⟨by have := h.le; omega, fun k h1 h2 => by
  by_cases e : k = j
  · subst e; exact hk
  · exact h.no k h1 (by omega)⟩
theorem NoTh.blks {L : List Ln} {d : Ln} {s : Nat} : ∀ {j : Nat}, NoTh L d s j → j ≤ L.length → blks (L.drop s) = Go.Proofs.YbzaawGreat.blks (L.drop j) := by
  intro j
  induction j with
  | zero => intro h _; have := h.le; rw [show s = 0 by omega]
  | succ j ih =>
    intro h hj
    by_cases e : s = j + 1
    · rw [e]
    · have := h.le
      rw [ih ⟨by omega, fun k h1 h2 => h.no k h1 (by omega)⟩ (by omega)]
      exact blks_skip d (by omega) (h.no j (by omega) (by omega))
theorem tw_all {α : Type} {p : α → Bool} : ∀ {l r : List α}, (∀ x ∈ l, p x = true) → (l ++ r).takeWhile p = l ++ r.takeWhile p
  | [], r, _ => rfl
  | x :: l, r, h => by
    rw [List.cons_append, List.takeWhile_cons_of_pos (h x (by simp)), tw_all fun y hy => h y (by simp [hy]), List.cons_append]
theorem NoTh.tw {L : List Ln} {d : Ln} {s j : Nat} (h : NoTh L d s j) (hj : j ≤ L.length) (he : j = L.length ∨ (L.getD j d).kind = 1) : (L.drop s).takeWhile (fun x => x.kind ≠ 1) = (L.take j).drop s := by
  have hs := h.le
  have e : L.drop s = (L.take j).drop s ++ L.drop j := by
    conv => lhs; rw [← List.take_append_drop j L]
    rw [List.drop_append, List.length_take, Nat.min_eq_left hj, show s - j = 0 by omega, List.drop_zero]
  rw [e, tw_all (fun x hx => ?_)]
  · have : (L.drop j).takeWhile (fun x => decide (x.kind ≠ 1)) = [] := by
      rcases he with he | he
      · rw [List.drop_eq_nil_of_le (by omega)]; rfl
      · by_cases hjl : j < L.length
        · rw [drop_at L j d hjl, List.takeWhile_cons_of_neg (by simp only [he]; decide)]
        · rw [List.drop_eq_nil_of_le (by omega)]; rfl
    rw [this, List.append_nil]
  · obtain ⟨k, hk, rfl⟩ := List.getElem_of_mem hx
    have hkl : s + k < j := by simp at hk; omega
    have := h.no (s + k) (by omega) hkl
    have e2 : ((L.take j).drop s)[k] = L.getD (s + k) d := by
      rw [List.getElem_drop, List.getElem_take]
      simp [show s + k < L.length by omega]
    rw [e2]; simpa using this
theorem judgeB_cons (prev : List Vd) (s : Int) (b : List Ln) (r : List (Int × List Ln)) : judgeB prev ((s, b) :: r) = judgeB (prev ++ [blockJ prev s b]) r := rfl
/-- What a caller gets of a list of verdicts. -/
structure GotVs (w w' : World) (a : Option Addr) (m c : Nat) (xs : List VdA) : Prop where
  len : m = xs.length
  fr : Fr noB w w'
  own : Own w' 30 5 a m c (encVs xs)
  new : ∀ k, blkO a k → w.heap.size ≤ k
  vds : Vds w.heap.size w' xs
/-- Verdicts and patterns so far. -/
structure VM (H Hq : Heap) (w0 w : World) (xs : List VdA) (ys : List PtA) (va pa : Option Addr) (vc pc : Nat) : Prop where
  ext : Ext H Hq w0 w
  fr : Fr noB w0 w
  ov : Own w 30 5 va xs.length vc (encVs xs)
  op : Own w 94 3 pa xs.length pc (encPs ys)
  yl : ys.length = xs.length
  vd : ∀ x ∈ xs, VdH Hq x
  pt : ∀ i, i < xs.length → PtH Hq (xs.getD i va0) (ys.getD i pt0)
  vs : Vds w0.heap.size w xs
  wv : ∀ k, blkO va k → w0.heap.size ≤ k ∧ ∀ o, Hq k o = none
  wp : ∀ k, blkO pa k → w0.heap.size ≤ k ∧ ∀ o, Hq k o = none
section
variable {H Hq : Heap} {w0 w : World} {xs : List VdA} {ys : List PtA} {va pa : Option Addr} {vc pc : Nat}
theorem VM.keep (h : VM H Hq w0 w xs ys va pa vc pc) {H2 : Heap} {w2 : World} (hf : Fr noB w w2) (hE : Ext Hq H2 w w2) : ∃ H3, HLe H2 H3 ∧ HS H3 w2 ∧ VsH H3 va xs.length xs ∧ PsH H3 pa xs.length xs ys := by
  have ov := h.ov.frN hf
  have op := h.op.frN hf
  obtain ⟨H3, l3, hH3, t3, x3⟩ := ov.keep hE.hs (fun k e o => (hE.lo k (h.ov.lt e) o).trans ((h.wv k e).2 o))
  obtain ⟨H4, l4, hH4, t4, x4⟩ := op.keep hH3 (fun k e o => ((x3 k (fun e2 => own_own ov op (by decide) k e2 e) o).trans (hE.lo k (h.op.lt e) o)).trans ((h.wp k e).2 o))
  have L := (hE.le.trans l3).trans l4
  exact ⟨H4, l3.trans l4, hH4, ⟨rfl, t3.mono l4, fun x hx => (h.vd x hx).mono L⟩, ⟨h.yl.symm, t4, fun i hi => (h.pt i hi).mono L⟩⟩
theorem VM.add (h : VM H Hq w0 w xs ys va pa vc pc) {w6 w7 w8 w9 : World} {H7 H8 : Heap} {x : VdA} {y : PtA} {va' pa' : Option Addr} {vc' pc' : Nat} (f6 : Fr noB w w6) (v6 : Vds w.heap.size w6 [x]) (e7 : Ext Hq H7 w w6) (t7 : VdH H7 x)
    (o7 : Own w7 30 5 va' (xs.length + 1) vc' (encVs xs ++ x.enc)) (f7 : Fr (blkO va) w6 w7) (n7 : ∀ k, blkO va' k → blkO va k ∨ w6.heap.size ≤ k)
    (e8 : Ext H7 H8 w7 w8) (p8 : PtH H8 x y) (f8 : Fr noB w7 w8)
    (o9 : Own w9 94 3 pa' (xs.length + 1) pc' (encPs ys ++ y.enc)) (f9 : Fr (blkO pa) w8 w9) (n9 : ∀ k, blkO pa' k → blkO pa k ∨ w8.heap.size ≤ k) :
    VM H H8 w0 w9 (xs ++ [x]) (ys ++ [y]) va' pa' vc' pc' := by
  have z0 := h.fr.size
  have z6 := f6.size
  have z7 := f7.size
  have z8 := f8.size
  have ov6 := h.ov.frN f6
  have op6 := h.op.frN f6
  have op7 := op6.fr f7 (own_own op6 ov6 (by decide))
  have op8 := op7.frN f8
  have o8 := o7.frN f8
  have hn7 : ∀ k, k < w.heap.size → ∀ o, H7 k o = Hq k o := e7.lo
  have hn8 : ∀ k, k < w.heap.size → ∀ o, H8 k o = Hq k o := fun k hk o => (e8.lo k (by omega) o).trans (e7.lo k hk o)
  have hva8 : ∀ k, blkO va k → ∀ o, H8 k o = none := fun k e o => (hn8 k (h.ov.lt e) o).trans ((h.wv k e).2 o)
  have hpa8 : ∀ k, blkO pa k → ∀ o, H8 k o = none := fun k e o => (hn8 k (h.op.lt e) o).trans ((h.wp k e).2 o)
  have hs9 : HS H8 w9 := e8.hs.fr f9 hpa8
  have V6 := h.vs.app f6 v6 z0
  have V7 := V6.frO ov6 (by decide) (by decide) f7
  have V9 := (V7.frN f8).frO op8 (by decide) (by decide) f9
  have L8 := e7.le.trans e8.le
  have hfr7 : Fr noB w0 w7 := (h.fr.no f6).trans f7 (fun k hk e => absurd (h.wv k e).1 (Nat.not_le.2 hk))
  have hfr9 : Fr noB w0 w9 := (hfr7.no f8).trans f9 (fun k hk e => absurd (h.wp k e).1 (Nat.not_le.2 hk))
  refine ⟨⟨h.ext.le.trans L8, hs9, fun k hk o => (hn8 k (by omega) o).trans (h.ext.lo k hk o)⟩, hfr9, ?_, ?_, by simp [h.yl], fun z hz => ?_, fun i hi => ?_, V9, fun k e => ?_, fun k e => ?_⟩
  · rw [encVs_snoc, List.length_append]; exact o8.fr f9 (own_own o8 op8 (by decide))
  · rw [encPs_snoc, List.length_append]; exact o9
  · rcases List.mem_append.1 hz with hz | hz
    · exact (h.vd z hz).mono L8
    · simp at hz; subst hz; exact t7.mono e8.le
  · rw [List.length_append] at hi
    simp only [List.length_cons, List.length_nil] at hi
    have hyl := h.yl
    by_cases e : i = xs.length
    · have e1 : (xs ++ [x]).getD i va0 = x := by rw [e]; simp [List.getD]
      have e2 : (ys ++ [y]).getD i pt0 = y := by rw [e, ← hyl]; simp [List.getD]
      rw [e1, e2]; exact p8
    · have e1 : (xs ++ [x]).getD i va0 = xs.getD i va0 := by simp [List.getD, List.getElem?_append_left (show i < xs.length by omega)]
      have e2 : (ys ++ [y]).getD i pt0 = ys.getD i pt0 := by simp [List.getD, List.getElem?_append_left (show i < ys.length by omega)]
      rw [e1, e2]; exact (h.pt i (by omega)).mono L8
  · rcases n7 k e with e2 | e2
    · exact ⟨(h.wv k e2).1, hva8 k e2⟩
    · refine ⟨by omega, fun o => ?_⟩
      have hk7 := o7.lt e
      refine (e8.lo k hk7 o).trans (e7.hs.off e2 o)
  · rcases n9 k e with e2 | e2
    · exact ⟨(h.wp k e2).1, hpa8 k e2⟩
    · exact ⟨by omega, fun o => e8.hs.off e2 o⟩
theorem VM.init {H : Heap} {w : World} (hH : HS H w) : VM H H w ((w.alloc (.cells #[] 30)).alloc (.cells #[] 94)) [] [] (some ⟨w.heap.size, 0, none⟩) (some ⟨(w.alloc (.cells #[] 30)).heap.size, 0, none⟩) 0 0 := by
  have fA : Fr noB w (w.alloc (.cells #[] 30)) := Fr.alloc _ _ _ _
  have oA : Own (w.alloc (.cells #[] 30)) 30 5 (some ⟨w.heap.size, 0, none⟩) 0 0 (encVs []) := Own.mk' rfl (heap_alloc_new w _) (Nat.le_refl _) (by decide) rfl rfl
  generalize w.alloc (.cells #[] 30) = wA at fA oA ⊢
  have fB : Fr noB wA (wA.alloc (.cells #[] 94)) := Fr.alloc _ _ _ _
  have oB : Own (wA.alloc (.cells #[] 94)) 94 3 (some ⟨wA.heap.size, 0, none⟩) 0 0 (encPs []) := Own.mk' rfl (heap_alloc_new wA _) (Nat.le_refl _) (by decide) rfl rfl
  generalize wA.alloc (.cells #[] 94) = wB at fB oB ⊢
  have zA := fA.size
  have key : ∀ (b k : Nat), w.heap.size ≤ b → blkO (some ⟨b, 0, none⟩) k → w.heap.size ≤ k ∧ ∀ o, H k o = none := fun b k hb e => by
    have e : b = k := by simpa [blkO] using e
    exact ⟨by omega, fun o => hH.off (by omega) o⟩
  exact ⟨⟨HLe.refl _, (hH.frN fA).frN fB, fun _ _ _ => rfl⟩, fA.no fB, oA.frN fB, oB, rfl, fun x hx => (by cases hx), fun i hi => absurd hi (Nat.not_lt_zero _), Vds.nil, fun k e => key _ k (Nat.le_refl _) e, fun k e => key _ k zA e⟩
end
/-- What a fresh verdict leaves to read. -/
theorem vd_kept {H : Heap} {w w6 : World} {b : Nat} {x : VdA} (hH : HS H w) (f6 : Fr noB w w6) (v6 : Vds w.heap.size w6 [x]) (hB : Blk w6 b 30 x.enc) (hb : w.heap.size ≤ b) : ∃ H7, Ext H H7 w w6 ∧ VdH H7 x ∧ ∀ o, H7 b o = x.enc[o]? := by
  obtain ⟨H6, l6, hH6, t6, x6⟩ := v6.keep (hH.frN f6) (fun k hk o => hH.off hk o)
  obtain ⟨H7, l7, hH7, k7, x7⟩ := hB.keep hH6 (fun o => by
    rw [x6 b (fun y hy e => own_blkNe (v6.p y hy) hB (by decide) e) (fun z hz e => own_blkNe (v6.fm.f z hz) hB (by decide) e) o]
    exact hH.off hb o)
  refine ⟨H7, ⟨l6.trans l7, hH7, fun k hk o => ?_⟩, (t6 x (by simp)).mono l7, k7⟩
  rw [x7 k (by omega) o]
  refine x6 k (fun y hy e => ?_) (fun z hz e => ?_) o
  · have := v6.np y hy k e; omega
  · have := v6.fm.nf z hz k e; omega
end Go.Proofs.YbzaawGreat
