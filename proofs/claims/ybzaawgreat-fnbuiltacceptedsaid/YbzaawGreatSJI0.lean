/-  The model's verdicts in the making.  -/
import Derived.Test.YbzaawGreatSJJ
import Derived.Test.YbzaawGreatSJV
import Derived.Test.YbzaawGreatJudgeI0
namespace Go.Proofs.YbzaawGreat
open Go.Wf Go.Deep
set_option linter.unusedSimpArgs false
set_option linter.unusedVariables false

/-- Verdicts and patterns so far. -/
structure SVM (H Hq : Heap) (w0 w : World) (xs : List VdA) (ys : List SpA) (va pa : Option Addr) (vc pc : Nat) : Prop where
  ext : Ext H Hq w0 w
  fr : Fr noB w0 w
  ov : Own w 30 5 va xs.length vc (encVs xs)
  op : Own w 106 5 pa xs.length pc (encSp ys)
  yl : ys.length = xs.length
  vd : ∀ x ∈ xs, VdH Hq x
  pt : ∀ i, i < xs.length → SpH Hq (xs.getD i va0) (ys.getD i sp0)
  vs : Vds w0.heap.size w xs
  wv : ∀ k, blkO va k → w0.heap.size ≤ k ∧ ∀ o, Hq k o = none
  wp : ∀ k, blkO pa k → w0.heap.size ≤ k ∧ ∀ o, Hq k o = none
section
variable {H Hq : Heap} {w0 w : World} {xs : List VdA} {ys : List SpA} {va pa : Option Addr} {vc pc : Nat}
theorem SVM.keep (h : SVM H Hq w0 w xs ys va pa vc pc) {H2 : Heap} {w2 : World} (hf : Fr noB w w2) (hE : Ext Hq H2 w w2) : ∃ H3, HLe H2 H3 ∧ HS H3 w2 ∧ VsH H3 va xs.length xs ∧ SsH H3 pa xs.length xs ys := by
  have ov := h.ov.frN hf
  have op := h.op.frN hf
  obtain ⟨H3, l3, hH3, t3, x3⟩ := ov.keep hE.hs (fun k e o => (hE.lo k (h.ov.lt e) o).trans ((h.wv k e).2 o))
  obtain ⟨H4, l4, hH4, t4, x4⟩ := op.keep hH3 (fun k e o => ((x3 k (fun e2 => own_own ov op (by decide) k e2 e) o).trans (hE.lo k (h.op.lt e) o)).trans ((h.wp k e).2 o))
  have L := (hE.le.trans l3).trans l4
  exact ⟨H4, l3.trans l4, hH4, ⟨rfl, t3.mono l4, fun x hx => (h.vd x hx).mono L⟩, ⟨h.yl.symm, t4, fun i hi => (h.pt i hi).mono L⟩⟩
theorem SVM.add (h : SVM H Hq w0 w xs ys va pa vc pc) {w6 w7 w8 w9 : World} {H7 H8 : Heap} {x : VdA} {y : SpA} {va' pa' : Option Addr} {vc' pc' : Nat} (f6 : Fr noB w w6) (v6 : Vds w.heap.size w6 [x]) (e7 : Ext Hq H7 w w6) (t7 : VdH H7 x)
    (o7 : Own w7 30 5 va' (xs.length + 1) vc' (encVs xs ++ x.enc)) (f7 : Fr (blkO va) w6 w7) (n7 : ∀ k, blkO va' k → blkO va k ∨ w6.heap.size ≤ k)
    (e8 : Ext H7 H8 w7 w8) (p8 : SpH H8 x y) (f8 : Fr noB w7 w8)
    (o9 : Own w9 106 5 pa' (xs.length + 1) pc' (encSp ys ++ y.enc)) (f9 : Fr (blkO pa) w8 w9) (n9 : ∀ k, blkO pa' k → blkO pa k ∨ w8.heap.size ≤ k) :
    SVM H H8 w0 w9 (xs ++ [x]) (ys ++ [y]) va' pa' vc' pc' := by
  have z0 := h.fr.size
  have z6 := f6.size
  have z7 := f7.size
  have z8 := f8.size
  have ov6 := h.ov.frN f6
  have op6 := h.op.frN f6
  have op7 := op6.fr f7 (own_own op6 ov6 (by decide))
  have op8 := op7.frN f8
  have o8 := o7.frN f8
  have hn7 : ∀ k, k < w.heap.size → ∀ o, H7 k o = Hq k o := e7.lo
  have hn8 : ∀ k, k < w.heap.size → ∀ o, H8 k o = Hq k o := fun k hk o => (e8.lo k (by omega) o).trans (e7.lo k hk o)
  have hva8 : ∀ k, blkO va k → ∀ o, H8 k o = none := fun k e o => (hn8 k (h.ov.lt e) o).trans ((h.wv k e).2 o)
  have hpa8 : ∀ k, blkO pa k → ∀ o, H8 k o = none := fun k e o => (hn8 k (h.op.lt e) o).trans ((h.wp k e).2 o)
  have hs9 : HS H8 w9 := e8.hs.fr f9 hpa8
  have V6 := h.vs.app f6 v6 z0
  have V7 := V6.frO ov6 (by decide) (by decide) f7
  have V9 := (V7.frN f8).frO op8 (by decide) (by decide) f9
  have L8 := e7.le.trans e8.le
  have hfr7 : Fr noB w0 w7 := (h.fr.no f6).trans f7 (fun k hk e => absurd (h.wv k e).1 (Nat.not_le.2 hk))
  have hfr9 : Fr noB w0 w9 := (hfr7.no f8).trans f9 (fun k hk e => absurd (h.wp k e).1 (Nat.not_le.2 hk))
  refine ⟨⟨h.ext.le.trans L8, hs9, fun k hk o => (hn8 k (by omega) o).trans (h.ext.lo k hk o)⟩, hfr9, ?_, ?_, by simp [h.yl], fun z hz => ?_, fun i hi => ?_, V9, fun k e => ?_, fun k e => ?_⟩
  · rw [encVs_snoc, List.length_append]; exact o8.fr f9 (own_own o8 op8 (by decide))
  · rw [encSp_snoc, List.length_append]; exact o9
  · rcases List.mem_append.1 hz with hz | hz
    · exact (h.vd z hz).mono L8
    · simp at hz; subst hz; exact t7.mono e8.le
  · rw [List.length_append] at hi
    simp only [List.length_cons, List.length_nil] at hi
    have hyl := h.yl
    by_cases e : i = xs.length
    · have e1 : (xs ++ [x]).getD i va0 = x := by rw [e]; simp [List.getD]
      have e2 : (ys ++ [y]).getD i sp0 = y := by rw [e, ← hyl]; simp [List.getD]
      rw [e1, e2]; exact p8
    · have e1 : (xs ++ [x]).getD i va0 = xs.getD i va0 := by simp [List.getD, List.getElem?_append_left (show i < xs.length by omega)]
      have e2 : (ys ++ [y]).getD i sp0 = ys.getD i sp0 := by simp [List.getD, List.getElem?_append_left (show i < ys.length by omega)]
      rw [e1, e2]; exact (h.pt i (by omega)).mono L8
  · rcases n7 k e with e2 | e2
    · exact ⟨(h.wv k e2).1, hva8 k e2⟩
    · refine ⟨by omega, fun o => ?_⟩
      have hk7 := o7.lt e
      refine (e8.lo k hk7 o).trans (e7.hs.off e2 o)
  · rcases n9 k e with e2 | e2
    · exact ⟨(h.wp k e2).1, hpa8 k e2⟩
    · exact ⟨by omega, fun o => e8.hs.off e2 o⟩
theorem SVM.init {H : Heap} {w : World} (hH : HS H w) : SVM H H w ((w.alloc (.cells #[] 30)).alloc (.cells #[] 106)) [] [] (some ⟨w.heap.size, 0, none⟩) (some ⟨(w.alloc (.cells #[] 30)).heap.size, 0, none⟩) 0 0 := by
  have fA : Fr noB w (w.alloc (.cells #[] 30)) := Fr.alloc _ _ _ _
  have oA : Own (w.alloc (.cells #[] 30)) 30 5 (some ⟨w.heap.size, 0, none⟩) 0 0 (encVs []) := Own.mk' rfl (heap_alloc_new w _) (Nat.le_refl _) (by decide) rfl rfl
  generalize w.alloc (.cells #[] 30) = wA at fA oA ⊢
  have fB : Fr noB wA (wA.alloc (.cells #[] 106)) := Fr.alloc _ _ _ _
  have oB : Own (wA.alloc (.cells #[] 106)) 106 5 (some ⟨wA.heap.size, 0, none⟩) 0 0 (encSp []) := Own.mk' rfl (heap_alloc_new wA _) (Nat.le_refl _) (by decide) rfl rfl
  generalize wA.alloc (.cells #[] 106) = wB at fB oB ⊢
  have zA := fA.size
  have key : ∀ (b k : Nat), w.heap.size ≤ b → blkO (some ⟨b, 0, none⟩) k → w.heap.size ≤ k ∧ ∀ o, H k o = none := fun b k hb e => by
    have e : b = k := by simpa [blkO] using e
    exact ⟨by omega, fun o => hH.off (by omega) o⟩
  exact ⟨⟨HLe.refl _, (hH.frN fA).frN fB, fun _ _ _ => rfl⟩, fA.no fB, oA.frN fB, oB, rfl, fun x hx => (by cases hx), fun i hi => absurd hi (Nat.not_lt_zero _), Vds.nil, fun k e => key _ k (Nat.le_refl _) e, fun k e => key _ k zA e⟩
end
end Go.Proofs.YbzaawGreat
