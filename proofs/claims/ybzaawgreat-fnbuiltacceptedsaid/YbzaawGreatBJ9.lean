/-  The plain judge on nested assumptions (written by a generator).  -/
import Derived.Test.YbzaawGreatBJ
namespace Go.Proofs.YbzaawGreat
open Go.Wf Go.Deep
set_option linter.unusedSimpArgs false
set_option linter.unusedVariables false
section
variable {prev : List Vd}
set_option maxRecDepth 20000 in
theorem acc9_1 {t1 : FT} (h0 : TG (t1)) (h1 : TG (tB 6 t1 t1)) (k0 k1 k2 k3 : Int) : Acc prev js0 [lnA (t1) k0, lnS (t1) 1 [1] k1, lnE k2, lnS (tB 6 t1 t1) 8 [1] k3] ⟨true, 0, 0, [], tB 6 t1 t1⟩ := by
  refine acc_cons (j_ass h0) ?_
  refine acc_cons (j_step h0 (by decide) (by decide) (by decide) (check0 (by decide) (all1 rfl ?_) (fun U => ?_))) ?_
  · simp [refOK, js0, JS.num, JS.isOpen, boxPos, JS.cur, JS.bx, setOpen, setLast, bx0, num0]
  · rw [st1]; simp [JS.X, JS.K, js0, JS.num, JS.isOpen, boxPos, JS.cur, JS.bx, setOpen, setLast, bx0, num0, h0.tr, h1.tr, lkB, rkB, tpB', lkN, tpN', tp0']
  refine acc_cons (j_end (by simp [js0, JS.num, JS.isOpen, boxPos, JS.cur, JS.bx, setOpen, setLast, bx0, num0])) ?_
  refine acc_cons (j_step h1 (by decide) (by decide) (by decide) (check0 (by decide) (all1 rfl ?_) (fun U => ?_))) ?_
  · simp [refOK, js0, JS.num, JS.isOpen, boxPos, JS.cur, JS.bx, setOpen, setLast, bx0, num0]
  · rw [st8]; simp [JS.X, JS.K, js0, JS.num, JS.isOpen, boxPos, JS.cur, JS.bx, setOpen, setLast, bx0, num0, h0.tr, h1.tr, lkB, rkB, tpB', lkN, tpN', tp0']
  refine acc_nil (fun s => ?_)
  simp [endJ, goalAt, js0, JS.num, JS.isOpen, boxPos, JS.cur, JS.bx, setOpen, setLast, bx0, num0, h0.tr, h1.tr]
set_option maxRecDepth 20000 in
theorem acc9_2 {t1 t2 : FT} (h0 : TG (t1)) (h1 : TG (t2)) (h2 : TG (tB 6 t2 t2)) (h3 : TG (tB 6 t1 (tB 6 t2 t2))) (k0 k1 k2 k3 k4 k5 k6 : Int) : Acc prev js0 [lnA (t1) k0, lnA (t2) k1, lnS (t2) 1 [2] k2, lnE k3, lnS (tB 6 t2 t2) 8 [2] k4, lnE k5, lnS (tB 6 t1 (tB 6 t2 t2)) 8 [1] k6] ⟨true, 0, 0, [], tB 6 t1 (tB 6 t2 t2)⟩ := by
  refine acc_cons (j_ass h0) ?_
  refine acc_cons (j_ass h1) ?_
  refine acc_cons (j_step h1 (by decide) (by decide) (by decide) (check0 (by decide) (all1 rfl ?_) (fun U => ?_))) ?_
  · simp [refOK, js0, JS.num, JS.isOpen, boxPos, JS.cur, JS.bx, setOpen, setLast, bx0, num0]
  · rw [st1]; simp [JS.X, JS.K, js0, JS.num, JS.isOpen, boxPos, JS.cur, JS.bx, setOpen, setLast, bx0, num0, h0.tr, h1.tr, h2.tr, h3.tr, lkB, rkB, tpB', lkN, tpN', tp0']
  refine acc_cons (j_end (by simp [js0, JS.num, JS.isOpen, boxPos, JS.cur, JS.bx, setOpen, setLast, bx0, num0])) ?_
  refine acc_cons (j_step h2 (by decide) (by decide) (by decide) (check0 (by decide) (all1 rfl ?_) (fun U => ?_))) ?_
  · simp [refOK, js0, JS.num, JS.isOpen, boxPos, JS.cur, JS.bx, setOpen, setLast, bx0, num0]
  · rw [st8]; simp [JS.X, JS.K, js0, JS.num, JS.isOpen, boxPos, JS.cur, JS.bx, setOpen, setLast, bx0, num0, h0.tr, h1.tr, h2.tr, h3.tr, lkB, rkB, tpB', lkN, tpN', tp0']
  refine acc_cons (j_end (by simp [js0, JS.num, JS.isOpen, boxPos, JS.cur, JS.bx, setOpen, setLast, bx0, num0])) ?_
  refine acc_cons (j_step h3 (by decide) (by decide) (by decide) (check0 (by decide) (all1 rfl ?_) (fun U => ?_))) ?_
  · simp [refOK, js0, JS.num, JS.isOpen, boxPos, JS.cur, JS.bx, setOpen, setLast, bx0, num0]
  · rw [st8]; simp [JS.X, JS.K, js0, JS.num, JS.isOpen, boxPos, JS.cur, JS.bx, setOpen, setLast, bx0, num0, h0.tr, h1.tr, h2.tr, h3.tr, lkB, rkB, tpB', lkN, tpN', tp0']
  refine acc_nil (fun s => ?_)
  simp [endJ, goalAt, js0, JS.num, JS.isOpen, boxPos, JS.cur, JS.bx, setOpen, setLast, bx0, num0, h0.tr, h1.tr, h2.tr, h3.tr]
set_option maxRecDepth 20000 in
theorem acc9_3 {t1 t2 t3 : FT} (h0 : TG (t1)) (h1 : TG (t2)) (h2 : TG (t3)) (h3 : TG (tB 6 t3 t3)) (h4 : TG (tB 6 t2 (tB 6 t3 t3))) (h5 : TG (tB 6 t1 (tB 6 t2 (tB 6 t3 t3)))) (k0 k1 k2 k3 k4 k5 k6 k7 k8 k9 : Int) : Acc prev js0 [lnA (t1) k0, lnA (t2) k1, lnA (t3) k2, lnS (t3) 1 [3] k3, lnE k4, lnS (tB 6 t3 t3) 8 [3] k5, lnE k6, lnS (tB 6 t2 (tB 6 t3 t3)) 8 [2] k7, lnE k8, lnS (tB 6 t1 (tB 6 t2 (tB 6 t3 t3))) 8 [1] k9] ⟨true, 0, 0, [], tB 6 t1 (tB 6 t2 (tB 6 t3 t3))⟩ := by
  refine acc_cons (j_ass h0) ?_
  refine acc_cons (j_ass h1) ?_
  refine acc_cons (j_ass h2) ?_
  refine acc_cons (j_step h2 (by decide) (by decide) (by decide) (check0 (by decide) (all1 rfl ?_) (fun U => ?_))) ?_
  · simp [refOK, js0, JS.num, JS.isOpen, boxPos, JS.cur, JS.bx, setOpen, setLast, bx0, num0]
  · rw [st1]; simp [JS.X, JS.K, js0, JS.num, JS.isOpen, boxPos, JS.cur, JS.bx, setOpen, setLast, bx0, num0, h0.tr, h1.tr, h2.tr, h3.tr, h4.tr, h5.tr, lkB, rkB, tpB', lkN, tpN', tp0']
  refine acc_cons (j_end (by simp [js0, JS.num, JS.isOpen, boxPos, JS.cur, JS.bx, setOpen, setLast, bx0, num0])) ?_
  refine acc_cons (j_step h3 (by decide) (by decide) (by decide) (check0 (by decide) (all1 rfl ?_) (fun U => ?_))) ?_
  · simp [refOK, js0, JS.num, JS.isOpen, boxPos, JS.cur, JS.bx, setOpen, setLast, bx0, num0]
  · rw [st8]; simp [JS.X, JS.K, js0, JS.num, JS.isOpen, boxPos, JS.cur, JS.bx, setOpen, setLast, bx0, num0, h0.tr, h1.tr, h2.tr, h3.tr, h4.tr, h5.tr, lkB, rkB, tpB', lkN, tpN', tp0']
  refine acc_cons (j_end (by simp [js0, JS.num, JS.isOpen, boxPos, JS.cur, JS.bx, setOpen, setLast, bx0, num0])) ?_
  refine acc_cons (j_step h4 (by decide) (by decide) (by decide) (check0 (by decide) (all1 rfl ?_) (fun U => ?_))) ?_
  · simp [refOK, js0, JS.num, JS.isOpen, boxPos, JS.cur, JS.bx, setOpen, setLast, bx0, num0]
  · rw [st8]; simp [JS.X, JS.K, js0, JS.num, JS.isOpen, boxPos, JS.cur, JS.bx, setOpen, setLast, bx0, num0, h0.tr, h1.tr, h2.tr, h3.tr, h4.tr, h5.tr, lkB, rkB, tpB', lkN, tpN', tp0']
  refine acc_cons (j_end (by simp [js0, JS.num, JS.isOpen, boxPos, JS.cur, JS.bx, setOpen, setLast, bx0, num0])) ?_
  refine acc_cons (j_step h5 (by decide) (by decide) (by decide) (check0 (by decide) (all1 rfl ?_) (fun U => ?_))) ?_
  · simp [refOK, js0, JS.num, JS.isOpen, boxPos, JS.cur, JS.bx, setOpen, setLast, bx0, num0]
  · rw [st8]; simp [JS.X, JS.K, js0, JS.num, JS.isOpen, boxPos, JS.cur, JS.bx, setOpen, setLast, bx0, num0, h0.tr, h1.tr, h2.tr, h3.tr, h4.tr, h5.tr, lkB, rkB, tpB', lkN, tpN', tp0']
  refine acc_nil (fun s => ?_)
  simp [endJ, goalAt, js0, JS.num, JS.isOpen, boxPos, JS.cur, JS.bx, setOpen, setLast, bx0, num0, h0.tr, h1.tr, h2.tr, h3.tr, h4.tr, h5.tr]
set_option maxRecDepth 20000 in
theorem acc9_4 {t1 t2 t3 t4 : FT} (h0 : TG (t1)) (h1 : TG (t2)) (h2 : TG (t3)) (h3 : TG (t4)) (h4 : TG (tB 6 t4 t4)) (h5 : TG (tB 6 t3 (tB 6 t4 t4))) (h6 : TG (tB 6 t2 (tB 6 t3 (tB 6 t4 t4)))) (h7 : TG (tB 6 t1 (tB 6 t2 (tB 6 t3 (tB 6 t4 t4))))) (k0 k1 k2 k3 k4 k5 k6 k7 k8 k9 k10 k11 k12 : Int) : Acc prev js0 [lnA (t1) k0, lnA (t2) k1, lnA (t3) k2, lnA (t4) k3, lnS (t4) 1 [4] k4, lnE k5, lnS (tB 6 t4 t4) 8 [4] k6, lnE k7, lnS (tB 6 t3 (tB 6 t4 t4)) 8 [3] k8, lnE k9, lnS (tB 6 t2 (tB 6 t3 (tB 6 t4 t4))) 8 [2] k10, lnE k11, lnS (tB 6 t1 (tB 6 t2 (tB 6 t3 (tB 6 t4 t4)))) 8 [1] k12] ⟨true, 0, 0, [], tB 6 t1 (tB 6 t2 (tB 6 t3 (tB 6 t4 t4)))⟩ := by
  refine acc_cons (j_ass h0) ?_
  refine acc_cons (j_ass h1) ?_
  refine acc_cons (j_ass h2) ?_
  refine acc_cons (j_ass h3) ?_
  refine acc_cons (j_step h3 (by decide) (by decide) (by decide) (check0 (by decide) (all1 rfl ?_) (fun U => ?_))) ?_
  · simp [refOK, js0, JS.num, JS.isOpen, boxPos, JS.cur, JS.bx, setOpen, setLast, bx0, num0]
  · rw [st1]; simp [JS.X, JS.K, js0, JS.num, JS.isOpen, boxPos, JS.cur, JS.bx, setOpen, setLast, bx0, num0, h0.tr, h1.tr, h2.tr, h3.tr, h4.tr, h5.tr, h6.tr, h7.tr, lkB, rkB, tpB', lkN, tpN', tp0']
  refine acc_cons (j_end (by simp [js0, JS.num, JS.isOpen, boxPos, JS.cur, JS.bx, setOpen, setLast, bx0, num0])) ?_
  refine acc_cons (j_step h4 (by decide) (by decide) (by decide) (check0 (by decide) (all1 rfl ?_) (fun U => ?_))) ?_
  · simp [refOK, js0, JS.num, JS.isOpen, boxPos, JS.cur, JS.bx, setOpen, setLast, bx0, num0]
  · rw [st8]; simp [JS.X, JS.K, js0, JS.num, JS.isOpen, boxPos, JS.cur, JS.bx, setOpen, setLast, bx0, num0, h0.tr, h1.tr, h2.tr, h3.tr, h4.tr, h5.tr, h6.tr, h7.tr, lkB, rkB, tpB', lkN, tpN', tp0']
  refine acc_cons (j_end (by simp [js0, JS.num, JS.isOpen, boxPos, JS.cur, JS.bx, setOpen, setLast, bx0, num0])) ?_
  refine acc_cons (j_step h5 (by decide) (by decide) (by decide) (check0 (by decide) (all1 rfl ?_) (fun U => ?_))) ?_
  · simp [refOK, js0, JS.num, JS.isOpen, boxPos, JS.cur, JS.bx, setOpen, setLast, bx0, num0]
  · rw [st8]; simp [JS.X, JS.K, js0, JS.num, JS.isOpen, boxPos, JS.cur, JS.bx, setOpen, setLast, bx0, num0, h0.tr, h1.tr, h2.tr, h3.tr, h4.tr, h5.tr, h6.tr, h7.tr, lkB, rkB, tpB', lkN, tpN', tp0']
  refine acc_cons (j_end (by simp [js0, JS.num, JS.isOpen, boxPos, JS.cur, JS.bx, setOpen, setLast, bx0, num0])) ?_
  refine acc_cons (j_step h6 (by decide) (by decide) (by decide) (check0 (by decide) (all1 rfl ?_) (fun U => ?_))) ?_
  · simp [refOK, js0, JS.num, JS.isOpen, boxPos, JS.cur, JS.bx, setOpen, setLast, bx0, num0]
  · rw [st8]; simp [JS.X, JS.K, js0, JS.num, JS.isOpen, boxPos, JS.cur, JS.bx, setOpen, setLast, bx0, num0, h0.tr, h1.tr, h2.tr, h3.tr, h4.tr, h5.tr, h6.tr, h7.tr, lkB, rkB, tpB', lkN, tpN', tp0']
  refine acc_cons (j_end (by simp [js0, JS.num, JS.isOpen, boxPos, JS.cur, JS.bx, setOpen, setLast, bx0, num0])) ?_
  refine acc_cons (j_step h7 (by decide) (by decide) (by decide) (check0 (by decide) (all1 rfl ?_) (fun U => ?_))) ?_
  · simp [refOK, js0, JS.num, JS.isOpen, boxPos, JS.cur, JS.bx, setOpen, setLast, bx0, num0]
  · rw [st8]; simp [JS.X, JS.K, js0, JS.num, JS.isOpen, boxPos, JS.cur, JS.bx, setOpen, setLast, bx0, num0, h0.tr, h1.tr, h2.tr, h3.tr, h4.tr, h5.tr, h6.tr, h7.tr, lkB, rkB, tpB', lkN, tpN', tp0']
  refine acc_nil (fun s => ?_)
  simp [endJ, goalAt, js0, JS.num, JS.isOpen, boxPos, JS.cur, JS.bx, setOpen, setLast, bx0, num0, h0.tr, h1.tr, h2.tr, h3.tr, h4.tr, h5.tr, h6.tr, h7.tr]
set_option maxRecDepth 20000 in
theorem acc9_5 {t1 t2 t3 t4 t5 : FT} (h0 : TG (t1)) (h1 : TG (t2)) (h2 : TG (t3)) (h3 : TG (t4)) (h4 : TG (t5)) (h5 : TG (tB 6 t5 t5)) (h6 : TG (tB 6 t4 (tB 6 t5 t5))) (h7 : TG (tB 6 t3 (tB 6 t4 (tB 6 t5 t5)))) (h8 : TG (tB 6 t2 (tB 6 t3 (tB 6 t4 (tB 6 t5 t5))))) (h9 : TG (tB 6 t1 (tB 6 t2 (tB 6 t3 (tB 6 t4 (tB 6 t5 t5)))))) (k0 k1 k2 k3 k4 k5 k6 k7 k8 k9 k10 k11 k12 k13 k14 k15 : Int) : Acc prev js0 [lnA (t1) k0, lnA (t2) k1, lnA (t3) k2, lnA (t4) k3, lnA (t5) k4, lnS (t5) 1 [5] k5, lnE k6, lnS (tB 6 t5 t5) 8 [5] k7, lnE k8, lnS (tB 6 t4 (tB 6 t5 t5)) 8 [4] k9, lnE k10, lnS (tB 6 t3 (tB 6 t4 (tB 6 t5 t5))) 8 [3] k11, lnE k12, lnS (tB 6 t2 (tB 6 t3 (tB 6 t4 (tB 6 t5 t5)))) 8 [2] k13, lnE k14, lnS (tB 6 t1 (tB 6 t2 (tB 6 t3 (tB 6 t4 (tB 6 t5 t5))))) 8 [1] k15] ⟨true, 0, 0, [], tB 6 t1 (tB 6 t2 (tB 6 t3 (tB 6 t4 (tB 6 t5 t5))))⟩ := by
  refine acc_cons (j_ass h0) ?_
  refine acc_cons (j_ass h1) ?_
  refine acc_cons (j_ass h2) ?_
  refine acc_cons (j_ass h3) ?_
  refine acc_cons (j_ass h4) ?_
  refine acc_cons (j_step h4 (by decide) (by decide) (by decide) (check0 (by decide) (all1 rfl ?_) (fun U => ?_))) ?_
  · simp [refOK, js0, JS.num, JS.isOpen, boxPos, JS.cur, JS.bx, setOpen, setLast, bx0, num0]
  · rw [st1]; simp [JS.X, JS.K, js0, JS.num, JS.isOpen, boxPos, JS.cur, JS.bx, setOpen, setLast, bx0, num0, h0.tr, h1.tr, h2.tr, h3.tr, h4.tr, h5.tr, h6.tr, h7.tr, h8.tr, h9.tr, lkB, rkB, tpB', lkN, tpN', tp0']
  refine acc_cons (j_end (by simp [js0, JS.num, JS.isOpen, boxPos, JS.cur, JS.bx, setOpen, setLast, bx0, num0])) ?_
  refine acc_cons (j_step h5 (by decide) (by decide) (by decide) (check0 (by decide) (all1 rfl ?_) (fun U => ?_))) ?_
  · simp [refOK, js0, JS.num, JS.isOpen, boxPos, JS.cur, JS.bx, setOpen, setLast, bx0, num0]
  · rw [st8]; simp [JS.X, JS.K, js0, JS.num, JS.isOpen, boxPos, JS.cur, JS.bx, setOpen, setLast, bx0, num0, h0.tr, h1.tr, h2.tr, h3.tr, h4.tr, h5.tr, h6.tr, h7.tr, h8.tr, h9.tr, lkB, rkB, tpB', lkN, tpN', tp0']
  refine acc_cons (j_end (by simp [js0, JS.num, JS.isOpen, boxPos, JS.cur, JS.bx, setOpen, setLast, bx0, num0])) ?_
  refine acc_cons (j_step h6 (by decide) (by decide) (by decide) (check0 (by decide) (all1 rfl ?_) (fun U => ?_))) ?_
  · simp [refOK, js0, JS.num, JS.isOpen, boxPos, JS.cur, JS.bx, setOpen, setLast, bx0, num0]
  · rw [st8]; simp [JS.X, JS.K, js0, JS.num, JS.isOpen, boxPos, JS.cur, JS.bx, setOpen, setLast, bx0, num0, h0.tr, h1.tr, h2.tr, h3.tr, h4.tr, h5.tr, h6.tr, h7.tr, h8.tr, h9.tr, lkB, rkB, tpB', lkN, tpN', tp0']
  refine acc_cons (j_end (by simp [js0, JS.num, JS.isOpen, boxPos, JS.cur, JS.bx, setOpen, setLast, bx0, num0])) ?_
  refine acc_cons (j_step h7 (by decide) (by decide) (by decide) (check0 (by decide) (all1 rfl ?_) (fun U => ?_))) ?_
  · simp [refOK, js0, JS.num, JS.isOpen, boxPos, JS.cur, JS.bx, setOpen, setLast, bx0, num0]
  · rw [st8]; simp [JS.X, JS.K, js0, JS.num, JS.isOpen, boxPos, JS.cur, JS.bx, setOpen, setLast, bx0, num0, h0.tr, h1.tr, h2.tr, h3.tr, h4.tr, h5.tr, h6.tr, h7.tr, h8.tr, h9.tr, lkB, rkB, tpB', lkN, tpN', tp0']
  refine acc_cons (j_end (by simp [js0, JS.num, JS.isOpen, boxPos, JS.cur, JS.bx, setOpen, setLast, bx0, num0])) ?_
  refine acc_cons (j_step h8 (by decide) (by decide) (by decide) (check0 (by decide) (all1 rfl ?_) (fun U => ?_))) ?_
  · simp [refOK, js0, JS.num, JS.isOpen, boxPos, JS.cur, JS.bx, setOpen, setLast, bx0, num0]
  · rw [st8]; simp [JS.X, JS.K, js0, JS.num, JS.isOpen, boxPos, JS.cur, JS.bx, setOpen, setLast, bx0, num0, h0.tr, h1.tr, h2.tr, h3.tr, h4.tr, h5.tr, h6.tr, h7.tr, h8.tr, h9.tr, lkB, rkB, tpB', lkN, tpN', tp0']
  refine acc_cons (j_end (by simp [js0, JS.num, JS.isOpen, boxPos, JS.cur, JS.bx, setOpen, setLast, bx0, num0])) ?_
  refine acc_cons (j_step h9 (by decide) (by decide) (by decide) (check0 (by decide) (all1 rfl ?_) (fun U => ?_))) ?_
  · simp [refOK, js0, JS.num, JS.isOpen, boxPos, JS.cur, JS.bx, setOpen, setLast, bx0, num0]
  · rw [st8]; simp [JS.X, JS.K, js0, JS.num, JS.isOpen, boxPos, JS.cur, JS.bx, setOpen, setLast, bx0, num0, h0.tr, h1.tr, h2.tr, h3.tr, h4.tr, h5.tr, h6.tr, h7.tr, h8.tr, h9.tr, lkB, rkB, tpB', lkN, tpN', tp0']
  refine acc_nil (fun s => ?_)
  simp [endJ, goalAt, js0, JS.num, JS.isOpen, boxPos, JS.cur, JS.bx, setOpen, setLast, bx0, num0, h0.tr, h1.tr, h2.tr, h3.tr, h4.tr, h5.tr, h6.tr, h7.tr, h8.tr, h9.tr]
end
end Go.Proofs.YbzaawGreat
