/-  The plain judge on the builder's lines.  -/
import Derived.Test.YbzaawGreatJudgeF
namespace Go.Proofs.YbzaawGreat
open Go.Wf Go.Deep
set_option linter.unusedSimpArgs false
set_option linter.unusedVariables false

/-- A formula that a line may bear. -/
def TG (t : FT) : Prop := Shape okName t ∧ thgt t ≤ 500
theorem TG.wf {t : FT} (h : TG t) : WF (lay 0 t) t := WF.of_lay h.1 h.2
theorem TG.tr {t : FT} (h : TG t) : trOf (lay 0 t) = t := trOf_eq h.wf
def lnP (t : FT) (k : Int) : Ln := ⟨2, lay 0 t, 0, [], k⟩
def lnA (t : FT) (k : Int) : Ln := ⟨3, lay 0 t, 0, [], k⟩
def lnE (k : Int) : Ln := ⟨5, [], 0, [], k⟩
def lnS (c : FT) (rule : Int) (refs : List Int) (k : Int) : Ln := ⟨4, lay 0 c, rule, refs, k⟩
section
variable {prev : List Vd} {st : JS} {t c : FT} {k rule : Int} {refs : List Int}
theorem bad2 (h : TG t) : ¬ lnBad (lnP t k) := by
  rintro (h1 | h1 | ⟨_, h1⟩ | ⟨h1, _⟩)
  · simp [lnP] at h1
  · simp [lnP] at h1
  · exact h1 ⟨t, h.wf⟩
  · simp [lnP] at h1
theorem bad3 (h : TG t) : ¬ lnBad (lnA t k) := by
  rintro (h1 | h1 | ⟨_, h1⟩ | ⟨h1, _⟩)
  · simp [lnA] at h1
  · simp [lnA] at h1
  · exact h1 ⟨t, h.wf⟩
  · simp [lnA] at h1
theorem bad5 : ¬ lnBad (lnE k) := by
  rintro (h1 | h1 | ⟨h1, _⟩ | ⟨h1, _⟩) <;> simp [lnE] at h1
theorem bad4 (h : TG c) (h1 : 1 ≤ rule) (h17 : rule ≤ 17) (hf : fitsF rule refs.length = true) : ¬ lnBad (lnS c rule refs k) := by
  rintro (g | g | ⟨_, g⟩ | ⟨_, g | g | g⟩)
  · simp [lnS] at g
  · simp [lnS] at g
  · exact g ⟨c, h.wf⟩
  · simp [lnS] at g; omega
  · simp [lnS] at g; omega
  · simp [lnS, hf] at g
theorem j_prem (h : TG t) (hc : st.stack = []) : lineJ prev st (lnP t k) = .inr ⟨st.nums ++ [⟨lay 0 t, 2, -1⟩], st.boxes, [], st.prem ++ [t]⟩ := by
  unfold lineJ
  have hcur : ¬ (0 ≤ st.cur) := by simp [JS.cur, hc]
  rw [if_neg (bad2 h), if_pos (show (lnP t k).kind = 2 from rfl), if_neg hcur, hc]
  show Sum.inr _ = Sum.inr _
  simp [lnP, h.tr]
theorem j_ass (h : TG t) : lineJ prev st (lnA t k) = .inr ⟨st.nums ++ [⟨lay 0 t, 3, st.boxes.length⟩], st.boxes ++ [⟨st.cur, true, st.nums.length + 1, st.nums.length + 1⟩], st.stack ++ [st.boxes.length], st.prem⟩ := by
  unfold lineJ
  rw [if_neg (bad3 h), if_neg (by simp [lnA]), if_pos (show (lnA t k).kind = 3 from rfl)]
  rfl
theorem j_end (hc : ¬ st.cur < 0) : lineJ prev st (lnE k) = .inr ⟨st.nums, setOpen st.boxes st.cur.toNat, st.stack.dropLast, st.prem⟩ := by
  unfold lineJ
  rw [if_neg bad5, if_neg (by simp [lnE]), if_neg (by simp [lnE]), if_pos (show (lnE k).kind = 5 from rfl), if_neg hc]
theorem check0 (h17 : rule ≠ 17) (hr : ∀ i, i < refs.length → refOK st rule i (refs.getD i 0)) (hs : ∀ U, stepP rule (trOf (lay 0 c)) (st.X refs) (st.K refs) U) : checkF prev st (lnS c rule refs k) = 0 := by
  unfold checkF
  rw [if_neg (fun e => h17 e.1), if_neg (fun e => by obtain ⟨i, _, h2, h3⟩ := e; exact h3 (hr i h2)), if_pos (show stepP (lnS c rule refs k).rule (trOf (lnS c rule refs k).f) (st.X (lnS c rule refs k).refs) (st.K (lnS c rule refs k).refs) (useOf prev st (lnS c rule refs k)) from hs _)]
theorem j_step (h : TG c) (h1 : 1 ≤ rule) (h17 : rule ≤ 17) (hf : fitsF rule refs.length = true) (hk : checkF prev st (lnS c rule refs k) = 0) : lineJ prev st (lnS c rule refs k) = .inr ⟨st.nums ++ [⟨lay 0 c, 4, st.cur⟩], setLast st.boxes st.cur (st.nums.length + 1), st.stack, st.prem⟩ := by
  unfold lineJ
  rw [if_neg (bad4 h h1 h17 hf), if_neg (by simp [lnS]), if_neg (by simp [lnS]), if_neg (by simp [lnS]), if_pos (show (lnS c rule refs k).kind = 4 from rfl), if_neg (by rw [hk]; simp)]
  rfl
theorem js_cons {l : Ln} {r : List Ln} {st' : JS} (h : lineJ prev st l = .inr st') : linesJ prev st (l :: r) = linesJ prev st' r := by
  simp only [linesJ]; rw [h]
end
/-- From st on the judge takes the lines; the theorem's verdict is v. -/
def Acc (prev : List Vd) (st : JS) (ls : List Ln) (v : Vd) : Prop := ∃ st', linesJ prev st ls = .inr st' ∧ ∀ s, endJ s st' = v
theorem acc_cons {prev : List Vd} {st st' : JS} {l : Ln} {r : List Ln} {v : Vd} (h : lineJ prev st l = .inr st') (hr : Acc prev st' r v) : Acc prev st (l :: r) v := by
  obtain ⟨s2, h1, h2⟩ := hr
  exact ⟨s2, (js_cons h).trans h1, h2⟩
theorem acc_nil {prev : List Vd} {st : JS} {v : Vd} (h : ∀ s, endJ s st = v) : Acc prev st [] v := ⟨st, rfl, h⟩
theorem all1 {p : Nat → Prop} {n : Nat} (hn : n = 1) (h0 : p 0) : ∀ i, i < n → p i := fun i hi => by
  obtain rfl : i = 0 := by omega
  exact h0
theorem all2 {p : Nat → Prop} {n : Nat} (hn : n = 2) (h0 : p 0) (h1 : p 1) : ∀ i, i < n → p i := fun i hi => by
  rcases (by omega : i = 0 ∨ i = 1) with rfl | rfl
  · exact h0
  · exact h1
theorem all3 {p : Nat → Prop} {n : Nat} (hn : n = 3) (h0 : p 0) (h1 : p 1) (h2 : p 2) : ∀ i, i < n → p i := fun i hi => by
  rcases (by omega : i = 0 ∨ i = 1 ∨ i = 2) with rfl | rfl | rfl
  · exact h0
  · exact h1
  · exact h2
section
variable {prev : List Vd} {A B C : FT} {s : Int}
theorem lkB (op : Int) (l r : FT) : lk (tB op l r) = l := rfl
theorem rkB (op : Int) (l r : FT) : rk (tB op l r) = r := rfl
theorem tpB' (op : Int) (l r : FT) : topO (tB op l r) = op := rfl
theorem lkN (t : FT) : lk (tN t) = t := rfl
theorem tpN' (t : FT) : topO (tN t) = 3 := rfl
theorem tp0' : topO tB0 = 2 := rfl
set_option maxRecDepth 20000 in
theorem acc0 (h0 : TG (tB 4 A B)) (h1 : TG (B)) (h2 : TG (A)) (h3 : TG (tB 4 B A)) (k0 k1 k2 k3 : Int) : Acc prev js0 [lnP (tB 4 A B) k0, lnS (B) 4 [1] k1, lnS (A) 3 [1] k2, lnS (tB 4 B A) 2 [2, 3] k3] ⟨true, 0, 0, [tB 4 A B], tB 4 B A⟩ := by
  refine acc_cons (j_prem h0 rfl) ?_
  refine acc_cons (j_step h1 (by decide) (by decide) (by decide) (check0 (by decide) (all1 rfl ?_) (fun U => ?_))) ?_
  · simp [refOK, js0, JS.num, JS.isOpen, boxPos, JS.cur, JS.bx, setOpen, setLast, bx0, num0]
  · rw [st4]; simp [JS.X, JS.K, js0, JS.num, JS.isOpen, boxPos, JS.cur, JS.bx, setOpen, setLast, bx0, num0, h0.tr, h1.tr, h2.tr, h3.tr, lkB, rkB, tpB', lkN, tpN', tp0']
  refine acc_cons (j_step h2 (by decide) (by decide) (by decide) (check0 (by decide) (all1 rfl ?_) (fun U => ?_))) ?_
  · simp [refOK, js0, JS.num, JS.isOpen, boxPos, JS.cur, JS.bx, setOpen, setLast, bx0, num0]
  · rw [st3]; simp [JS.X, JS.K, js0, JS.num, JS.isOpen, boxPos, JS.cur, JS.bx, setOpen, setLast, bx0, num0, h0.tr, h1.tr, h2.tr, h3.tr, lkB, rkB, tpB', lkN, tpN', tp0']
  refine acc_cons (j_step h3 (by decide) (by decide) (by decide) (check0 (by decide) (all2 rfl ?_ ?_) (fun U => ?_))) ?_
  · simp [refOK, js0, JS.num, JS.isOpen, boxPos, JS.cur, JS.bx, setOpen, setLast, bx0, num0]
  · simp [refOK, js0, JS.num, JS.isOpen, boxPos, JS.cur, JS.bx, setOpen, setLast, bx0, num0]
  · rw [st2]; simp [JS.X, JS.K, js0, JS.num, JS.isOpen, boxPos, JS.cur, JS.bx, setOpen, setLast, bx0, num0, h0.tr, h1.tr, h2.tr, h3.tr, lkB, rkB, tpB', lkN, tpN', tp0']
  refine acc_nil (fun s => ?_)
  simp [endJ, goalAt, js0, JS.num, JS.isOpen, boxPos, JS.cur, JS.bx, setOpen, setLast, bx0, num0, h0.tr, h1.tr, h2.tr, h3.tr]
set_option maxRecDepth 20000 in
theorem acc1 (h0 : TG (A)) (h1 : TG (tB 6 A A)) (k0 k1 k2 : Int) : Acc prev js0 [lnA (A) k0, lnE k1, lnS (tB 6 A A) 8 [1] k2] ⟨true, 0, 0, [], tB 6 A A⟩ := by
  refine acc_cons (j_ass h0) ?_
  refine acc_cons (j_end (by simp [js0, JS.num, JS.isOpen, boxPos, JS.cur, JS.bx, setOpen, setLast, bx0, num0])) ?_
  refine acc_cons (j_step h1 (by decide) (by decide) (by decide) (check0 (by decide) (all1 rfl ?_) (fun U => ?_))) ?_
  · simp [refOK, js0, JS.num, JS.isOpen, boxPos, JS.cur, JS.bx, setOpen, setLast, bx0, num0]
  · rw [st8]; simp [JS.X, JS.K, js0, JS.num, JS.isOpen, boxPos, JS.cur, JS.bx, setOpen, setLast, bx0, num0, h0.tr, h1.tr, lkB, rkB, tpB', lkN, tpN', tp0']
  refine acc_nil (fun s => ?_)
  simp [endJ, goalAt, js0, JS.num, JS.isOpen, boxPos, JS.cur, JS.bx, setOpen, setLast, bx0, num0, h0.tr, h1.tr]
set_option maxRecDepth 20000 in
theorem acc2 (h0 : TG (tB 5 A B)) (h1 : TG (A)) (h2 : TG (tB 5 B A)) (h3 : TG (B)) (k0 k1 k2 k3 k4 k5 k6 k7 : Int) : Acc prev js0 [lnP (tB 5 A B) k0, lnA (A) k1, lnS (tB 5 B A) 6 [2] k2, lnE k3, lnA (B) k4, lnS (tB 5 B A) 5 [4] k5, lnE k6, lnS (tB 5 B A) 7 [1, 2, 4] k7] ⟨true, 0, 0, [tB 5 A B], tB 5 B A⟩ := by
  refine acc_cons (j_prem h0 rfl) ?_
  refine acc_cons (j_ass h1) ?_
  refine acc_cons (j_step h2 (by decide) (by decide) (by decide) (check0 (by decide) (all1 rfl ?_) (fun U => ?_))) ?_
  · simp [refOK, js0, JS.num, JS.isOpen, boxPos, JS.cur, JS.bx, setOpen, setLast, bx0, num0]
  · rw [st6]; simp [JS.X, JS.K, js0, JS.num, JS.isOpen, boxPos, JS.cur, JS.bx, setOpen, setLast, bx0, num0, h0.tr, h1.tr, h2.tr, h3.tr, lkB, rkB, tpB', lkN, tpN', tp0']
  refine acc_cons (j_end (by simp [js0, JS.num, JS.isOpen, boxPos, JS.cur, JS.bx, setOpen, setLast, bx0, num0])) ?_
  refine acc_cons (j_ass h3) ?_
  refine acc_cons (j_step h2 (by decide) (by decide) (by decide) (check0 (by decide) (all1 rfl ?_) (fun U => ?_))) ?_
  · simp [refOK, js0, JS.num, JS.isOpen, boxPos, JS.cur, JS.bx, setOpen, setLast, bx0, num0]
  · rw [st5]; simp [JS.X, JS.K, js0, JS.num, JS.isOpen, boxPos, JS.cur, JS.bx, setOpen, setLast, bx0, num0, h0.tr, h1.tr, h2.tr, h3.tr, lkB, rkB, tpB', lkN, tpN', tp0']
  refine acc_cons (j_end (by simp [js0, JS.num, JS.isOpen, boxPos, JS.cur, JS.bx, setOpen, setLast, bx0, num0])) ?_
  refine acc_cons (j_step h2 (by decide) (by decide) (by decide) (check0 (by decide) (all3 rfl ?_ ?_ ?_) (fun U => ?_))) ?_
  · simp [refOK, js0, JS.num, JS.isOpen, boxPos, JS.cur, JS.bx, setOpen, setLast, bx0, num0]
  · simp [refOK, js0, JS.num, JS.isOpen, boxPos, JS.cur, JS.bx, setOpen, setLast, bx0, num0]
  · simp [refOK, js0, JS.num, JS.isOpen, boxPos, JS.cur, JS.bx, setOpen, setLast, bx0, num0]
  · rw [st7]; simp [JS.X, JS.K, js0, JS.num, JS.isOpen, boxPos, JS.cur, JS.bx, setOpen, setLast, bx0, num0, h0.tr, h1.tr, h2.tr, h3.tr, lkB, rkB, tpB', lkN, tpN', tp0']
  refine acc_nil (fun s => ?_)
  simp [endJ, goalAt, js0, JS.num, JS.isOpen, boxPos, JS.cur, JS.bx, setOpen, setLast, bx0, num0, h0.tr, h1.tr, h2.tr, h3.tr]
set_option maxRecDepth 20000 in
theorem acc3 (h0 : TG (tN (tN A))) (h1 : TG (tN A)) (h2 : TG (tB0)) (h3 : TG (A)) (k0 k1 k2 k3 k4 : Int) : Acc prev js0 [lnP (tN (tN A)) k0, lnA (tN A) k1, lnS (tB0) 11 [2, 1] k2, lnE k3, lnS (A) 13 [2] k4] ⟨true, 0, 0, [tN (tN A)], A⟩ := by
  refine acc_cons (j_prem h0 rfl) ?_
  refine acc_cons (j_ass h1) ?_
  refine acc_cons (j_step h2 (by decide) (by decide) (by decide) (check0 (by decide) (all2 rfl ?_ ?_) (fun U => ?_))) ?_
  · simp [refOK, js0, JS.num, JS.isOpen, boxPos, JS.cur, JS.bx, setOpen, setLast, bx0, num0]
  · simp [refOK, js0, JS.num, JS.isOpen, boxPos, JS.cur, JS.bx, setOpen, setLast, bx0, num0]
  · rw [st11]; simp [JS.X, JS.K, js0, JS.num, JS.isOpen, boxPos, JS.cur, JS.bx, setOpen, setLast, bx0, num0, h0.tr, h1.tr, h2.tr, h3.tr, lkB, rkB, tpB', lkN, tpN', tp0']
  refine acc_cons (j_end (by simp [js0, JS.num, JS.isOpen, boxPos, JS.cur, JS.bx, setOpen, setLast, bx0, num0])) ?_
  refine acc_cons (j_step h3 (by decide) (by decide) (by decide) (check0 (by decide) (all1 rfl ?_) (fun U => ?_))) ?_
  · simp [refOK, js0, JS.num, JS.isOpen, boxPos, JS.cur, JS.bx, setOpen, setLast, bx0, num0]
  · rw [st13]; simp [JS.X, JS.K, js0, JS.num, JS.isOpen, boxPos, JS.cur, JS.bx, setOpen, setLast, bx0, num0, h0.tr, h1.tr, h2.tr, h3.tr, lkB, rkB, tpB', lkN, tpN', tp0']
  refine acc_nil (fun s => ?_)
  simp [endJ, goalAt, js0, JS.num, JS.isOpen, boxPos, JS.cur, JS.bx, setOpen, setLast, bx0, num0, h0.tr, h1.tr, h2.tr, h3.tr]
set_option maxRecDepth 20000 in
theorem acc4 (h0 : TG (tB 6 A B)) (h1 : TG (tB 6 B A)) (h2 : TG (A)) (h3 : TG (tB 7 A B)) (h4 : TG (B)) (k0 k1 k2 k3 k4 k5 : Int) : Acc prev js0 [lnP (tB 6 A B) k0, lnP (tB 6 B A) k1, lnP (A) k2, lnS (tB 7 A B) 14 [1, 2] k3, lnS (B) 15 [4, 3] k4, lnS (A) 16 [4, 5] k5] ⟨true, 0, 0, [tB 6 A B, tB 6 B A, A], A⟩ := by
  refine acc_cons (j_prem h0 rfl) ?_
  refine acc_cons (j_prem h1 rfl) ?_
  refine acc_cons (j_prem h2 rfl) ?_
  refine acc_cons (j_step h3 (by decide) (by decide) (by decide) (check0 (by decide) (all2 rfl ?_ ?_) (fun U => ?_))) ?_
  · simp [refOK, js0, JS.num, JS.isOpen, boxPos, JS.cur, JS.bx, setOpen, setLast, bx0, num0]
  · simp [refOK, js0, JS.num, JS.isOpen, boxPos, JS.cur, JS.bx, setOpen, setLast, bx0, num0]
  · rw [st14]; simp [JS.X, JS.K, js0, JS.num, JS.isOpen, boxPos, JS.cur, JS.bx, setOpen, setLast, bx0, num0, h0.tr, h1.tr, h2.tr, h3.tr, h4.tr, lkB, rkB, tpB', lkN, tpN', tp0']
  refine acc_cons (j_step h4 (by decide) (by decide) (by decide) (check0 (by decide) (all2 rfl ?_ ?_) (fun U => ?_))) ?_
  · simp [refOK, js0, JS.num, JS.isOpen, boxPos, JS.cur, JS.bx, setOpen, setLast, bx0, num0]
  · simp [refOK, js0, JS.num, JS.isOpen, boxPos, JS.cur, JS.bx, setOpen, setLast, bx0, num0]
  · rw [st15]; simp [JS.X, JS.K, js0, JS.num, JS.isOpen, boxPos, JS.cur, JS.bx, setOpen, setLast, bx0, num0, h0.tr, h1.tr, h2.tr, h3.tr, h4.tr, lkB, rkB, tpB', lkN, tpN', tp0']
  refine acc_cons (j_step h2 (by decide) (by decide) (by decide) (check0 (by decide) (all2 rfl ?_ ?_) (fun U => ?_))) ?_
  · simp [refOK, js0, JS.num, JS.isOpen, boxPos, JS.cur, JS.bx, setOpen, setLast, bx0, num0]
  · simp [refOK, js0, JS.num, JS.isOpen, boxPos, JS.cur, JS.bx, setOpen, setLast, bx0, num0]
  · rw [st16]; simp [JS.X, JS.K, js0, JS.num, JS.isOpen, boxPos, JS.cur, JS.bx, setOpen, setLast, bx0, num0, h0.tr, h1.tr, h2.tr, h3.tr, h4.tr, lkB, rkB, tpB', lkN, tpN', tp0']
  refine acc_nil (fun s => ?_)
  simp [endJ, goalAt, js0, JS.num, JS.isOpen, boxPos, JS.cur, JS.bx, setOpen, setLast, bx0, num0, h0.tr, h1.tr, h2.tr, h3.tr, h4.tr]
set_option maxRecDepth 20000 in
theorem acc5 (h0 : TG (tN A)) (h1 : TG (A)) (h2 : TG (tB0)) (h3 : TG (C)) (h4 : TG (tB 6 A C)) (k0 k1 k2 k3 k4 k5 : Int) : Acc prev js0 [lnP (tN A) k0, lnA (A) k1, lnS (tB0) 11 [2, 1] k2, lnS (C) 12 [3] k3, lnE k4, lnS (tB 6 A C) 8 [2] k5] ⟨true, 0, 0, [tN A], tB 6 A C⟩ := by
  refine acc_cons (j_prem h0 rfl) ?_
  refine acc_cons (j_ass h1) ?_
  refine acc_cons (j_step h2 (by decide) (by decide) (by decide) (check0 (by decide) (all2 rfl ?_ ?_) (fun U => ?_))) ?_
  · simp [refOK, js0, JS.num, JS.isOpen, boxPos, JS.cur, JS.bx, setOpen, setLast, bx0, num0]
  · simp [refOK, js0, JS.num, JS.isOpen, boxPos, JS.cur, JS.bx, setOpen, setLast, bx0, num0]
  · rw [st11]; simp [JS.X, JS.K, js0, JS.num, JS.isOpen, boxPos, JS.cur, JS.bx, setOpen, setLast, bx0, num0, h0.tr, h1.tr, h2.tr, h3.tr, h4.tr, lkB, rkB, tpB', lkN, tpN', tp0']
  refine acc_cons (j_step h3 (by decide) (by decide) (by decide) (check0 (by decide) (all1 rfl ?_) (fun U => ?_))) ?_
  · simp [refOK, js0, JS.num, JS.isOpen, boxPos, JS.cur, JS.bx, setOpen, setLast, bx0, num0]
  · rw [st12]; simp [JS.X, JS.K, js0, JS.num, JS.isOpen, boxPos, JS.cur, JS.bx, setOpen, setLast, bx0, num0, h0.tr, h1.tr, h2.tr, h3.tr, h4.tr, lkB, rkB, tpB', lkN, tpN', tp0']
  refine acc_cons (j_end (by simp [js0, JS.num, JS.isOpen, boxPos, JS.cur, JS.bx, setOpen, setLast, bx0, num0])) ?_
  refine acc_cons (j_step h4 (by decide) (by decide) (by decide) (check0 (by decide) (all1 rfl ?_) (fun U => ?_))) ?_
  · simp [refOK, js0, JS.num, JS.isOpen, boxPos, JS.cur, JS.bx, setOpen, setLast, bx0, num0]
  · rw [st8]; simp [JS.X, JS.K, js0, JS.num, JS.isOpen, boxPos, JS.cur, JS.bx, setOpen, setLast, bx0, num0, h0.tr, h1.tr, h2.tr, h3.tr, h4.tr, lkB, rkB, tpB', lkN, tpN', tp0']
  refine acc_nil (fun s => ?_)
  simp [endJ, goalAt, js0, JS.num, JS.isOpen, boxPos, JS.cur, JS.bx, setOpen, setLast, bx0, num0, h0.tr, h1.tr, h2.tr, h3.tr, h4.tr]
set_option maxRecDepth 20000 in
theorem acc6 (h0 : TG (tN A)) (h1 : TG (A)) (h2 : TG (B)) (h3 : TG (tB0)) (h4 : TG (tN B)) (h5 : TG (tB 6 A (tN B))) (k0 k1 k2 k3 k4 k5 k6 k7 : Int) : Acc prev js0 [lnP (tN A) k0, lnA (A) k1, lnA (B) k2, lnS (tB0) 11 [2, 1] k3, lnE k4, lnS (tN B) 10 [3] k5, lnE k6, lnS (tB 6 A (tN B)) 8 [2] k7] ⟨true, 0, 0, [tN A], tB 6 A (tN B)⟩ := by
  refine acc_cons (j_prem h0 rfl) ?_
  refine acc_cons (j_ass h1) ?_
  refine acc_cons (j_ass h2) ?_
  refine acc_cons (j_step h3 (by decide) (by decide) (by decide) (check0 (by decide) (all2 rfl ?_ ?_) (fun U => ?_))) ?_
  · simp [refOK, js0, JS.num, JS.isOpen, boxPos, JS.cur, JS.bx, setOpen, setLast, bx0, num0]
  · simp [refOK, js0, JS.num, JS.isOpen, boxPos, JS.cur, JS.bx, setOpen, setLast, bx0, num0]
  · rw [st11]; simp [JS.X, JS.K, js0, JS.num, JS.isOpen, boxPos, JS.cur, JS.bx, setOpen, setLast, bx0, num0, h0.tr, h1.tr, h2.tr, h3.tr, h4.tr, h5.tr, lkB, rkB, tpB', lkN, tpN', tp0']
  refine acc_cons (j_end (by simp [js0, JS.num, JS.isOpen, boxPos, JS.cur, JS.bx, setOpen, setLast, bx0, num0])) ?_
  refine acc_cons (j_step h4 (by decide) (by decide) (by decide) (check0 (by decide) (all1 rfl ?_) (fun U => ?_))) ?_
  · simp [refOK, js0, JS.num, JS.isOpen, boxPos, JS.cur, JS.bx, setOpen, setLast, bx0, num0]
  · rw [st10]; simp [JS.X, JS.K, js0, JS.num, JS.isOpen, boxPos, JS.cur, JS.bx, setOpen, setLast, bx0, num0, h0.tr, h1.tr, h2.tr, h3.tr, h4.tr, h5.tr, lkB, rkB, tpB', lkN, tpN', tp0']
  refine acc_cons (j_end (by simp [js0, JS.num, JS.isOpen, boxPos, JS.cur, JS.bx, setOpen, setLast, bx0, num0])) ?_
  refine acc_cons (j_step h5 (by decide) (by decide) (by decide) (check0 (by decide) (all1 rfl ?_) (fun U => ?_))) ?_
  · simp [refOK, js0, JS.num, JS.isOpen, boxPos, JS.cur, JS.bx, setOpen, setLast, bx0, num0]
  · rw [st8]; simp [JS.X, JS.K, js0, JS.num, JS.isOpen, boxPos, JS.cur, JS.bx, setOpen, setLast, bx0, num0, h0.tr, h1.tr, h2.tr, h3.tr, h4.tr, h5.tr, lkB, rkB, tpB', lkN, tpN', tp0']
  refine acc_nil (fun s => ?_)
  simp [endJ, goalAt, js0, JS.num, JS.isOpen, boxPos, JS.cur, JS.bx, setOpen, setLast, bx0, num0, h0.tr, h1.tr, h2.tr, h3.tr, h4.tr, h5.tr]
set_option maxRecDepth 20000 in
theorem acc8 (h0 : TG (A)) (h1 : TG (tB 6 A B)) (h2 : TG (B)) (h3 : TG (tB 5 B C)) (k0 k1 k2 k3 k4 : Int) : Acc prev js0 [lnP (A) k0, lnP (tB 6 A B) k1, lnS (B) 9 [2, 1] k2, lnS (B) 1 [3] k3, lnS (tB 5 B C) 5 [4] k4] ⟨true, 0, 0, [A, tB 6 A B], tB 5 B C⟩ := by
  refine acc_cons (j_prem h0 rfl) ?_
  refine acc_cons (j_prem h1 rfl) ?_
  refine acc_cons (j_step h2 (by decide) (by decide) (by decide) (check0 (by decide) (all2 rfl ?_ ?_) (fun U => ?_))) ?_
  · simp [refOK, js0, JS.num, JS.isOpen, boxPos, JS.cur, JS.bx, setOpen, setLast, bx0, num0]
  · simp [refOK, js0, JS.num, JS.isOpen, boxPos, JS.cur, JS.bx, setOpen, setLast, bx0, num0]
  · rw [st9]; simp [JS.X, JS.K, js0, JS.num, JS.isOpen, boxPos, JS.cur, JS.bx, setOpen, setLast, bx0, num0, h0.tr, h1.tr, h2.tr, h3.tr, lkB, rkB, tpB', lkN, tpN', tp0']
  refine acc_cons (j_step h2 (by decide) (by decide) (by decide) (check0 (by decide) (all1 rfl ?_) (fun U => ?_))) ?_
  · simp [refOK, js0, JS.num, JS.isOpen, boxPos, JS.cur, JS.bx, setOpen, setLast, bx0, num0]
  · rw [st1]; simp [JS.X, JS.K, js0, JS.num, JS.isOpen, boxPos, JS.cur, JS.bx, setOpen, setLast, bx0, num0, h0.tr, h1.tr, h2.tr, h3.tr, lkB, rkB, tpB', lkN, tpN', tp0']
  refine acc_cons (j_step h3 (by decide) (by decide) (by decide) (check0 (by decide) (all1 rfl ?_) (fun U => ?_))) ?_
  · simp [refOK, js0, JS.num, JS.isOpen, boxPos, JS.cur, JS.bx, setOpen, setLast, bx0, num0]
  · rw [st5]; simp [JS.X, JS.K, js0, JS.num, JS.isOpen, boxPos, JS.cur, JS.bx, setOpen, setLast, bx0, num0, h0.tr, h1.tr, h2.tr, h3.tr, lkB, rkB, tpB', lkN, tpN', tp0']
  refine acc_nil (fun s => ?_)
  simp [endJ, goalAt, js0, JS.num, JS.isOpen, boxPos, JS.cur, JS.bx, setOpen, setLast, bx0, num0, h0.tr, h1.tr, h2.tr, h3.tr]
end
end Go.Proofs.YbzaawGreat
