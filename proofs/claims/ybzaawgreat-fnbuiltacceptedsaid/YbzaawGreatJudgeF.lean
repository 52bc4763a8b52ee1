/-  The judge as a plain function.  -/
import Derived.Test.YbzaawGreatJudgeA
namespace Go.Proofs.YbzaawGreat
open Go.Wf Go.Deep
set_option linter.unusedSimpArgs false
set_option linter.unusedVariables false

open Classical in
/-- The tree of a list of nodes that is well formed. -/
noncomputable def trOf (f : List Nd) : FT := if h : ∃ t, WF f t then Classical.choose h else .nil
theorem trOf_eq {f : List Nd} {t : FT} (h : WF f t) : trOf f = t := by
  have hex : ∃ t, WF f t := ⟨t, h⟩
  unfold trOf
  rw [dif_pos hex]
  exact (Classical.choose_spec hex).uniq h
theorem trOf_wf {f : List Nd} (h : ∃ t, WF f t) : WF f (trOf f) := by obtain ⟨t, ht⟩ := h; rw [trOf_eq ht]; exact ht
/-- A verdict. -/
structure Vd where
  ok : Bool
  code : Int
  at_ : Int
  prem : List FT
  goal : FT
def vd0 : Vd := ⟨false, 0, 0, [], .nil⟩
def failF (code at_ : Int) : Vd := ⟨false, code, at_, [], .nil⟩
def Vd.goalN (v : Vd) : List Nd := if v.ok = true then lay 0 v.goal else []
/-- The patterns are matched in turn. -/
noncomputable def foldM : List FT → List FT → List KB → Option (List KB)
  | [], _, ls => some ls
  | p :: ps, ts, ls => match matchF p (ts.headD .nil) ls with | none => none | some l1 => foldM ps ts.tail l1
/-- The theorem v serves: its premises are the formulas ts, its goal c. -/
def useP (v : Vd) (c : FT) (ts : List FT) : Prop := ts.length = v.prem.length ∧ ∃ ls, foldM v.prem ts [] = some ls ∧ matchF v.goal c ls ≠ none
/-- The step is right by its rule; X: the formulas referred to, K: the conclusions of the boxes referred to. -/
def stepP (rule : Int) (c : FT) (X K : Nat → FT) (U : Prop) : Prop :=
  if rule = 1 then c = X 0
  else if rule = 2 then topO c = 4 ∧ lk c = X 0 ∧ rk c = X 1
  else if rule = 3 then topO (X 0) = 4 ∧ lk (X 0) = c
  else if rule = 4 then topO (X 0) = 4 ∧ rk (X 0) = c
  else if rule = 5 then topO c = 5 ∧ lk c = X 0
  else if rule = 6 then topO c = 5 ∧ rk c = X 0
  else if rule = 7 then topO (X 0) = 5 ∧ lk (X 0) = X 1 ∧ rk (X 0) = X 2 ∧ K 1 = c ∧ K 2 = c
  else if rule = 8 then topO c = 6 ∧ lk c = X 0 ∧ rk c = K 0
  else if rule = 9 then topO (X 0) = 6 ∧ lk (X 0) = X 1 ∧ rk (X 0) = c
  else if rule = 10 then topO c = 3 ∧ lk c = X 0 ∧ topO (K 0) = 2
  else if rule = 11 then topO c = 2 ∧ topO (X 1) = 3 ∧ lk (X 1) = X 0
  else if rule = 12 then topO (X 0) = 2
  else if rule = 13 then topO (X 0) = 3 ∧ lk (X 0) = c ∧ topO (K 0) = 2
  else if rule = 14 then topO c = 7 ∧ topO (X 0) = 6 ∧ topO (X 1) = 6 ∧ lk (X 0) = lk c ∧ rk (X 0) = rk c ∧ lk (X 1) = rk c ∧ rk (X 1) = lk c
  else if rule = 15 then topO (X 0) = 7 ∧ lk (X 0) = X 1 ∧ rk (X 0) = c
  else if rule = 16 then topO (X 0) = 7 ∧ lk (X 0) = c ∧ rk (X 0) = X 1
  else if rule = 17 then U
  else False
section
variable (c : FT) (X K : Nat → FT) (U : Prop)
theorem st1 : stepP 1 c X K U = (c = X 0) := by simp [stepP]
theorem st2 : stepP 2 c X K U = (topO c = 4 ∧ lk c = X 0 ∧ rk c = X 1) := by simp [stepP]
theorem st3 : stepP 3 c X K U = (topO (X 0) = 4 ∧ lk (X 0) = c) := by simp [stepP]
theorem st4 : stepP 4 c X K U = (topO (X 0) = 4 ∧ rk (X 0) = c) := by simp [stepP]
theorem st5 : stepP 5 c X K U = (topO c = 5 ∧ lk c = X 0) := by simp [stepP]
theorem st6 : stepP 6 c X K U = (topO c = 5 ∧ rk c = X 0) := by simp [stepP]
theorem st7 : stepP 7 c X K U = (topO (X 0) = 5 ∧ lk (X 0) = X 1 ∧ rk (X 0) = X 2 ∧ K 1 = c ∧ K 2 = c) := by simp [stepP]
theorem st8 : stepP 8 c X K U = (topO c = 6 ∧ lk c = X 0 ∧ rk c = K 0) := by simp [stepP]
theorem st9 : stepP 9 c X K U = (topO (X 0) = 6 ∧ lk (X 0) = X 1 ∧ rk (X 0) = c) := by simp [stepP]
theorem st10 : stepP 10 c X K U = (topO c = 3 ∧ lk c = X 0 ∧ topO (K 0) = 2) := by simp [stepP]
theorem st11 : stepP 11 c X K U = (topO c = 2 ∧ topO (X 1) = 3 ∧ lk (X 1) = X 0) := by simp [stepP]
theorem st12 : stepP 12 c X K U = (topO (X 0) = 2) := by simp [stepP]
theorem st13 : stepP 13 c X K U = (topO (X 0) = 3 ∧ lk (X 0) = c ∧ topO (K 0) = 2) := by simp [stepP]
theorem st14 : stepP 14 c X K U = (topO c = 7 ∧ topO (X 0) = 6 ∧ topO (X 1) = 6 ∧ lk (X 0) = lk c ∧ rk (X 0) = rk c ∧ lk (X 1) = rk c ∧ rk (X 1) = lk c) := by simp [stepP]
theorem st15 : stepP 15 c X K U = (topO (X 0) = 7 ∧ lk (X 0) = X 1 ∧ rk (X 0) = c) := by simp [stepP]
theorem st16 : stepP 16 c X K U = (topO (X 0) = 7 ∧ lk (X 0) = c ∧ rk (X 0) = X 1) := by simp [stepP]
theorem st17 : stepP 17 c X K U = U := by simp [stepP]
end
/-- A numbered line. -/
structure Num where
  f : List Nd
  kind : Int
  box : Int
def num0 : Num := ⟨[], 0, 0⟩
structure Bx where
  parent : Int
  opn : Bool
  first : Nat
  last : Nat
def bx0 : Bx := ⟨0, false, 0, 0⟩
/-- Where the judge stands inside a theorem. -/
structure JS where
  nums : List Num
  boxes : List Bx
  stack : List Nat
  prem : List FT
def js0 : JS := ⟨[], [], [], []⟩
/-- The line with number r. -/
def JS.num (st : JS) (r : Int) : Num := st.nums.getD (r.toNat - 1) num0
def JS.bx (st : JS) (b : Int) : Bx := st.boxes.getD b.toNat bx0
def JS.isOpen (st : JS) (b : Int) : Prop := b < 0 ∨ (st.bx b).opn = true
def refOK (st : JS) (rule i r : Int) : Prop :=
  1 ≤ r ∧ r ≤ st.nums.length ∧
    (if boxPos rule i = true then (st.num r).kind = 3 ∧ (st.bx (st.num r).box).opn = false ∧ st.isOpen (st.bx (st.num r).box).parent else st.isOpen (st.num r).box)
def useOK (prev : List Vd) (k : Int) : Prop := 1 ≤ k ∧ k ≤ prev.length ∧ (prev.getD (k.toNat - 1) vd0).ok = true
/-- The formula of the i-th line referred to, and its box's conclusion. -/
noncomputable def JS.X (st : JS) (refs : List Int) (i : Nat) : FT := trOf (st.num (refs.getD i 0)).f
noncomputable def JS.K (st : JS) (refs : List Int) (i : Nat) : FT := trOf (st.num (st.bx (st.num (refs.getD i 0)).box).last).f
noncomputable def useOf (prev : List Vd) (st : JS) (l : Ln) : Prop := useP (prev.getD ((l.refs.getD 0 0).toNat - 1) vd0) (trOf l.f) ((List.range (l.refs.length - 1)).map fun q => st.X l.refs (q + 1))
def startR (l : Ln) : Nat := if l.rule = 17 then 1 else 0
open Classical in
/-- The code of a step: 0 if it is right. -/
noncomputable def checkF (prev : List Vd) (st : JS) (l : Ln) : Int :=
  if l.rule = 17 ∧ ¬ useOK prev (l.refs.getD 0 0) then 8
  else if ∃ i, startR l ≤ i ∧ i < l.refs.length ∧ ¬ refOK st l.rule i (l.refs.getD i 0) then 2
  else if stepP l.rule (trOf l.f) (st.X l.refs) (st.K l.refs) (useOf prev st l) then 0 else 3
def JS.cur (st : JS) : Int := match st.stack.getLast? with | none => -1 | some b => (b : Int)
def setOpen (bs : List Bx) (b : Nat) : List Bx := bs.set b { bs.getD b bx0 with opn := false }
def setLast (bs : List Bx) (b : Int) (n : Nat) : List Bx := if b < 0 then bs else bs.set b.toNat { bs.getD b.toNat bx0 with last := n }
open Classical in
/-- One line: a code, or the next standing. -/
noncomputable def lineJ (prev : List Vd) (st : JS) (l : Ln) : Int ⊕ JS :=
  if lnBad l then .inl 1
  else if l.kind = 2 then (if 0 ≤ st.cur then .inl 4 else .inr ⟨st.nums ++ [⟨l.f, 2, -1⟩], st.boxes, st.stack, st.prem ++ [trOf l.f]⟩)
  else if l.kind = 3 then .inr ⟨st.nums ++ [⟨l.f, 3, st.boxes.length⟩], st.boxes ++ [⟨st.cur, true, st.nums.length + 1, st.nums.length + 1⟩], st.stack ++ [st.boxes.length], st.prem⟩
  else if l.kind = 5 then (if st.cur < 0 then .inl 5 else .inr ⟨st.nums, setOpen st.boxes st.cur.toNat, st.stack.dropLast, st.prem⟩)
  else if l.kind = 4 then (if checkF prev st l ≠ 0 then .inl (checkF prev st l) else .inr ⟨st.nums ++ [⟨l.f, 4, st.cur⟩], setLast st.boxes st.cur (st.nums.length + 1), st.stack, st.prem⟩)
  else .inr st
noncomputable def linesJ (prev : List Vd) : JS → List Ln → (Int × Int) ⊕ JS
  | st, [] => .inr st
  | st, l :: r => match lineJ prev st l with | .inl c => .inl (c, l.src) | .inr st' => linesJ prev st' r
/-- The last line outside all boxes: its place, or -1. -/
def goalAt : List Num → Nat → Int
  | _, 0 => -1
  | ns, n + 1 => if (ns.getD n num0).box < 0 then n else goalAt ns n
noncomputable def endJ (src : Int) (st : JS) : Vd :=
  if st.stack ≠ [] then failF 6 src
  else if goalAt st.nums st.nums.length < 0 then failF 7 src
  else ⟨true, 0, 0, st.prem, trOf (st.nums.getD (goalAt st.nums st.nums.length).toNat num0).f⟩
noncomputable def blockJ (prev : List Vd) (src : Int) (ls : List Ln) : Vd := match linesJ prev js0 ls with | .inl (c, s) => failF c s | .inr st => endJ src st
/-- The theorems of a list of lines. -/
def blks : List Ln → List (Int × List Ln)
  | [] => []
  | l :: r => if l.kind = 1 then (l.src, r.takeWhile fun x => x.kind ≠ 1) :: blks r else blks r
noncomputable def judgeB (prev : List Vd) : List (Int × List Ln) → List Vd
  | [] => prev
  | (s, b) :: r => judgeB (prev ++ [blockJ prev s b]) r
noncomputable def judgeF (ls : List Ln) : List Vd := judgeB [] (blks ls)
end Go.Proofs.YbzaawGreat
