/-  A formula's text inside a line is read as that formula (as Round, with the numbers; never import both).  -/
import Derived.Test.YbzaawGreatTokA
import Derived.Test.YbzaawGreatAns
import Derived.Test.YbzaawGreatShowZ
namespace Go.Proofs.YbzaawGreat
open Go.Wf Go.Deep
set_option linter.unusedSimpArgs false
set_option linter.unusedVariables false

/-- From i on the text s holds the bytes l. -/
def TxAt (s : ByteArray) (i : Nat) (l : List UInt8) : Prop := i + l.length ≤ s.size ∧ ∀ k, k < l.length → s.data.getD (i + k) 0 = l.getD k 0
theorem TxAt.app {s : ByteArray} {i : Nat} {l m : List UInt8} (h : TxAt s i (l ++ m)) : TxAt s i l ∧ TxAt s (i + l.length) m := by
  obtain ⟨h1, h2⟩ := h
  rw [List.length_append] at h1 h2
  refine ⟨⟨by omega, fun k hk => ?_⟩, ⟨by omega, fun k hk => ?_⟩⟩
  · rw [h2 k (by omega)]; simp [List.getD, List.getElem?_append_left hk]
  · rw [Nat.add_assoc, h2 (l.length + k) (by omega)]; simp [List.getD, List.getElem?_append_right]
theorem TxAt.cons {s : ByteArray} {i : Nat} {c : UInt8} {m : List UInt8} (h : TxAt s i (c :: m)) : i < s.size ∧ byteAt s i = c.toNat ∧ TxAt s (i + 1) m := by
  obtain ⟨h1, h2⟩ := TxAt.app (l := [c]) (m := m) h
  have := h1.1
  have := h1.2 0 (by simp)
  refine ⟨by simp at *; omega, ?_, h2⟩
  unfold byteAt; rw [Nat.add_zero] at this; rw [this]; rfl
theorem TxAt.self (l : List UInt8) : TxAt ⟨l.toArray⟩ 0 l := by
  refine ⟨by simp [ByteArray.size], fun k hk => ?_⟩
  simp [Array.getD, List.getD, hk]

abbrev TK := Int × ByteArray × Int
def Tok.key (t : Tok) : TK := (t.kind, if t.kind = 1 then t.text else emp, t.val)
/-- From i on the lexer reads the tokens l, and stands at j then. -/
def LexTo (s : ByteArray) (i : Nat) (l : List TK) (j : Nat) : Prop := (lexFrom s i).map Tok.key = l ++ (lexFrom s j).map Tok.key
theorem LexTo.trans {s : ByteArray} {i j k : Nat} {l m : List TK} (h : LexTo s i l j) (h' : LexTo s j m k) : LexTo s i (l ++ m) k := by
  unfold LexTo at *; rw [h, h', List.append_assoc]
theorem LexTo.step {s : ByteArray} {i : Nat} (hi : i < s.size) {ts : List Tok} {j : Nat} (h : lexStep s i = (ts, j)) : LexTo s i (ts.map Tok.key) j := by
  unfold LexTo; rw [lexFrom_go hi, h, List.map_append]
theorem wE_run {s : ByteArray} {j : Nat} : ∀ n i, i + n = j → j ≤ s.size → (∀ k, i ≤ k → k < j → wordB (byteAt s k) = true) → (j = s.size ∨ wordB (byteAt s j) = false) → wE s i = j
  | 0, i, h, hj, _, he => by
    obtain rfl : i = j := by omega
    exact wE_end (by rcases he with he | he; exact .inl (by omega); exact .inr he)
  | n + 1, i, h, hj, hw, he => by
    rw [wE_go (by omega) (hw i (by omega) (by omega))]
    exact wE_run n (i + 1) (by omega) hj (fun k h1 h2 => hw k (by omega) h2) he
theorem bb_ext {s : ByteArray} {i : Nat} {x : ByteArray} (h : TxAt s i x.data.toList) : s.extract i (i + x.size) = x := by
  obtain ⟨h1, h2⟩ := h
  have hx : x.data.toList.length = x.size := by rw [Array.length_toList]; rfl
  rw [hx] at h1 h2
  apply ByteArray.ext
  apply Array.ext
  · simp only [ByteArray.size_data, ByteArray.size_extract]; omega
  · intro k g1 g2
    have hk : k < x.size := by simpa using g2
    have := h2 k hk
    have hik : i + k < s.data.size := by simp only [ByteArray.size_data]; omega
    simp only [ByteArray.data_extract, Array.getElem_extract]
    have hik2 : i + k < s.size := by omega
    simpa [Array.getD, List.getD, hk, hik, hik2] using this
theorem LexTo.word {s : ByteArray} {i : Nat} {x : ByteArray} (hx : nameB x = true) (h : TxAt s i x.data.toList) (he : i + x.size = s.size ∨ wordB (byteAt s (i + x.size)) = false) : LexTo s i [(1, x, 0)] (i + x.size) := by
  have hlen : x.data.toList.length = x.size := by rw [Array.length_toList]; rfl
  have hpos : 0 < x.size := by
    simp only [nameB, Bool.and_eq_true, decide_eq_true_eq] at hx; exact hx.1.1
  have hl0 : lowB (byteAt x 0) = true := by
    simp only [nameB, Bool.and_eq_true, decide_eq_true_eq] at hx; exact hx.1.2
  have hb : ∀ k, k < x.size → byteAt s (i + k) = byteAt x k := fun k hk => by
    have := h.2 k (by omega)
    unfold byteAt; rw [this]; simp [Array.getD, List.getD, hk]
  have hw : ∀ k, k < x.size → wordB (byteAt x k) = true := fun k hk => by
    by_cases e : k = 0
    · subst e; simp [wordB, hl0]
    · cases hq : wordB (byteAt x k) with
      | true => rfl
      | false => rw [nameB_false (by omega) hk hq] at hx; cases hx
  have h1 := h.1
  have hl : lowB (byteAt s i) = true := by rw [← hl0, ← hb 0 hpos]; rfl
  have hnb : blankB (byteAt s i) = false := by
    simp only [lowB, Bool.and_eq_true, decide_eq_true_eq] at hl; simp [blankB]; omega
  have hwe : wE s (i + 1) = i + x.size := wE_run (x.size - 1) (i + 1) (by omega) (by omega) (fun k g1 g2 => by
    have := hb (k - i) (by omega)
    rw [show i + (k - i) = k by omega] at this
    rw [this]; exact hw _ (by omega)) he
  have := LexTo.step (s := s) (i := i) (by omega) (st_word hnb hl)
  rw [hwe, bb_ext h] at this
  exact this
theorem LexTo.blank {s : ByteArray} {i : Nat} (hi : i < s.size) (h : byteAt s i = 32) : LexTo s i [] (i + 1) := LexTo.step (ts := []) hi (st_blank (by rw [h]; rfl))
theorem LexTo.punct {s : ByteArray} {i c k : Nat} (hi : i < s.size) (h : byteAt s i = c) (hb : blankB c = false) (hl : lowB c = false) (hd : digB c = false) (hp : Go.Proofs.YbzaawGreat.punct c = k) (hk : k ≠ 0) (hk1 : k ≠ 1) : LexTo s i [((k : Int), emp, 0)] (i + 1) := by
  subst h
  have := LexTo.step hi (st_punct hb hl hd hp hk)
  simpa [Tok.key, hk1] using this
theorem LexTo.op {s : ByteArray} {i : Nat} {op : Int} (h4 : 4 ≤ op) (h7 : op ≤ 7) (h : TxAt s i (opB op)) : LexTo s i [(op + 1, emp, 0)] (i + (opB op).length) := by
  have ho : op = 4 ∨ op = 5 ∨ op = 6 ∨ op = 7 := by omega
  rcases ho with rfl | rfl | rfl | rfl
  · obtain ⟨g1, e1, h⟩ := TxAt.cons (c := 32) (m := [38, 32]) h
    obtain ⟨g2, e2, h⟩ := TxAt.cons h
    obtain ⟨g3, e3, h⟩ := TxAt.cons h
    exact ((LexTo.blank g1 e1).trans (LexTo.punct g2 e2 (by decide) (by decide) (by decide) (k := 5) (by decide) (by decide) (by decide))).trans (LexTo.blank g3 e3)
  · obtain ⟨g1, e1, h⟩ := TxAt.cons (c := 32) (m := [124, 32]) h
    obtain ⟨g2, e2, h⟩ := TxAt.cons h
    obtain ⟨g3, e3, h⟩ := TxAt.cons h
    exact ((LexTo.blank g1 e1).trans (LexTo.punct g2 e2 (by decide) (by decide) (by decide) (k := 6) (by decide) (by decide) (by decide))).trans (LexTo.blank g3 e3)
  · obtain ⟨g1, e1, h⟩ := TxAt.cons (c := 32) (m := [45, 62, 32]) h
    obtain ⟨g2, e2, h⟩ := TxAt.cons h
    obtain ⟨g3, e3, h⟩ := TxAt.cons h
    obtain ⟨g4, e4, h⟩ := TxAt.cons h
    have e2' : byteAt s (i + 1) = 45 := e2
    have := LexTo.step g2 (st_imp (by rw [e2']; rfl) (by rw [e2']; rfl) (by rw [e2']; rfl) (by rw [e2']; rfl) ⟨e2, g3, e3⟩)
    exact ((LexTo.blank g1 e1).trans this).trans (LexTo.blank g4 e4)
  · obtain ⟨g1, e1, h⟩ := TxAt.cons (c := 32) (m := [60, 45, 62, 32]) h
    obtain ⟨g2, e2, h⟩ := TxAt.cons h
    obtain ⟨g3, e3, h⟩ := TxAt.cons h
    obtain ⟨g4, e4, h⟩ := TxAt.cons h
    obtain ⟨g5, e5, h⟩ := TxAt.cons h
    have e2' : byteAt s (i + 1) = 60 := e2
    have := LexTo.step g2 (st_iff (by rw [e2']; rfl) (by rw [e2']; rfl) (by rw [e2']; rfl) (by rw [e2']; rfl) ⟨e2, g4, e3, e4⟩)
    exact ((LexTo.blank g1 e1).trans this).trans (LexTo.blank g5 e5)

/-- A formula's tokens. -/
def tks : FT → List TK
  | .nil => []
  | .node _ _ a l r => if a.op = 1 then [(1, a.name, 0)] else if a.op = 2 then [(3, emp, 0)] else if a.op = 3 then (4, emp, 0) :: tks l else (9, emp, 0) :: (tks l ++ ((a.op + 1, emp, 0) :: (tks r ++ [(10, emp, 0)])))
theorem tks_A (s : ByteArray) : tks (tA s) = [(1, s, 0)] := rfl
theorem tks_B0 : tks tB0 = [(3, emp, 0)] := rfl
theorem tks_N (t : FT) : tks (tN t) = (4, emp, 0) :: tks t := rfl
theorem tks_B {op : Int} (h4 : 4 ≤ op) (l r : FT) : tks (tB op l r) = (9, emp, 0) :: (tks l ++ ((op + 1, emp, 0) :: (tks r ++ [(10, emp, 0)]))) := by
  simp only [tB, tks]
  rw [if_neg (by omega), if_neg (by omega), if_neg (by omega)]
theorem op32 {op : Int} (h4 : 4 ≤ op) (h7 : op ≤ 7) : ∃ m, opB op = 32 :: m := by
  have ho : op = 4 ∨ op = 5 ∨ op = 6 ∨ op = 7 := by omega
  rcases ho with rfl | rfl | rfl | rfl <;> exact ⟨_, rfl⟩
theorem lex_show {s : ByteArray} : ∀ t, Shape okName t → ∀ i, TxAt s i (showB t) → (i + (showB t).length = s.size ∨ wordB (byteAt s (i + (showB t).length)) = false) → LexTo s i (tks t) (i + (showB t).length) := by
  refine Shape.ind ?_ ?_ ?_ ?_
  · intro x hx i h he
    rw [show_A] at *
    have hlen : x.data.toList.length = x.size := by rw [Array.length_toList]; rfl
    rw [hlen] at *
    exact LexTo.word hx h he
  · intro i h he
    rw [show_B0] at *
    obtain ⟨g1, e1, h⟩ := TxAt.cons h
    exact LexTo.punct g1 e1 (by decide) (by decide) (by decide) (k := 3) (by decide) (by decide) (by decide)
  · intro t ht ih i h he
    rw [show_N] at *
    rw [List.length_cons] at *
    obtain ⟨g1, e1, h⟩ := TxAt.cons h
    rw [show i + ((showB t).length + 1) = i + 1 + (showB t).length by omega] at *
    exact (LexTo.punct g1 e1 (by decide) (by decide) (by decide) (k := 4) (by decide) (by decide) (by decide)).trans (ih _ h he)
  · intro op l r h4 h7 hl hr ihl ihr i h he
    rw [show_B h4, tks_B h4] at *
    simp only [List.length_cons, List.length_append, List.length_nil] at he ⊢
    obtain ⟨g1, e1, h⟩ := TxAt.cons h
    obtain ⟨k1, h⟩ := h.app
    obtain ⟨k2, h⟩ := h.app
    obtain ⟨k3, h⟩ := h.app
    obtain ⟨g2, e2, h⟩ := h.cons
    have a1 := LexTo.punct g1 e1 (by decide) (by decide) (by decide) (k := 9) (by decide) (by decide) (by decide)
    have a2 := ihl _ k1 (.inr (by
      obtain ⟨m, hm⟩ := op32 h4 h7
      rw [hm] at k2
      rw [k2.cons.2.1]; rfl))
    have a3 := LexTo.op h4 h7 k2
    have a4 := ihr _ k3 (.inr (by rw [e2]; rfl))
    have a5 := LexTo.punct g2 e2 (by decide) (by decide) (by decide) (k := 10) (by decide) (by decide) (by decide)
    have := a1.trans (a2.trans (a3.trans (a4.trans a5)))
    rw [show i + ((showB l).length + ((opB op).length + ((showB r).length + (0 + 1))) + 1) = i + 1 + (showB l).length + (opB op).length + (showB r).length + 1 by omega]
    exact this

/-- From p on the tokens are l. -/
def TkAt (ts : List Nd) (p : Nat) (l : List TK) : Prop := ∀ k, k < l.length → kd ts (p + k) = (l.getD k (0, emp, 0)).1 ∧ ((l.getD k (0, emp, 0)).1 = 1 → (ts.getD (p + k) nd0).name = (l.getD k (0, emp, 0)).2.1)
theorem TkAt.app {ts : List Nd} {p : Nat} {l m : List TK} (h : TkAt ts p (l ++ m)) : TkAt ts p l ∧ TkAt ts (p + l.length) m := by
  refine ⟨fun k hk => ?_, fun k hk => ?_⟩
  · have := h k (by rw [List.length_append]; omega)
    rwa [show (l ++ m).getD k (0, emp, 0) = l.getD k (0, emp, 0) by simp [List.getD, List.getElem?_append_left hk]] at this
  · have := h (l.length + k) (by rw [List.length_append]; omega)
    rw [show (l ++ m).getD (l.length + k) (0, emp, 0) = m.getD k (0, emp, 0) by simp [List.getD, List.getElem?_append_right]] at this
    rwa [Nat.add_assoc]
theorem TkAt.cons {ts : List Nd} {p : Nat} {k v : Int} {x : ByteArray} {m : List TK} (h : TkAt ts p ((k, x, v) :: m)) : kd ts p = k ∧ (k = 1 → (ts.getD p nd0).name = x) ∧ TkAt ts (p + 1) m := by
  obtain ⟨h1, h2⟩ := TkAt.app (l := [(k, x, v)]) (m := m) h
  have := h1 0 (by simp)
  exact ⟨this.1, this.2, h2⟩
theorem loopL_stop {ts : List Nd} {op k : Int} {sub : PF} {n : Nat} {a : FT} {p : Nat} (h : kd ts p ≠ k) : loopL ts op k sub n a p = some (a, p) := by
  cases n with
  | zero => rfl
  | succ n => simp [loopL, h]
theorem loopR_stop {ts : List Nd} {k : Int} {sub : PF} {n : Nat} {a : List FT} {p : Nat} (h : kd ts p ≠ k) : loopR ts k sub n a p = some (a, p) := by
  cases n with
  | zero => rfl
  | succ n => simp [loopR, h]
section
variable {ts : List Nd} {op k : Int} {u : PF} {p q1 q2 : Nat} {a b : FT}
theorem cL_one (h : u p = some (a, q1)) (hk : kd ts q1 ≠ k) : chainL ts op k u p = some (a, q1) := by simp [chainL, h, loopL_stop hk]
theorem cR_one (h : u p = some (a, q1)) (hk : kd ts q1 ≠ k) : chainR ts op k u p = some (a, q1) := by simp [chainR, h, loopR_stop hk, foldR]
theorem cL_two (hl : 0 < ts.length) (h : u p = some (a, q1)) (hk : kd ts q1 = k) (h2 : u (q1 + 1) = some (b, q2)) (hk2 : kd ts q2 ≠ k) : chainL ts op k u p = some (tB op a b, q2) := by
  obtain ⟨n, hn⟩ : ∃ n, ts.length = n + 1 := ⟨ts.length - 1, by omega⟩
  simp [chainL, h, hn, loopL, hk, h2, loopL_stop hk2]
theorem cR_two (hl : 0 < ts.length) (h : u p = some (a, q1)) (hk : kd ts q1 = k) (h2 : u (q1 + 1) = some (b, q2)) (hk2 : kd ts q2 ≠ k) : chainR ts op k u p = some (tB op a b, q2) := by
  obtain ⟨n, hn⟩ : ∃ n, ts.length = n + 1 := ⟨ts.length - 1, by omega⟩
  simp [chainR, h, hn, loopR, hk, h2, loopR_stop hk2, foldR]
theorem iff_one (h : u p = some (a, q1)) (hk : kd ts q1 ≤ 4 ∨ 9 ≤ kd ts q1) : iffF ts u p = some (a, q1) :=
  cR_one (cR_one (cL_one (cL_one h (by omega)) (by omega)) (by omega)) (by omega)
theorem iff_two (h4 : 4 ≤ op) (h7 : op ≤ 7) (h : u p = some (a, q1)) (hk : kd ts q1 = op + 1) (h2 : u (q1 + 1) = some (b, q2)) (hk2 : kd ts q2 = 10) : iffF ts u p = some (tB op a b, q2) := by
  have hl : 0 < ts.length := by have := kd_lt (ts := ts) (p := q1) (by omega); omega
  have ho : op = 4 ∨ op = 5 ∨ op = 6 ∨ op = 7 := by omega
  rcases ho with rfl | rfl | rfl | rfl
  · exact cR_one (cR_one (cL_one (cL_two hl h hk h2 (by omega)) (by omega)) (by omega)) (by omega)
  · exact cR_one (cR_one (cL_two hl (cL_one h (by omega)) hk (cL_one h2 (by omega)) (by omega)) (by omega)) (by omega)
  · exact cR_one (cR_two hl (cL_one (cL_one h (by omega)) (by omega)) hk (cL_one (cL_one h2 (by omega)) (by omega)) (by omega)) (by omega)
  · exact cR_two hl (cR_one (cL_one (cL_one h (by omega)) (by omega)) (by omega)) hk (cR_one (cL_one (cL_one h2 (by omega)) (by omega)) (by omega)) (by omega)
end
theorem un_tks {ts : List Nd} {V : ByteArray → Prop} : ∀ t, Shape V t → ∀ m p, thgt t ≤ m → TkAt ts p (tks t) → unF ts m p = some (t, p + (tks t).length) := by
  refine Shape.ind ?_ ?_ ?_ ?_
  · intro x hx m p hm h
    rw [hg_A] at hm
    obtain ⟨n, rfl⟩ : ∃ n, m = n + 1 := ⟨m - 1, by omega⟩
    rw [tks_A] at *
    obtain ⟨g1, g2, _⟩ := h.cons
    have g2 := g2 rfl
    simp only [unF, g1, g2]; simp
  · intro m p hm h
    rw [hg_B0] at hm
    obtain ⟨n, rfl⟩ : ∃ n, m = n + 1 := ⟨m - 1, by omega⟩
    rw [tks_B0] at *
    obtain ⟨g1, g2, _⟩ := h.cons
    simp only [unF, g1]; simp
  · intro t ht ih m p hm h
    rw [hg_N] at hm
    obtain ⟨n, rfl⟩ : ∃ n, m = n + 1 := ⟨m - 1, by omega⟩
    rw [tks_N] at *
    obtain ⟨g1, g2, g3⟩ := h.cons
    have := ih n _ (by omega) g3
    simp only [unF, g1, this]; simp; omega
  · intro op l r h4 h7 hl hr ihl ihr m p hm h
    rw [hg_B] at hm
    obtain ⟨n, rfl⟩ : ∃ n, m = n + 1 := ⟨m - 1, by omega⟩
    rw [tks_B h4] at *
    obtain ⟨g1, _, h⟩ := h.cons
    obtain ⟨a1, h⟩ := h.app
    obtain ⟨g2, _, h⟩ := h.cons
    obtain ⟨a2, h⟩ := h.app
    obtain ⟨g3, _, h⟩ := h.cons
    have e := iff_two h4 h7 (ihl n _ (by omega) a1) g2 (ihr n _ (by omega) a2) g3
    simp only [unF, g1, e, g3]; simp; omega
/-- Tokens with these keys read as the formula. -/
theorem keys_read {ts : List Tok} {t : FT} (h : Shape okName t) (h5 : thgt t ≤ 500) (hk : ts.map Tok.key = tks t) : Reads (ts.map Tok.nd) t := by
  refine ⟨?_, h, h5⟩
  have hlen : (ts.map Tok.nd).length = (tks t).length := by rw [← hk]; simp
  have hat : TkAt (ts.map Tok.nd) 0 (tks t) := fun k hkl => by
    have hk2 : k < ts.length := by rw [← hk] at hkl; simpa using hkl
    have e1 : (tks t).getD k (0, emp, 0) = (ts[k]).key := by
      rw [← hk]; simp [List.getD, hk2]
    have e2 : (ts.map Tok.nd).getD (0 + k) nd0 = (ts[k]).nd := by
      simp [List.getD, hk2]
    unfold kd
    rw [e1, e2]
    refine ⟨rfl, fun e => ?_⟩
    simp only [Tok.key] at e ⊢
    rw [if_pos (by omega)]; rfl
  have h2 := iff_one (un_tks t h 500 0 h5 hat) (.inl (by
    unfold kd
    rw [show (ts.map Tok.nd).getD (0 + (tks t).length) nd0 = nd0 by simp [List.getD, ← hlen]]
    decide))
  unfold parseF
  rw [h2, Nat.zero_add, hlen]
  simp
end Go.Proofs.YbzaawGreat
