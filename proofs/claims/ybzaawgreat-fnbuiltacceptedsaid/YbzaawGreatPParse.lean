/-  The plain parser of formulas: on a list of tokens (op: the kind, name: the text).  -/
import Derived.Test.YbzaawGreatPlain
namespace Go.Proofs.YbzaawGreat
open Go.Wf Go.Deep
set_option linter.unusedSimpArgs false
set_option linter.unusedVariables false

def kd (ts : List Nd) (p : Nat) : Int := (ts.getD p nd0).op
theorem kd_lt {ts : List Nd} {p : Nat} (h : kd ts p ≠ 0) : p < ts.length := by
  apply Classical.byContradiction
  intro hn
  apply h
  unfold kd
  simp [List.getD, List.getElem?_eq_none (Nat.le_of_not_lt hn), nd0]
abbrev PF := Nat → Option (FT × Nat)
def loopL (ts : List Nd) (op k : Int) (sub : PF) : Nat → FT → Nat → Option (FT × Nat)
  | 0, a, p => some (a, p)
  | n + 1, a, p => if kd ts p = k then (match sub (p + 1) with | none => none | some (b, q) => loopL ts op k sub n (tB op a b) q) else some (a, p)
def chainL (ts : List Nd) (op k : Int) (sub : PF) : PF := fun p => match sub p with | none => none | some (a, q) => loopL ts op k sub ts.length a q
def loopR (ts : List Nd) (k : Int) (sub : PF) : Nat → List FT → Nat → Option (List FT × Nat)
  | 0, l, p => some (l, p)
  | n + 1, l, p => if kd ts p = k then (match sub (p + 1) with | none => none | some (b, q) => loopR ts k sub n (l ++ [b]) q) else some (l, p)
def foldR (op : Int) : List FT → FT
  | [] => tB0
  | [x] => x
  | x :: y :: r => tB op x (foldR op (y :: r))
def chainR (ts : List Nd) (op k : Int) (sub : PF) : PF := fun p => match sub p with
  | none => none
  | some (a, q) => match loopR ts k sub ts.length [a] q with | none => none | some (l, q') => some (foldR op l, q')
def andF (ts : List Nd) (u : PF) : PF := chainL ts 4 5 u
def orF (ts : List Nd) (u : PF) : PF := chainL ts 5 6 (andF ts u)
def impF (ts : List Nd) (u : PF) : PF := chainR ts 6 7 (orF ts u)
def iffF (ts : List Nd) (u : PF) : PF := chainR ts 7 8 (impF ts u)
def unF (ts : List Nd) : Nat → PF
  | 0 => fun _ => none
  | m + 1 => fun p =>
    if kd ts p = 4 then (match unF ts m (p + 1) with | none => none | some (t, q) => some (tN t, q))
    else if kd ts p = 1 then some (tA (ts.getD p nd0).name, p + 1)
    else if kd ts p = 3 then some (tB0, p + 1)
    else if kd ts p = 9 then (match iffF ts (unF ts m) (p + 1) with | none => none | some (t, q) => if kd ts q = 10 then some (t, q + 1) else none)
    else none
def nameOf (ts : List Nd) : ByteArray → Prop := fun s => ∃ i, s = (ts.getD i nd0).name
/-- What a parser's answer keeps to. -/
structure PA (ts : List Nd) (p : Nat) (t : FT) (q : Nat) : Prop where
  lt : p < q
  le : q ≤ ts.length
  shape : Shape (nameOf ts) t
  size : tsize t ≤ q - p
def PU (ts : List Nd) (u : PF) : Prop := ∀ p t q, u p = some (t, q) → PA ts p t q
theorem loopL_PA {ts : List Nd} {op k : Int} {sub : PF} (h4 : 4 ≤ op) (h7 : op ≤ 7) (hs : PU ts sub) {p0 : Nat} : ∀ n a p t q, PA ts p0 a p → loopL ts op k sub n a p = some (t, q) → PA ts p0 t q
  | 0, a, p, t, q, h, e => by simp [loopL] at e; obtain ⟨rfl, rfl⟩ := e; exact h
  | n + 1, a, p, t, q, h, e => by
    simp only [loopL] at e
    split at e
    · cases hb : sub (p + 1) with
      | none => rw [hb] at e; simp at e
      | some x =>
        obtain ⟨b, q1⟩ := x
        rw [hb] at e
        simp only at e
        obtain ⟨g1, g2, g3, g4⟩ := hs _ _ _ hb
        exact loopL_PA h4 h7 hs n _ _ t q ⟨by have := h.lt; omega, g2, shB h4 h7 h.shape g3, by rw [sz_B]; have := h.size; have := h.lt; omega⟩ e
    · simp at e; obtain ⟨rfl, rfl⟩ := e; exact h
theorem chainL_PU {ts : List Nd} {op k : Int} {sub : PF} (h4 : 4 ≤ op) (h7 : op ≤ 7) (hs : PU ts sub) : PU ts (chainL ts op k sub) := fun p t q e => by
  unfold chainL at e
  cases ha : sub p with
  | none => rw [ha] at e; simp at e
  | some x =>
    obtain ⟨a, q1⟩ := x
    rw [ha] at e
    exact loopL_PA h4 h7 hs _ _ _ _ _ (hs _ _ _ ha) e
def sizes : List FT → Nat
  | [] => 0
  | t :: r => tsize t + sizes r
theorem sizes_snoc (l : List FT) (t : FT) : sizes (l ++ [t]) = sizes l + tsize t := by
  induction l with
  | nil => simp [sizes]
  | cons x r ih => simp only [List.cons_append, sizes, ih]; omega
/-- The operands that were read from p0 to q. -/
structure PL (ts : List Nd) (p0 : Nat) (l : List FT) (q : Nat) : Prop where
  lt : p0 < q
  le : q ≤ ts.length
  shape : ∀ t ∈ l, Shape (nameOf ts) t
  size : sizes l + l.length - 1 ≤ q - p0
  ne : l ≠ []
theorem PL.snoc {ts : List Nd} {p0 p q : Nat} {l : List FT} {b : FT} (h : PL ts p0 l p) (hb : PA ts (p + 1) b q) : PL ts p0 (l ++ [b]) q := by
  have h0 : 1 ≤ l.length := List.length_pos_iff.2 h.ne
  refine ⟨by have := h.lt; have := hb.lt; omega, hb.le, fun t ht => ?_, ?_, by simp⟩
  · rw [List.mem_append] at ht
    rcases ht with ht | ht
    · exact h.shape t ht
    · simp at ht; rw [ht]; exact hb.shape
  · rw [sizes_snoc]; simp; have := h.size; have := hb.size; have := h.lt; have := hb.lt; omega
theorem loopR_PL {ts : List Nd} {k : Int} {sub : PF} (hs : PU ts sub) {p0 : Nat} : ∀ n l p r q, PL ts p0 l p → loopR ts k sub n l p = some (r, q) → PL ts p0 r q
  | 0, l, p, r, q, h, e => by simp [loopR] at e; obtain ⟨rfl, rfl⟩ := e; exact h
  | n + 1, l, p, r, q, h, e => by
    simp only [loopR] at e
    split at e
    · cases hb : sub (p + 1) with
      | none => rw [hb] at e; simp at e
      | some x =>
        obtain ⟨b, q1⟩ := x
        rw [hb] at e
        simp only at e
        exact loopR_PL hs n _ _ r q (h.snoc (hs _ _ _ hb)) e
    · simp at e; obtain ⟨rfl, rfl⟩ := e; exact h
theorem foldR_shape {V : ByteArray → Prop} {op : Int} (h4 : 4 ≤ op) (h7 : op ≤ 7) : ∀ l : List FT, l ≠ [] → (∀ t ∈ l, Shape V t) → Shape V (foldR op l) ∧ tsize (foldR op l) = sizes l + l.length - 1
  | [], h, _ => absurd rfl h
  | [x], _, h => ⟨h x (by simp), by simp [foldR, sizes]⟩
  | x :: y :: r, _, h => by
    obtain ⟨h1, h2⟩ := foldR_shape h4 h7 (y :: r) (by simp) (fun t ht => h t (by simp at ht ⊢; right; exact ht))
    refine ⟨shB h4 h7 (h x (by simp)) h1, ?_⟩
    simp only [foldR, sz_B, h2, sizes, List.length_cons]; omega
theorem PA.one {ts : List Nd} {p q : Nat} {a : FT} (h : PA ts p a q) : PL ts p [a] q := ⟨h.lt, h.le, by simpa using h.shape, by simp [sizes]; exact h.size, by simp⟩
theorem PL.fold {ts : List Nd} {p q : Nat} {l : List FT} {op : Int} (h4 : 4 ≤ op) (h7 : op ≤ 7) (h : PL ts p l q) : PA ts p (foldR op l) q := by
  obtain ⟨h1, h2⟩ := foldR_shape h4 h7 l h.ne h.shape
  exact ⟨h.lt, h.le, h1, by rw [h2]; exact h.size⟩
theorem chainR_PU {ts : List Nd} {op k : Int} {sub : PF} (h4 : 4 ≤ op) (h7 : op ≤ 7) (hs : PU ts sub) : PU ts (chainR ts op k sub) := fun p t q e => by
  unfold chainR at e
  cases ha : sub p with
  | none => rw [ha] at e; simp at e
  | some x =>
    obtain ⟨a, q1⟩ := x
    rw [ha] at e
    simp only at e
    cases hl : loopR ts k sub ts.length [a] q1 with
    | none => rw [hl] at e; simp at e
    | some y =>
      obtain ⟨l, q2⟩ := y
      rw [hl] at e
      simp at e
      obtain ⟨rfl, rfl⟩ := e
      exact (loopR_PL hs _ _ _ _ _ (hs _ _ _ ha).one hl).fold h4 h7
theorem andF_PU {ts : List Nd} {u : PF} (h : PU ts u) : PU ts (andF ts u) := chainL_PU (by omega) (by omega) h
theorem orF_PU {ts : List Nd} {u : PF} (h : PU ts u) : PU ts (orF ts u) := chainL_PU (by omega) (by omega) (andF_PU h)
theorem impF_PU {ts : List Nd} {u : PF} (h : PU ts u) : PU ts (impF ts u) := chainR_PU (by omega) (by omega) (orF_PU h)
theorem iffF_PU {ts : List Nd} {u : PF} (h : PU ts u) : PU ts (iffF ts u) := chainR_PU (by omega) (by omega) (impF_PU h)
theorem unF_PU (ts : List Nd) : ∀ m, PU ts (unF ts m)
  | 0 => fun p t q e => by simp [unF] at e
  | m + 1 => fun p t q e => by
    have ih := unF_PU ts m
    simp only [unF] at e
    split at e
    · rename_i hk
      cases hb : unF ts m (p + 1) with
      | none => rw [hb] at e; simp at e
      | some x =>
        obtain ⟨b, q1⟩ := x
        rw [hb] at e
        simp at e
        obtain ⟨rfl, rfl⟩ := e
        obtain ⟨g1, g2, g3, g4⟩ := ih _ _ _ hb
        exact ⟨by omega, g2, shN g3, by rw [sz_N]; omega⟩
    · split at e
      · rename_i hk
        have := kd_lt (ts := ts) (p := p) (by omega)
        simp at e
        obtain ⟨rfl, rfl⟩ := e
        exact ⟨by omega, by omega, shA ⟨p, by simp [List.getD]⟩, by rw [sz_A]; omega⟩
      · split at e
        · have := kd_lt (ts := ts) (p := p) (by omega)
          simp at e
          obtain ⟨rfl, rfl⟩ := e
          exact ⟨by omega, by omega, shB0, by rw [sz_B0]; omega⟩
        · split at e
          · cases hb : iffF ts (unF ts m) (p + 1) with
            | none => rw [hb] at e; simp at e
            | some x =>
              obtain ⟨b, q1⟩ := x
              rw [hb] at e
              simp only at e
              split at e
              · have := kd_lt (ts := ts) (p := q1) (by omega)
                simp at e
                obtain ⟨rfl, rfl⟩ := e
                obtain ⟨g1, g2, g3, g4⟩ := iffF_PU ih _ _ _ hb
                exact ⟨by omega, by omega, g3, by omega⟩
              · simp at e
          · simp at e
def lays : Nat → List FT → List Nd
  | _, [] => []
  | b, t :: r => lay b t ++ lays (b + tsize t) r
theorem lays_snoc (l : List FT) (t : FT) : ∀ b, lays b (l ++ [t]) = lays b l ++ lay (b + sizes l) t := by
  induction l with
  | nil => intro b; simp [lays, sizes]
  | cons x r ih => intro b; simp only [List.cons_append, lays, sizes, ih, List.append_assoc, Nat.add_assoc]
theorem lays_len (l : List FT) : ∀ b, (lays b l).length = sizes l := by
  induction l with
  | nil => intro b; rfl
  | cons x r ih => intro b; simp only [lays, sizes, List.length_append, lay_len, ih]
/-- The roots of the operands. -/
def rts (b : Nat) (l : List FT) : List Value := (List.range l.length).map fun j => .int .i64 (((b + sizes (l.take (j + 1)) : Nat) : Int) - 1)
theorem rts_len (b : Nat) (l : List FT) : (rts b l).length = l.length := by simp [rts]
theorem rts_snoc (b : Nat) (l : List FT) (t : FT) : rts b (l ++ [t]) = rts b l ++ [.int .i64 (((b + sizes l + tsize t : Nat) : Int) - 1)] := by
  unfold rts
  rw [List.length_append, List.length_singleton, List.range_succ, List.map_append]
  congr 1
  · apply List.map_congr_left
    intro j hj
    rw [List.mem_range] at hj
    rw [List.take_append_of_le_length (by omega)]
  · simp only [List.map_cons, List.map_nil]
    rw [List.take_of_length_le (by simp), sizes_snoc, Nat.add_assoc]
theorem rts_at (b : Nat) (l : List FT) (j : Nat) (hj : j < l.length) : (rts b l)[j]? = some (.int .i64 (((b + sizes (l.take (j + 1)) : Nat) : Int) - 1)) := by
  simp [rts, hj]
theorem fold_first (op : Int) (b : Nat) (l : List FT) (hl : l ≠ []) : lays b (l.take (l.length - 1)) ++ lay (b + sizes (l.take (l.length - 1))) (foldR op (l.drop (l.length - 1))) = lays b l := by
  have h1 : 0 < l.length := List.length_pos_iff.2 hl
  have h2 : l.length - 1 < l.length := by omega
  have e : l.drop (l.length - 1) = [l[l.length - 1]] := by
    rw [List.drop_eq_getElem_cons h2]
    rw [show l.length - 1 + 1 = l.length by omega]; simp
  rw [e]
  show lays b (l.take (l.length - 1)) ++ lay (b + sizes (l.take (l.length - 1))) l[l.length - 1] = _
  rw [← lays_snoc]
  congr 1
  rw [← e, List.take_append_drop]
theorem fold_step {V : ByteArray → Prop} {op : Int} (h4 : 4 ≤ op) (h7 : op ≤ 7) (b : Nat) (l : List FT) (hs : ∀ t ∈ l, Shape V t) (m : Nat) (hm : 1 ≤ m) (hml : m < l.length) :
    lays b (l.take (m - 1)) ++ lay (b + sizes (l.take (m - 1))) (foldR op (l.drop (m - 1))) =
      (lays b (l.take m) ++ lay (b + sizes (l.take m)) (foldR op (l.drop m))) ++ [⟨op, emp, ((b + sizes (l.take m) : Nat) : Int) - 1, ((b + sizes (l.take m) + tsize (foldR op (l.drop m)) : Nat) : Int) - 1⟩] := by
  have hlt : m - 1 < l.length := by omega
  have e1 : l.drop (m - 1) = l[m - 1] :: l.drop m := by
    rw [List.drop_eq_getElem_cons hlt, show m - 1 + 1 = m by omega]
  have e2 : l.take m = l.take (m - 1) ++ [l[m - 1]] := by
    have := List.take_succ_eq_append_getElem hlt
    rw [show m - 1 + 1 = m by omega] at this
    exact this
  have hne : l.drop m ≠ [] := fun e => by have := congrArg List.length e; simp at this; omega
  have e3 : foldR op (l[m - 1] :: l.drop m) = tB op l[m - 1] (foldR op (l.drop m)) := by
    cases hd : l.drop m with
    | nil => exact absurd hd hne
    | cons y r => rfl
  have hx : Shape V l[m - 1] := hs _ (List.getElem_mem hlt)
  have hr := (foldR_shape h4 h7 (l.drop m) hne (fun t ht => hs t (List.mem_of_mem_drop ht))).1
  rw [e1, e3, lay_B _ op hx hr, e2, lays_snoc, sizes_snoc]
  simp only [List.append_assoc, Nat.add_assoc]
/-- The whole of a token list. -/
def parseF (ts : List Nd) : Option FT := match iffF ts (unF ts 500) 0 with | none => none | some (t, q) => if q = ts.length then some t else none
end Go.Proofs.YbzaawGreat
