/-  spec: pattern trees in memory.  -/
import Derived.Test.YbzaawGreatSJA
import Derived.Test.YbzaawGreatJudgeP
namespace Go.Proofs.YbzaawGreat
open Go.Wf Go.Deep
set_option linter.unusedSimpArgs false
set_option linter.unusedVariables false

/-- The three cells of a pattern tree: its atoms bear their names' numbers. -/
def PTC (H : Heap) (names : List ByteArray) : FT → List Value → Prop
  | .nil, _ => False
  | .node _ _ a l r, cs => ∃ (id : Int) (ka : Option Addr) (kn kc : Nat), cs = [.int .i64 a.op, .int .i64 id, .slice ka kn kc] ∧ (a.op = 1 → ∃ q : Nat, q < names.length ∧ id = q ∧ names.getD q emp = a.name) ∧
      ((isN l = true ∧ kn = 0) ∨ (isN l = false ∧ isN r = true ∧ kn = 1 ∧ ∃ cl, PTC H names l cl ∧ SlH H 3 ka 1 cl) ∨
        (isN l = false ∧ isN r = false ∧ kn = 2 ∧ ∃ cl cr, PTC H names l cl ∧ PTC H names r cr ∧ SlH H 3 ka 2 (cl ++ cr)))
theorem PTC.up {H H' : Heap} {names : List ByteArray} (e : List ByteArray) (hl : HLe H H') : ∀ {t : FT} {cs : List Value}, PTC H names t cs → PTC H' (names ++ e) t cs
  | .nil, _, h => h
  | .node _ _ a l r, cs, h => by
    obtain ⟨id, ka, kn, kc, e0, hid, h⟩ := h
    refine ⟨id, ka, kn, kc, e0, fun h1 => ?_, ?_⟩
    · obtain ⟨q, hq, hi, hn⟩ := hid h1
      exact ⟨q, by simp; omega, hi, by rw [← hn]; simp [List.getD, List.getElem?_append_left hq]⟩
    rcases h with h | ⟨h1, h2, h3, cl, h4, h5⟩ | ⟨h1, h2, h3, cl, cr, h4, h5, h6⟩
    · exact .inl h
    · exact .inr (.inl ⟨h1, h2, h3, cl, PTC.up e hl h4, h5.mono hl⟩)
    · exact .inr (.inr ⟨h1, h2, h3, cl, cr, PTC.up e hl h4, PTC.up e hl h5, h6.mono hl⟩)
theorem PTC.mono {H H' : Heap} {names : List ByteArray} (hl : HLe H H') {t : FT} {cs : List Value} (h : PTC H names t cs) : PTC H' names t cs := by
  have := h.up [] hl
  rwa [List.append_nil] at this
theorem PTC.form {H : Heap} {names : List ByteArray} {t : FT} {cs : List Value} (h : PTC H names t cs) : ∃ op id ka kn kc, cs = [.int .i64 op, .int .i64 id, .slice ka kn kc] ∧ isN t = false := by
  cases t with
  | nil => exact h.elim
  | node b o a l r => obtain ⟨id, ka, kn, kc, e, _⟩ := h; exact ⟨_, _, _, _, _, e, rfl⟩
theorem PTC.one {H : Heap} {names : List ByteArray} {t : FT} {c0 c1 c2 : Value} (h : PTC H names t [c0, c1, c2]) : oneC c0 = true ∧ oneC c1 = true ∧ oneC c2 = true := by
  obtain ⟨_, _, _, _, _, e, _⟩ := h.form
  simp at e
  obtain ⟨rfl, rfl, rfl⟩ := e
  exact ⟨rfl, rfl, rfl⟩
structure PTs (H : Heap) (names : List ByteArray) (l : List FT) (vs : List V3) : Prop where
  len : l.length = vs.length
  at_ : ∀ i, i < l.length → PTC H names (l.getD i .nil) (vs.getD i v30).enc
theorem PTs.nil (H : Heap) (names : List ByteArray) : PTs H names [] [] := ⟨rfl, fun i hi => absurd hi (Nat.not_lt_zero _)⟩
theorem PTs.up {H H' : Heap} {names : List ByteArray} (e : List ByteArray) (hl : HLe H H') {l : List FT} {vs : List V3} (h : PTs H names l vs) : PTs H' (names ++ e) l vs := ⟨h.len, fun i hi => (h.at_ i hi).up e hl⟩
theorem PTs.mono {H H' : Heap} {names : List ByteArray} (hl : HLe H H') {l : List FT} {vs : List V3} (h : PTs H names l vs) : PTs H' names l vs := ⟨h.len, fun i hi => (h.at_ i hi).mono hl⟩
theorem PTs.snoc {H : Heap} {names : List ByteArray} {l : List FT} {vs : List V3} (h : PTs H names l vs) {t : FT} {v : V3} (ht : PTC H names t v.enc) : PTs H names (l ++ [t]) (vs ++ [v]) := by
  have hl := h.len
  refine ⟨by simp [hl], fun i hi => ?_⟩
  rw [List.length_append, List.length_cons, List.length_nil] at hi
  by_cases e : i = l.length
  · have e1 : (l ++ [t]).getD i .nil = t := by rw [e]; simp [List.getD]
    have e2 : (vs ++ [v]).getD i v30 = v := by rw [e, hl]; simp [List.getD]
    rw [e1, e2]; exact ht
  · have e1 : (l ++ [t]).getD i .nil = l.getD i .nil := by simp [List.getD, List.getElem?_append_left (show i < l.length by omega)]
    have e2 : (vs ++ [v]).getD i v30 = vs.getD i v30 := by simp [List.getD, List.getElem?_append_left (show i < vs.length by omega)]
    rw [e1, e2]; exact h.at_ i (by omega)
theorem PTC.kids {H : Heap} {names : List ByteArray} {t : FT} {c0 c1 c2 : Value} (h : PTC H names t [c0, c1, c2]) : ∃ (id : Int) (ka : Option Addr) (kc : Nat) (vs : List V3), c0 = .int .i64 (topO t) ∧ c1 = .int .i64 id ∧ c2 = .slice ka vs.length kc ∧ (topO t = 1 → ∃ q : Nat, q < names.length ∧ id = q ∧ names.getD q emp = topN t) ∧ SlH H 3 ka vs.length (encV3 vs) ∧ PTs H names (Go.Proofs.YbzaawGreat.kids t) vs := by
  cases t with
  | nil => exact h.elim
  | node b o a l r =>
    obtain ⟨id, ka, kn, kc, e, hid, hk⟩ := h
    simp at e
    obtain ⟨rfl, rfl, rfl⟩ := e
    rcases hk with ⟨h1, rfl⟩ | ⟨h1, h2, rfl, cl, hl, hs⟩ | ⟨h1, h2, rfl, cl, cr, hl, hr, hs⟩
    · exact ⟨id, ka, kc, [], rfl, rfl, rfl, hid, SlH.nil _ _ _, ⟨by simp [Go.Proofs.YbzaawGreat.kids, h1], fun i hi => by simp [Go.Proofs.YbzaawGreat.kids, h1] at hi⟩⟩
    · obtain ⟨_, _, _, _, _, e1, _⟩ := hl.form
      subst e1
      refine ⟨id, ka, kc, [(_, _, _)], rfl, rfl, rfl, hid, hs, ⟨by simp [Go.Proofs.YbzaawGreat.kids, h1, h2], fun i hi => ?_⟩⟩
      simp [Go.Proofs.YbzaawGreat.kids, h1, h2] at hi ⊢
      subst hi; exact hl
    · obtain ⟨_, _, _, _, _, e1, _⟩ := hl.form
      obtain ⟨_, _, _, _, _, e2, _⟩ := hr.form
      subst e1 e2
      refine ⟨id, ka, kc, [(_, _, _), (_, _, _)], rfl, rfl, rfl, hid, hs, ⟨by simp [Go.Proofs.YbzaawGreat.kids, h1, h2], fun i hi => ?_⟩⟩
      simp [Go.Proofs.YbzaawGreat.kids, h1, h2] at hi ⊢
      have : i = 0 ∨ i = 1 := by omega
      rcases this with rfl | rfl
      · exact hl
      · exact hr
theorem PTC.of {H : Heap} {names : List ByteArray} {t : FT} (ht : isN t = false) {id : Int} {ka : Option Addr} {kc : Nat} {vs : List V3} (hid : topO t = 1 → ∃ q : Nat, q < names.length ∧ id = q ∧ names.getD q emp = topN t) (hsl : SlH H 3 ka vs.length (encV3 vs)) (hk : PTs H names (Go.Proofs.YbzaawGreat.kids t) vs) :
    PTC H names t [.int .i64 (topO t), .int .i64 id, .slice ka vs.length kc] := by
  cases t with
  | nil => cases ht
  | node b o a l r =>
    refine ⟨id, ka, vs.length, kc, rfl, hid, ?_⟩
    cases h1 : isN l with
    | true =>
      refine .inl ⟨rfl, ?_⟩
      have := hk.len
      simp [Go.Proofs.YbzaawGreat.kids, h1] at this
      omega
    | false =>
      cases h2 : isN r with
      | true =>
        have hkk : Go.Proofs.YbzaawGreat.kids (.node b o a l r) = [l] := by simp [Go.Proofs.YbzaawGreat.kids, h1, h2]
        rw [hkk] at hk
        obtain ⟨v, rfl⟩ : ∃ v, vs = [v] := by
          have := hk.len
          match vs, this with
          | [v], _ => exact ⟨v, rfl⟩
        refine .inr (.inl ⟨rfl, rfl, rfl, v.enc, hk.at_ 0 (by simp), ?_⟩)
        simpa [encV3] using hsl
      | false =>
        have hkk : Go.Proofs.YbzaawGreat.kids (.node b o a l r) = [l, r] := by simp [Go.Proofs.YbzaawGreat.kids, h1, h2]
        rw [hkk] at hk
        obtain ⟨v, u, rfl⟩ : ∃ v u, vs = [v, u] := by
          have := hk.len
          match vs, this with
          | [v, u], _ => exact ⟨v, u, rfl⟩
        refine .inr (.inr ⟨rfl, rfl, rfl, v.enc, u.enc, hk.at_ 0 (by simp), hk.at_ 1 (by simp), ?_⟩)
        simpa [encV3] using hsl
/-- The nodes of the first kids. -/
def ksz (t : FT) (i : Nat) : Nat := (((kids t).take i).map tsize).foldl (· + ·) 0
theorem ksz_succ {t : FT} {i : Nat} (h : i < (kids t).length) : ksz t (i + 1) = ksz t i + tsize ((kids t).getD i .nil) := by
  unfold ksz
  rw [List.take_succ_eq_append_getElem h, List.map_append, List.foldl_append, show (kids t).getD i .nil = (kids t)[i] from by simp [List.getD, h]]
  rfl
theorem ksz_all (t : FT) : ksz t (kids t).length ≤ tsize t := by
  unfold ksz
  rw [List.take_length]
  cases t with
  | nil => simp [kids]
  | node b o a l r =>
    simp only [kids]
    cases isN l <;> cases isN r <;> simp [tsize] <;> omega
theorem ksz_le {t : FT} {i : Nat} (h : i ≤ (kids t).length) : ksz t i ≤ tsize t := by
  have hk := ksz_all t
  have h2 := kids_len t
  have : ∀ d, i + d ≤ (kids t).length → ksz t i ≤ ksz t (i + d) := fun d => by
    induction d with
    | zero => intro _; exact Nat.le_refl _
    | succ d ih =>
      intro hd
      have := ih (by omega)
      rw [← Nat.add_assoc, ksz_succ (show i + d < (kids t).length by omega)]
      omega
  have := this ((kids t).length - i) (by omega)
  rw [show i + ((kids t).length - i) = (kids t).length by omega] at this
  omega
end Go.Proofs.YbzaawGreat
