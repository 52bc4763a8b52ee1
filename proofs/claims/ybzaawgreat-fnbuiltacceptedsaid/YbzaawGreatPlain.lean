/-  Formula trees and their layouts: the plain theory.  -/
import Derived.Test.YbzaawGreatTreeMem
import Derived.Test.YbzaawGreatNdBase
import Derived.Test.YbzaawGreatChars
namespace Go.Proofs.YbzaawGreat
open Go.Wf Go.Deep
set_option linter.unusedSimpArgs false
set_option linter.unusedVariables false

abbrev FT := BT Lab
def emp : ByteArray := ⟨#[]⟩
def tsize : FT → Nat
  | .nil => 0
  | .node _ _ _ l r => tsize l + tsize r + 1
def thgt : FT → Nat
  | .nil => 0
  | .node _ _ _ l r => max (thgt l) (thgt r) + 1
/-- A formula's tree; V holds of its atoms' names. -/
def Shape (V : ByteArray → Prop) : FT → Prop
  | .nil => False
  | .node b o a l r => b = 0 ∧ o = 0 ∧ ((a.op = 1 ∧ V a.name ∧ l = .nil ∧ r = .nil) ∨ (a.op = 2 ∧ a.name = emp ∧ l = .nil ∧ r = .nil) ∨
      (a.op = 3 ∧ a.name = emp ∧ Shape V l ∧ r = .nil) ∨ (4 ≤ a.op ∧ a.op ≤ 7 ∧ a.name = emp ∧ Shape V l ∧ Shape V r))
theorem Shape.ind {V : ByteArray → Prop} {P : FT → Prop} (h1 : ∀ s, V s → P (tA s)) (h2 : P tB0) (h3 : ∀ t, Shape V t → P t → P (tN t))
    (h4 : ∀ op l r, 4 ≤ op → op ≤ 7 → Shape V l → Shape V r → P l → P r → P (tB op l r)) : ∀ t, Shape V t → P t
  | .nil, h => h.elim
  | .node b o ⟨op, nm⟩ l r, h => by
    obtain ⟨rfl, rfl, h⟩ := h
    simp only at h
    rcases h with ⟨rfl, hv, rfl, rfl⟩ | ⟨rfl, rfl, rfl, rfl⟩ | ⟨rfl, rfl, hl, rfl⟩ | ⟨h5, h6, rfl, hl, hr⟩
    · exact h1 nm hv
    · exact h2
    · exact h3 l hl (Shape.ind h1 h2 h3 h4 l hl)
    · exact h4 op l r h5 h6 hl hr (Shape.ind h1 h2 h3 h4 l hl) (Shape.ind h1 h2 h3 h4 r hr)
section
variable {V V' : ByteArray → Prop}
theorem shA {s : ByteArray} (h : V s) : Shape V (tA s) := ⟨rfl, rfl, .inl ⟨rfl, h, rfl, rfl⟩⟩
theorem shB0 : Shape V tB0 := ⟨rfl, rfl, .inr (.inl ⟨rfl, rfl, rfl, rfl⟩)⟩
theorem shN {t : FT} (h : Shape V t) : Shape V (tN t) := ⟨rfl, rfl, .inr (.inr (.inl ⟨rfl, rfl, h, rfl⟩))⟩
theorem shB {op : Int} {l r : FT} (h4 : 4 ≤ op) (h7 : op ≤ 7) (hl : Shape V l) (hr : Shape V r) : Shape V (tB op l r) := ⟨rfl, rfl, .inr (.inr (.inr ⟨h4, h7, rfl, hl, hr⟩))⟩
theorem Shape.isN {t : FT} (h : Shape V t) : isN t = false := by cases t with | nil => exact h.elim | node => rfl
theorem Shape.pos {t : FT} (h : Shape V t) : 1 ≤ tsize t := by cases t with | nil => exact h.elim | node => simp [tsize]
theorem Shape.mono (hV : ∀ s, V s → V' s) {t : FT} (h : Shape V t) : Shape V' t :=
  Shape.ind (P := Shape V') (fun s hs => shA (hV s hs)) shB0 (fun t _ h => shN h) (fun op l r h4 h7 _ _ hl hr => shB h4 h7 hl hr) t h
end
theorem sz_A (s : ByteArray) : tsize (tA s) = 1 := rfl
theorem sz_B0 : tsize tB0 = 1 := rfl
theorem sz_N (t : FT) : tsize (tN t) = tsize t + 1 := rfl
theorem sz_B (op : Int) (l r : FT) : tsize (tB op l r) = tsize l + tsize r + 1 := rfl
theorem hg_A (s : ByteArray) : thgt (tA s) = 1 := rfl
theorem hg_B0 : thgt tB0 = 1 := rfl
theorem hg_N (t : FT) : thgt (tN t) = thgt t + 1 := by simp [thgt, tN]
theorem hg_B (op : Int) (l r : FT) : thgt (tB op l r) = max (thgt l) (thgt r) + 1 := rfl
theorem hgt_size (t : FT) : thgt t ≤ tsize t := by
  induction t with
  | nil => simp [thgt]
  | node b o a l r hl hr => simp only [thgt, tsize]; omega

/-- The nodes of a tree, in order, where b nodes lie ahead. -/
def lay : Nat → FT → List Nd
  | _, .nil => []
  | b, .node _ _ a l r => lay b l ++ (lay (b + tsize l) r ++ [⟨a.op, a.name, (bif isN l then -1 else ((b + tsize l : Nat) : Int) - 1), (bif isN r then -1 else ((b + tsize l + tsize r : Nat) : Int) - 1)⟩])
theorem lay_len (t : FT) : ∀ b, (lay b t).length = tsize t := by
  induction t with
  | nil => intro b; rfl
  | node b o a l r hl hr => intro c; simp only [lay, tsize, List.length_append, hl, hr]; simp; omega
theorem lay_A (b : Nat) (s : ByteArray) : lay b (tA s) = [⟨1, s, -1, -1⟩] := rfl
theorem lay_B0 (b : Nat) : lay b tB0 = [⟨2, emp, -1, -1⟩] := rfl
theorem lay_N {V : ByteArray → Prop} (b : Nat) {t : FT} (h : Shape V t) : lay b (tN t) = lay b t ++ [⟨3, emp, ((b + tsize t : Nat) : Int) - 1, -1⟩] := by
  simp only [tN, lay, h.isN]; rfl
theorem lay_B {V : ByteArray → Prop} (b : Nat) (op : Int) {l r : FT} (hl : Shape V l) (hr : Shape V r) :
    lay b (tB op l r) = lay b l ++ (lay (b + tsize l) r ++ [⟨op, emp, ((b + tsize l : Nat) : Int) - 1, ((b + tsize l + tsize r : Nat) : Int) - 1⟩]) := by
  simp only [tB, lay, hl.isN, hr.isN]; rfl

/-- The row ys lies in xs from s on. -/
def Agr (xs : List Nd) (s : Nat) (ys : List Nd) : Prop := ∀ k, k < ys.length → xs[s + k]? = ys[k]?
theorem agr_app {xs ys zs : List Nd} {s : Nat} : Agr xs s (ys ++ zs) ↔ Agr xs s ys ∧ Agr xs (s + ys.length) zs := by
  constructor
  · intro h
    refine ⟨fun k hk => ?_, fun k hk => ?_⟩
    · rw [h k (by simp; omega), List.getElem?_append_left hk]
    · rw [Nat.add_assoc, h (ys.length + k) (by simp; omega), List.getElem?_append_right (by omega), Nat.add_sub_cancel_left]
  · rintro ⟨h1, h2⟩ k hk
    by_cases hlt : k < ys.length
    · rw [h1 k hlt, List.getElem?_append_left hlt]
    · have := h2 (k - ys.length) (by simp at hk; omega)
      rw [List.getElem?_append_right (by omega), ← this]; congr 1; omega
theorem agr_one {xs : List Nd} {s : Nat} {y : Nd} : Agr xs s [y] ↔ s < xs.length ∧ xs.getD s nd0 = y := by
  unfold Agr
  constructor
  · intro h
    have := h 0 (by simp)
    simp only [Nat.add_zero, List.getElem?_cons_zero] at this
    refine ⟨(List.getElem?_eq_some_iff.1 this).1, by simp [List.getD, this]⟩
  · rintro ⟨h1, h2⟩ k hk
    have : k = 0 := by simpa using hk
    subst this
    simp only [Nat.add_zero, List.getElem?_cons_zero]
    rw [List.getElem?_eq_getElem h1]
    simp [h1] at h2
    rw [h2]
theorem agr_all {xs ys : List Nd} (h : Agr xs 0 ys) (hl : xs.length = ys.length) : xs = ys := by
  apply List.ext_getElem?
  intro k
  by_cases hk : k < ys.length
  · have := h k hk; rwa [Nat.zero_add] at this
  · rw [List.getElem?_eq_none (by omega), List.getElem?_eq_none (by omega)]
theorem agr_self (pre ys suf : List Nd) : Agr (pre ++ (ys ++ suf)) pre.length ys := fun k hk => by
  rw [List.getElem?_append_right (by omega), Nat.add_sub_cancel_left, List.getElem?_append_left hk]

/-- The subtree at root i is t, and its first node is s. -/
def Sub (V : ByteArray → Prop) (xs : List Nd) : FT → Nat → Nat → Prop
  | .nil, _, _ => False
  | .node b o a l r, i, s => b = 0 ∧ o = 0 ∧ i < xs.length ∧ (xs.getD i nd0).op = a.op ∧ (xs.getD i nd0).name = a.name ∧
     ((a.op = 1 ∧ V a.name ∧ l = .nil ∧ r = .nil ∧ (xs.getD i nd0).l = -1 ∧ (xs.getD i nd0).r = -1 ∧ s = i) ∨
      (a.op = 2 ∧ a.name = emp ∧ l = .nil ∧ r = .nil ∧ (xs.getD i nd0).l = -1 ∧ (xs.getD i nd0).r = -1 ∧ s = i) ∨
      (a.op = 3 ∧ a.name = emp ∧ r = .nil ∧ 1 ≤ i ∧ (xs.getD i nd0).l = (i : Int) - 1 ∧ (xs.getD i nd0).r = -1 ∧ Sub V xs l (i - 1) s) ∨
      (4 ≤ a.op ∧ a.op ≤ 7 ∧ a.name = emp ∧ ∃ m : Nat, 1 ≤ i ∧ 1 ≤ m ∧ (xs.getD i nd0).l = (m : Int) - 1 ∧ (xs.getD i nd0).r = (i : Int) - 1 ∧ Sub V xs r (i - 1) m ∧ Sub V xs l (m - 1) s))
section
variable {V : ByteArray → Prop} {xs : List Nd}
theorem subA {i : Nat} (hi : i < xs.length) (h0 : (xs.getD i nd0).op = 1) (hv : V (xs.getD i nd0).name) (h2 : (xs.getD i nd0).l = -1) (h3 : (xs.getD i nd0).r = -1) : Sub V xs (tA (xs.getD i nd0).name) i i :=
  ⟨rfl, rfl, hi, h0, rfl, .inl ⟨rfl, hv, rfl, rfl, h2, h3, rfl⟩⟩
theorem subB0 {i : Nat} (hi : i < xs.length) (h0 : (xs.getD i nd0).op = 2) (h1 : (xs.getD i nd0).name = emp) (h2 : (xs.getD i nd0).l = -1) (h3 : (xs.getD i nd0).r = -1) : Sub V xs tB0 i i :=
  ⟨rfl, rfl, hi, h0, h1, .inr (.inl ⟨rfl, rfl, rfl, rfl, h2, h3, rfl⟩)⟩
theorem subN {i s : Nat} {t : FT} (hi : i < xs.length) (h0 : (xs.getD i nd0).op = 3) (h1 : (xs.getD i nd0).name = emp) (hi1 : 1 ≤ i) (h2 : (xs.getD i nd0).l = (i : Int) - 1) (h3 : (xs.getD i nd0).r = -1) (h : Sub V xs t (i - 1) s) : Sub V xs (tN t) i s :=
  ⟨rfl, rfl, hi, h0, h1, .inr (.inr (.inl ⟨rfl, rfl, rfl, hi1, h2, h3, h⟩))⟩
theorem subB {i s m : Nat} {l r : FT} (hi : i < xs.length) (h4 : 4 ≤ (xs.getD i nd0).op) (h7 : (xs.getD i nd0).op ≤ 7) (h1 : (xs.getD i nd0).name = emp) (hi1 : 1 ≤ i) (hm : 1 ≤ m) (h2 : (xs.getD i nd0).l = (m : Int) - 1) (h3 : (xs.getD i nd0).r = (i : Int) - 1)
    (hr : Sub V xs r (i - 1) m) (hl : Sub V xs l (m - 1) s) : Sub V xs (tB (xs.getD i nd0).op l r) i s :=
  ⟨rfl, rfl, hi, rfl, h1, .inr (.inr (.inr ⟨h4, h7, rfl, m, hi1, hm, h2, h3, hr, hl⟩))⟩
theorem Sub.ind {P : FT → Nat → Nat → Prop}
    (h1 : ∀ i, i < xs.length → (xs.getD i nd0).op = 1 → V (xs.getD i nd0).name → (xs.getD i nd0).l = -1 → (xs.getD i nd0).r = -1 → P (tA (xs.getD i nd0).name) i i)
    (h2 : ∀ i, i < xs.length → (xs.getD i nd0).op = 2 → (xs.getD i nd0).name = emp → (xs.getD i nd0).l = -1 → (xs.getD i nd0).r = -1 → P tB0 i i)
    (h3 : ∀ t i s, i < xs.length → (xs.getD i nd0).op = 3 → (xs.getD i nd0).name = emp → 1 ≤ i → (xs.getD i nd0).l = (i : Int) - 1 → (xs.getD i nd0).r = -1 → Sub V xs t (i - 1) s → P t (i - 1) s → P (tN t) i s)
    (h4 : ∀ l r i s (m : Nat), i < xs.length → 4 ≤ (xs.getD i nd0).op → (xs.getD i nd0).op ≤ 7 → (xs.getD i nd0).name = emp → 1 ≤ i → 1 ≤ m → (xs.getD i nd0).l = (m : Int) - 1 → (xs.getD i nd0).r = (i : Int) - 1 →
      Sub V xs r (i - 1) m → Sub V xs l (m - 1) s → P r (i - 1) m → P l (m - 1) s → P (tB (xs.getD i nd0).op l r) i s) : ∀ t i s, Sub V xs t i s → P t i s
  | .nil, _, _, h => h.elim
  | .node b o ⟨op, nm⟩ l r, i, s, h => by
    obtain ⟨rfl, rfl, hi, e0, e1, h⟩ := h
    simp only at h e0 e1
    subst e0 e1
    rcases h with ⟨h0, hv, rfl, rfl, h5, h6, rfl⟩ | ⟨h0, hn, rfl, rfl, h5, h6, rfl⟩ | ⟨h0, hn, rfl, hi1, h5, h6, hl⟩ | ⟨h5, h6, hn, m, hi1, hm, h7, h8, hr, hl⟩
    · have := h1 s hi h0 hv h5 h6
      unfold tA at this; rw [← h0] at this; exact this
    · have := h2 s hi h0 hn h5 h6
      unfold tB0 at this; rw [show (⟨#[]⟩ : ByteArray) = emp from rfl, ← h0, ← hn] at this; exact this
    · have := h3 l i s hi h0 hn hi1 h5 h6 hl (Sub.ind h1 h2 h3 h4 l _ _ hl)
      unfold tN at this; rw [show (⟨#[]⟩ : ByteArray) = emp from rfl, ← h0, ← hn] at this; exact this
    · have := h4 l r i s m hi h5 h6 hn hi1 hm h7 h8 hr hl (Sub.ind h1 h2 h3 h4 r _ _ hr) (Sub.ind h1 h2 h3 h4 l _ _ hl)
      unfold tB at this; rw [show (⟨#[]⟩ : ByteArray) = emp from rfl, ← hn] at this; exact this
theorem Sub.shape {t : FT} {i s : Nat} (h : Sub V xs t i s) : Shape V t :=
  Sub.ind (P := fun t _ _ => Shape V t) (fun i _ _ hv _ _ => shA hv) (fun i _ _ _ _ _ => shB0) (fun t i s _ _ _ _ _ _ _ h => shN h) (fun l r i s m _ h4 h7 _ _ _ _ _ _ _ hr hl => shB h4 h7 hl hr) t i s h
theorem Sub.size {t : FT} {i s : Nat} (h : Sub V xs t i s) : i + 1 = s + tsize t :=
  Sub.ind (P := fun t i s => i + 1 = s + tsize t) (fun i _ _ hv _ _ => rfl) (fun i _ _ _ _ _ => rfl) (fun t i s _ _ _ _ _ _ _ h => by rw [sz_N]; omega) (fun l r i s m _ h4 h7 _ _ _ _ _ _ _ hr hl => by rw [sz_B]; omega) t i s h
theorem Sub.lt {t : FT} {i s : Nat} (h : Sub V xs t i s) : i < xs.length := by
  cases t with
  | nil => exact h.elim
  | node b o a l r => exact h.2.2.1
theorem Sub.le {t : FT} {i s : Nat} (h : Sub V xs t i s) : s ≤ i := by have := h.size; have := h.shape.pos; omega
theorem Sub.mono {V' : ByteArray → Prop} (hV : ∀ s, V s → V' s) {t : FT} {i s : Nat} (h : Sub V xs t i s) : Sub V' xs t i s :=
  Sub.ind (P := Sub V' xs) (fun i hi h0 hv h5 h6 => subA hi h0 (hV _ hv) h5 h6) (fun i hi h0 hn h5 h6 => subB0 hi h0 hn h5 h6) (fun t i s hi h0 hn hi1 h5 h6 _ h => subN hi h0 hn hi1 h5 h6 h)
    (fun l r i s m hi h4 h7 hn hi1 hm h5 h6 _ _ hr hl => subB hi h4 h7 hn hi1 hm h5 h6 hr hl) t i s h
/-- What the root's node tells. -/
theorem Sub.inv {t : FT} {i s : Nat} (h : Sub V xs t i s) :
    ((xs.getD i nd0).op = 1 ∧ V (xs.getD i nd0).name ∧ (xs.getD i nd0).l = -1 ∧ (xs.getD i nd0).r = -1 ∧ s = i ∧ t = tA (xs.getD i nd0).name) ∨
    ((xs.getD i nd0).op = 2 ∧ (xs.getD i nd0).name = emp ∧ (xs.getD i nd0).l = -1 ∧ (xs.getD i nd0).r = -1 ∧ s = i ∧ t = tB0) ∨
    ((xs.getD i nd0).op = 3 ∧ (xs.getD i nd0).name = emp ∧ 1 ≤ i ∧ (xs.getD i nd0).l = (i : Int) - 1 ∧ (xs.getD i nd0).r = -1 ∧ ∃ t', t = tN t' ∧ Sub V xs t' (i - 1) s) ∨
    (4 ≤ (xs.getD i nd0).op ∧ (xs.getD i nd0).op ≤ 7 ∧ (xs.getD i nd0).name = emp ∧ 1 ≤ i ∧ (xs.getD i nd0).r = (i : Int) - 1 ∧ ∃ l r, ∃ m : Nat, t = tB (xs.getD i nd0).op l r ∧ 1 ≤ m ∧ (xs.getD i nd0).l = (m : Int) - 1 ∧ Sub V xs r (i - 1) m ∧ Sub V xs l (m - 1) s) := by
  refine Sub.ind (P := fun t i s => ((xs.getD i nd0).op = 1 ∧ V (xs.getD i nd0).name ∧ (xs.getD i nd0).l = -1 ∧ (xs.getD i nd0).r = -1 ∧ s = i ∧ t = tA (xs.getD i nd0).name) ∨
    ((xs.getD i nd0).op = 2 ∧ (xs.getD i nd0).name = emp ∧ (xs.getD i nd0).l = -1 ∧ (xs.getD i nd0).r = -1 ∧ s = i ∧ t = tB0) ∨
    ((xs.getD i nd0).op = 3 ∧ (xs.getD i nd0).name = emp ∧ 1 ≤ i ∧ (xs.getD i nd0).l = (i : Int) - 1 ∧ (xs.getD i nd0).r = -1 ∧ ∃ t', t = tN t' ∧ Sub V xs t' (i - 1) s) ∨
    (4 ≤ (xs.getD i nd0).op ∧ (xs.getD i nd0).op ≤ 7 ∧ (xs.getD i nd0).name = emp ∧ 1 ≤ i ∧ (xs.getD i nd0).r = (i : Int) - 1 ∧ ∃ l r, ∃ m : Nat, t = tB (xs.getD i nd0).op l r ∧ 1 ≤ m ∧ (xs.getD i nd0).l = (m : Int) - 1 ∧ Sub V xs r (i - 1) m ∧ Sub V xs l (m - 1) s))
    ?_ ?_ ?_ ?_ t i s h
  · intro i hi h0 hv h5 h6; exact .inl ⟨h0, hv, h5, h6, rfl, rfl⟩
  · intro i hi h0 hv h5 h6; exact .inr (.inl ⟨h0, hv, h5, h6, rfl, rfl⟩)
  · intro t i s hi h0 hn hi1 h5 h6 h _; exact .inr (.inr (.inl ⟨h0, hn, hi1, h5, h6, t, rfl, h⟩))
  · intro l r i s m hi h4 h7 hn hi1 hm h5 h6 hr hl _ _; exact .inr (.inr (.inr ⟨h4, h7, hn, hi1, h6, l, r, m, rfl, hm, h5, hr, hl⟩))
theorem Sub.uniq {t : FT} {i s : Nat} (h : Sub V xs t i s) : ∀ {t' : FT} {s' : Nat}, Sub V xs t' i s' → t = t' ∧ s = s' := by
  refine Sub.ind (P := fun t i s => ∀ {t' : FT} {s' : Nat}, Sub V xs t' i s' → t = t' ∧ s = s') ?_ ?_ ?_ ?_ t i s h
  · intro i hi h0 hv h5 h6 t' s' h'
    rcases h'.inv with ⟨g0, g1, g2, g3, rfl, rfl⟩ | ⟨g0, _⟩ | ⟨g0, _⟩ | ⟨g0, _⟩
    · exact ⟨rfl, rfl⟩
    all_goals omega
  · intro i hi h0 hv h5 h6 t' s' h'
    rcases h'.inv with ⟨g0, _⟩ | ⟨g0, g1, g2, g3, rfl, rfl⟩ | ⟨g0, _⟩ | ⟨g0, _⟩
    rotate_left
    · exact ⟨rfl, rfl⟩
    all_goals omega
  · intro t i s hi h0 hn hi1 h5 h6 h ih t' s' h'
    rcases h'.inv with ⟨g0, _⟩ | ⟨g0, _⟩ | ⟨g0, _, _, _, _, u, rfl, hu⟩ | ⟨g0, _⟩
    rotate_left 2
    · obtain ⟨rfl, rfl⟩ := ih hu; exact ⟨rfl, rfl⟩
    all_goals omega
  · intro l r i s m hi h4 h7 hn hi1 hm h5 h6 hr hl ihr ihl t' s' h'
    rcases h'.inv with ⟨g0, _⟩ | ⟨g0, _⟩ | ⟨g0, _⟩ | ⟨_, _, _, _, _, l', r', m', rfl, hm', g5, hr', hl'⟩
    rotate_left 3
    · obtain ⟨rfl, rfl⟩ := ihr hr'
      obtain ⟨rfl, rfl⟩ := ihl hl'
      exact ⟨rfl, rfl⟩
    all_goals omega
theorem Sub.all {t : FT} {i s : Nat} (h : Sub V xs t i s) : ∀ j, s ≤ j → j ≤ i → ∃ t' s', Sub V xs t' j s' := by
  refine Sub.ind (P := fun t i s => ∀ j, s ≤ j → j ≤ i → ∃ t' s', Sub V xs t' j s') ?_ ?_ ?_ ?_ t i s h
  · intro i hi h0 hv h5 h6 j h1 h2
    obtain rfl : j = i := by omega
    exact ⟨_, _, subA hi h0 hv h5 h6⟩
  · intro i hi h0 hv h5 h6 j h1 h2
    obtain rfl : j = i := by omega
    exact ⟨_, _, subB0 hi h0 hv h5 h6⟩
  · intro t i s hi h0 hn hi1 h5 h6 h ih j h1 h2
    by_cases hj : j = i
    · subst hj; exact ⟨_, _, subN hi h0 hn hi1 h5 h6 h⟩
    · exact ih j h1 (by omega)
  · intro l r i s m hi h4 h7 hn hi1 hm h5 h6 hr hl ihr ihl j h1 h2
    by_cases hj : j = i
    · subst hj; exact ⟨_, _, subB hi h4 h7 hn hi1 hm h5 h6 hr hl⟩
    · by_cases hj : m ≤ j
      · exact ihr j hj (by omega)
      · exact ihl j h1 (by omega)
/-- A tree's nodes lie in the list: the subtree at its end is the tree. -/
theorem sub_of_agr {t : FT} (h : Shape V t) : ∀ s, Agr xs s (lay s t) → Sub V xs t (s + tsize t - 1) s := by
  refine Shape.ind (P := fun t => ∀ s, Agr xs s (lay s t) → Sub V xs t (s + tsize t - 1) s) ?_ ?_ ?_ ?_ t h
  · intro nm hv s ha
    rw [lay_A, agr_one] at ha
    obtain ⟨h1, h2⟩ := ha
    have := subA (V := V) h1 (by rw [h2]) (by rw [h2]; exact hv) (by rw [h2]) (by rw [h2])
    rw [h2] at this
    exact this
  · intro s ha
    rw [lay_B0, agr_one] at ha
    obtain ⟨h1, h2⟩ := ha
    have := subB0 (V := V) h1 (by rw [h2]) (by rw [h2]) (by rw [h2]) (by rw [h2])
    exact this
  · intro t ht ih s ha
    rw [lay_N s ht, agr_app, lay_len, agr_one] at ha
    obtain ⟨ha, h1, h2⟩ := ha
    have hp := ht.pos
    have := ih s ha
    rw [sz_N, show s + (tsize t + 1) - 1 = s + tsize t by omega]
    exact subN h1 (by rw [h2]) (by rw [h2]) (by omega) (by rw [h2]) (by rw [h2]) this
  · intro op l r h4 h7 hsl hsr ihl ihr s ha
    rw [lay_B s op hsl hsr, agr_app, lay_len, agr_app, lay_len, agr_one] at ha
    obtain ⟨ha, hb, h1, h2⟩ := ha
    have hp := hsl.pos
    have hq := hsr.pos
    have hL := ihl s ha
    have hR := ihr _ hb
    rw [sz_B, show s + (tsize l + tsize r + 1) - 1 = s + tsize l + tsize r by omega]
    have := subB (V := V) (i := s + tsize l + tsize r) (m := s + tsize l) (s := s) h1 (by rw [h2]; exact h4) (by rw [h2]; exact h7) (by rw [h2]) (by omega) (by omega) (by rw [h2]) (by rw [h2]) hR hL
    rw [h2] at this
    exact this
theorem agr_of_sub {t : FT} {i s : Nat} (h : Sub V xs t i s) : Agr xs s (lay s t) := by
  refine Sub.ind (P := fun t i s => Agr xs s (lay s t)) ?_ ?_ ?_ ?_ t i s h
  · intro i hi h0 hv h5 h6
    rw [lay_A, agr_one]; exact ⟨hi, Nd.ext' ⟨h0, rfl, h5, h6⟩⟩
  · intro i hi h0 hv h5 h6
    rw [lay_B0, agr_one]; exact ⟨hi, Nd.ext' ⟨h0, hv, h5, h6⟩⟩
  · intro t i s hi h0 hn hi1 h5 h6 h ih
    have := h.size
    rw [lay_N s h.shape, agr_app, lay_len, agr_one]
    rw [show s + tsize t = i by omega]
    exact ⟨ih, hi, Nd.ext' ⟨h0, hn, h5, h6⟩⟩
  · intro l r i s m hi h4 h7 hn hi1 hm h5 h6 hr hl ihr ihl
    have h1 := hr.size
    have h2 := hl.size
    rw [lay_B s _ hl.shape hr.shape, agr_app, lay_len, agr_app, lay_len, agr_one]
    rw [show s + tsize l = m by omega, show m + tsize r = i by omega]
    exact ⟨ihl, ihr, hi, Nd.ext' ⟨rfl, hn, h5, h6⟩⟩
end
abbrev okName : ByteArray → Prop := fun s => nameB s = true
/-- The list is the layout of the tree t, which is not too high. -/
structure WF (xs : List Nd) (t : FT) : Prop where
  sub : Sub okName xs t (xs.length - 1) 0
  hgt : thgt t ≤ 500
theorem WF.uniq {xs : List Nd} {t t' : FT} (h : WF xs t) (h' : WF xs t') : t = t' := (h.sub.uniq h'.sub).1
theorem WF.pos {xs : List Nd} {t : FT} (h : WF xs t) : 0 < xs.length := by have := h.sub.lt; omega
theorem WF.len {xs : List Nd} {t : FT} (h : WF xs t) : xs.length = tsize t := by have := h.sub.size; have := h.pos; omega
theorem WF.lay {xs : List Nd} {t : FT} (h : WF xs t) : xs = lay 0 t := agr_all (agr_of_sub h.sub) (by rw [lay_len]; exact h.len)
theorem WF.of_lay {t : FT} (h : Shape okName t) (h5 : thgt t ≤ 500) : WF (Go.Proofs.YbzaawGreat.lay 0 t) t := by
  refine ⟨?_, h5⟩
  have := sub_of_agr (xs := Go.Proofs.YbzaawGreat.lay 0 t) h 0 (fun k hk => by rw [Nat.zero_add])
  rwa [Nat.zero_add, ← lay_len t 0] at this
/-- A layout of any tree: well formed only by that tree. -/
theorem WF.inj {V : ByteArray → Prop} {t t' : FT} (h : Shape V t) (hw : WF (Go.Proofs.YbzaawGreat.lay 0 t) t') : t' = t := by
  have h1 := sub_of_agr (V := fun _ => True) (xs := Go.Proofs.YbzaawGreat.lay 0 t) (h.mono fun _ _ => trivial) 0 (fun k hk => by rw [Nat.zero_add])
  rw [Nat.zero_add, ← lay_len t 0] at h1
  exact ((hw.sub.mono fun _ _ => trivial).uniq h1).1
end Go.Proofs.YbzaawGreat
