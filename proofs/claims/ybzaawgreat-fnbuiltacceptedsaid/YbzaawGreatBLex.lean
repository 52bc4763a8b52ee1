/-  The builder's lines, lexed.  -/
import Derived.Test.YbzaawGreatRoundZ
import Derived.Test.YbzaawGreatLnsMem
namespace Go.Proofs.YbzaawGreat
open Go.Wf Go.Deep
set_option linter.unusedSimpArgs false
set_option linter.unusedVariables false

theorem dE_run {s : ByteArray} {j : Nat} : ∀ n i v, i + n = j → j ≤ s.size → (∀ k, i ≤ k → k < j → digB (byteAt s k) = true) → (j = s.size ∨ digB (byteAt s j) = false) → (dE s i v).1 = j ∧ (dE s i v).2 = (((List.range n).map fun k => byteAt s (i + k)).foldl nv v)
  | 0, i, v, h, hj, _, he => by
    obtain rfl : i = j := by omega
    rw [dE_end (by rcases he with he | he; exact .inl (by omega); exact .inr he)]
    exact ⟨rfl, rfl⟩
  | n + 1, i, v, h, hj, hw, he => by
    rw [dE_go (by omega) (hw i (by omega) (by omega))]
    obtain ⟨h1, h2⟩ := dE_run n (i + 1) (nv v (byteAt s i)) (by omega) hj (fun k h1 h2 => hw k (by omega) h2) he
    refine ⟨h1, h2.trans ?_⟩
    rw [List.range_succ_eq_map, List.map_cons, List.foldl_cons, List.map_map]
    rw [Nat.add_zero]
    congr 1
    apply List.map_congr_left
    intro k _
    simp only [Function.comp]
    rw [show i + 1 + k = i + (k + 1) by omega]
/-- The digits ds stand for v. -/
def digs (ds : List UInt8) (v : Nat) : Prop := 0 < ds.length ∧ (∀ d ∈ ds, digB d.toNat = true) ∧ (ds.map UInt8.toNat).foldl nv 0 = v
theorem lowdig {c : Nat} (h : digB c = true) : blankB c = false ∧ lowB c = false := by
  simp [digB, blankB, lowB] at *
  omega
theorem LexTo.num {s : ByteArray} {i v : Nat} {ds : List UInt8} (hd : digs ds v) (h : TxAt s i ds) (he : i + ds.length = s.size ∨ digB (byteAt s (i + ds.length)) = false) : LexTo s i [(2, emp, (v : Int))] (i + ds.length) := by
  obtain ⟨hp, hd1, hd2⟩ := hd
  have hsz := h.1
  have hb : ∀ k, k < ds.length → byteAt s (i + k) = (ds.getD k 0).toNat := fun k hk => by unfold byteAt; rw [h.2 k hk]
  have hdig : ∀ k, i ≤ k → k < i + ds.length → digB (byteAt s k) = true := fun k h1 h2 => by
    have hk : k - i < ds.length := by omega
    have := hb (k - i) hk
    rw [show i + (k - i) = k by omega] at this
    rw [this]
    refine hd1 _ ?_
    rw [show ds.getD (k - i) 0 = ds[k - i] by simp [hk]]
    exact List.getElem_mem _
  have h0 := hdig i (Nat.le_refl _) (by omega)
  obtain ⟨hb0, hl0⟩ := lowdig h0
  obtain ⟨r1, r2⟩ := dE_run (s := s) (j := i + ds.length) ds.length i 0 rfl hsz hdig he
  have e2 : (List.range ds.length).map (fun k => byteAt s (i + k)) = ds.map UInt8.toNat := by
    apply List.ext_getElem
    · simp
    · intro k h1 h2
      simp at h1
      have := hb k h1
      simp [this, h1]
  rw [e2, hd2] at r2
  have := LexTo.step (s := s) (i := i) (by omega) (st_num hb0 hl0 h0)
  rw [r1, r2] at this
  simpa [Tok.key] using this
theorem LexTo.refl (s : ByteArray) (i : Nat) : LexTo s i [] i := rfl
/-- The lexer's keys of a whole text. -/
theorem lexF_keys {s : ByteArray} {l : List TK} {j : Nat} (hs : s.size ≤ 65536) (h : LexTo s 0 l j) (hj : s.size ≤ j) : (lexF s).map Tok.key = l := by
  unfold lexF; rw [if_neg (by omega)]
  unfold LexTo at h
  rw [lexFrom_end hj] at h
  simpa using h
theorem wordNo {c : Nat} (h : c = 32 ∨ c = 10) : wordB c = false := by
  rcases h with rfl | rfl <;> decide
theorem digNo {c : Nat} (h : c = 32 ∨ c = 10) : digB c = false := by
  rcases h with rfl | rfl <;> decide
/-- A word, a blank, and what follows. -/
theorem LexTo.wordSp {s x : ByteArray} {i : Nat} {m : List UInt8} (hx : nameB x = true) (h : TxAt s i (x.data.toList ++ 32 :: m)) : LexTo s i [(1, x, 0)] (i + x.size + 1) ∧ TxAt s (i + x.size + 1) m := by
  obtain ⟨h1, h2⟩ := h.app
  have hlen : x.data.toList.length = x.size := by rw [Array.length_toList]; rfl
  rw [hlen] at h2
  obtain ⟨g1, g2, g3⟩ := h2.cons
  have g2' : byteAt s (i + x.size) = 32 := g2
  exact ⟨(LexTo.word hx h1 (.inr (wordNo (.inl g2')))).trans (LexTo.blank g1 g2'), g3⟩
end Go.Proofs.YbzaawGreat
