/-  What the two lexers share: tokens in memory, the number of tokens.  -/
import Derived.Test.YbzaawGreatMLex
namespace Go.Proofs.YbzaawGreat
open Go.Wf
set_option linter.unusedSimpArgs false
set_option linter.unusedVariables false

def tok0 : Tok := ⟨0, ByteArray.empty, 0, 0⟩
/-- The slice reads, in H, as these tokens. -/
structure TokH (H : Heap) (a : Option Addr) (n : Nat) (ts : List Tok) : Prop where
  len : n = ts.length
  sl : SlH H 4 a n (encToks ts)
section
variable {H : Heap} {a : Option Addr} {n : Nat} {ts : List Tok}
theorem TokH.mono {H' : Heap} (h : TokH H a n ts) (hl : HLe H H') : TokH H' a n ts := ⟨h.len, h.sl.mono hl⟩
theorem TokH.at_ (h : TokH H a n ts) (i j : Nat) (hi : i < n) (v : Value) (hj : j < 4) (hv : (ts.getD i tok0).enc[j]? = some v) : H (ablk a) (aoff a + i * 4 + j) = some v := by
  rw [Nat.add_assoc]
  refine h.sl.cell _ _ ?_
  have hi' : i < ts.length := by rw [← h.len]; exact hi
  have := flat_get Tok.enc 4 ts i j ts[i] (fun _ => rfl) (List.getElem?_eq_getElem hi') hj
  show (ts.flatMap Tok.enc)[i * 4 + j]? = _
  rw [this]
  rw [show ts.getD i tok0 = ts[i] by simp [hi']] at hv
  exact hv
theorem TokH.c0 (h : TokH H a n ts) (i : Nat) (hi : i < n) : H (ablk a) (aoff a + i * 4) = some (.int .i64 (ts.getD i tok0).kind) := h.at_ i 0 hi _ (by omega) rfl
theorem TokH.c1 (h : TokH H a n ts) (i : Nat) (hi : i < n) : H (ablk a) (aoff a + i * 4 + 1) = some (.string (ts.getD i tok0).text) := h.at_ i 1 hi _ (by omega) rfl
theorem TokH.c2 (h : TokH H a n ts) (i : Nat) (hi : i < n) : H (ablk a) (aoff a + i * 4 + 2) = some (.int .i64 (ts.getD i tok0).pos) := h.at_ i 2 hi _ (by omega) rfl
theorem TokH.c3 (h : TokH H a n ts) (i : Nat) (hi : i < n) : H (ablk a) (aoff a + i * 4 + 3) = some (.int .i64 (ts.getD i tok0).val) := h.at_ i 3 hi _ (by omega) rfl
end
theorem GotToks.keep {H : Heap} {w w' : World} {a : Option Addr} {n c : Nat} {ts : List Tok} (g : GotToks w w' a n c ts) (hH : HS H w) : ∃ H', HLe H H' ∧ HS H' w' ∧ TokH H' a n ts := by
  obtain ⟨H', h1, h2, h3, _⟩ := g.own.keep (hH.frN g.fr) (fun k hk o => hH.off (g.new k hk) o)
  exact ⟨H', h1, h2, g.len, h3⟩
theorem lex_ok2 (s : ByteArray) (hs : s.size ≤ 4294967296) (w : World) (R : Value → World → Prop) (h : ∀ a c w', GotToks w w' a (lexF s).length c (lexF s) → R (.slice a (lexF s).length c) w') : CallsV Yaao.prog 42 #[.string s] w R :=
  lex_ok s hs w R fun a n c w' g => by obtain rfl := g.len; exact h a c w' g
theorem mlex_ok2 (s : ByteArray) (hs : s.size ≤ 4294967296) (w : World) (R : Value → World → Prop) (h : ∀ a c w', GotToks w w' a (lexF s).length c (lexF s) → R (.slice a (lexF s).length c) w') : CallsV Yaao.prog 48 #[.string s] w R :=
  mlex_ok s hs w R fun a n c w' g => by obtain rfl := g.len; exact h a c w' g

theorem lexF_len (s : ByteArray) : (lexF s).length ≤ 65536 := by
  unfold lexF
  split
  · simp
  · have h : ∀ n i, (lexN s n i).length ≤ n := by
      intro n
      induction n with
      | zero => intro i; simp [lexN]
      | succ n ih =>
        intro i
        simp only [lexN]
        split
        · have h1 : (lexStep s i).1.length ≤ 1 := by unfold lexStep; repeat' split
                                                     all_goals simp
          have := ih (lexStep s i).2
          simp; omega
        · simp
    have := h (s.size - 0) 0
    unfold lexFrom; omega
end Go.Proofs.YbzaawGreat
