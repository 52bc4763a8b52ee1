/-  The lexer's tokens as records.  -/
import Derived.Test.YbzaawGreatNdBase
import Derived.Test.YbzaawGreatLexA
namespace Go.Proofs.YbzaawGreat
open Go.Wf
set_option linter.unusedSimpArgs false
set_option linter.unusedVariables false

def Tok.nd (t : Tok) : Nd := ⟨t.kind, t.text, t.pos, t.val⟩
theorem enc_nd (ts : List Tok) : encToks ts = encNds (ts.map Tok.nd) := by
  unfold encToks encNds
  rw [List.flatMap_map]
  rfl
theorem GotToks.nds {w w' : World} {a : Option Addr} {n c : Nat} {ts : List Tok} (g : GotToks w w' a n c ts) : GotNds 117 w w' a n c (ts.map Tok.nd) := ⟨by simp [g.len], by rw [← enc_nd]; exact g.own, g.fr, g.new⟩
def toksOf (s : ByteArray) : List Nd := (lexF s).map Tok.nd
theorem toksOf_len (s : ByteArray) : (toksOf s).length ≤ 65536 := by unfold toksOf; rw [List.length_map]; exact lexF_len s
theorem ext_le (s : ByteArray) (i j : Nat) : (s.extract i j).size ≤ s.size := by rw [ByteArray.size_extract]; omega
theorem lexStep_text (s : ByteArray) (i : Nat) : ∀ t ∈ (lexStep s i).1, t.text.size ≤ s.size := by
  unfold lexStep
  repeat' split
  all_goals
    intro t ht
    simp at ht
    try (subst ht; exact ext_le _ _ _)
theorem lexN_text (s : ByteArray) : ∀ n i, ∀ t ∈ lexN s n i, t.text.size ≤ s.size
  | 0, _, t, ht => by simp [lexN] at ht
  | n + 1, i, t, ht => by
    unfold lexN at ht
    split at ht
    · rw [List.mem_append] at ht
      rcases ht with ht | ht
      · exact lexStep_text s i t ht
      · exact lexN_text s n _ t ht
    · cases ht
theorem toksOf_text (s : ByteArray) (i : Nat) : ((toksOf s).getD i nd0).name.size ≤ 65536 := by
  by_cases h : s.size > 65536
  · have : toksOf s = [] := by simp [toksOf, lexF, h]
    rw [this]; exact Nat.zero_le _
  · by_cases hi : i < (toksOf s).length
    · rw [show (toksOf s).getD i nd0 = (toksOf s)[i] by simp [hi]]
      have hm : (toksOf s)[i] ∈ toksOf s := List.getElem_mem hi
      generalize (toksOf s)[i] = x at hm
      unfold toksOf at hm
      rw [List.mem_map] at hm
      obtain ⟨t, ht, rfl⟩ := hm
      rw [lexF, if_neg h] at ht
      have := lexN_text s _ _ t ht
      show t.text.size ≤ _
      omega
    · rw [show (toksOf s).getD i nd0 = nd0 by simp [List.getD, List.getElem?_eq_none (Nat.le_of_not_lt hi)]]
      exact Nat.zero_le _
theorem GotNds.base {E : Nat} {w0 w w' : World} {a : Option Addr} {n c : Nat} {ts : List Nd} (hf : Fr noB w0 w) (g : GotNds E w w' a n c ts) : GotNds E w0 w' a n c ts :=
  ⟨g.len, g.own, hf.no g.fr, fun k hk => Nat.le_trans hf.size (g.new k hk)⟩
end Go.Proofs.YbzaawGreat
