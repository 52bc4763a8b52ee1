/-  What the two parsers answer to a token list, as one relation.  -/
import Derived.Test.YbzaawGreatSParse3
namespace Go.Proofs.YbzaawGreat
open Go.Wf Go.Deep
set_option linter.unusedSimpArgs false
set_option linter.unusedVariables false

/-- What the parsers answer to a token list. -/
def Ans (ts : List Nd) (zs : List Nd) (ok : Bool) : Prop := (ok = true ∧ ∃ t, Reads ts t ∧ zs = lay 0 t) ∨ (ok = false ∧ (∀ t, ¬ Reads ts t) ∧ zs = [])
theorem Ans.ex (ts : List Nd) : ∃ zs ok, Ans ts zs ok := by
  by_cases h : ∃ t, Reads ts t
  · obtain ⟨t, ht⟩ := h; exact ⟨_, true, .inl ⟨rfl, t, ht, rfl⟩⟩
  · exact ⟨[], false, .inr ⟨rfl, fun t ht => h ⟨t, ht⟩, rfl⟩⟩
theorem Ans.len {ts zs : List Nd} {ok : Bool} (h : Ans ts zs ok) : zs.length ≤ ts.length := by
  rcases h with ⟨_, t, ht, rfl⟩ | ⟨_, _, rfl⟩
  · rw [lay_len]; exact ht.len
  · exact Nat.zero_le _
theorem GotNds.nil (E : Nat) {w w' : World} (hf : Fr noB w w') : GotNds E w w' none 0 0 [] := ⟨rfl, Own.nil _ _ _, hf, fun k hk => absurd hk (blkO_none k)⟩
theorem parse_ok2 {H : Heap} {w : World} (hH : HS H w) {ta : Option Addr} {nt ct : Nat} {ts zs : List Nd} {ok : Bool} (tA : NdH H ta nt ts) (hnt : nt ≤ 16777216) (hnm : ∀ i, (ts.getD i nd0).name.size ≤ 9223372036854775807) (ha : Ans ts zs ok) (R : Value → World → Prop)
    (h : ∀ w' a c, GotNds 113 w w' a zs.length c zs → R (.tuple #[.slice a zs.length c, .bool ok]) w') : CallsV Yaao.prog 68 #[.slice ta nt ct] w R := by
  refine parse_ok hH tA hnt hnm R (fun hn w' hf => ?_) (fun t ht w' a n c g => ?_)
  · rcases ha with ⟨_, t, ht, _⟩ | ⟨rfl, _, rfl⟩
    · exact absurd ht (hn t)
    · exact h w' none 0 (GotNds.nil _ hf)
  · rcases ha with ⟨rfl, u, hu, rfl⟩ | ⟨_, hn, _⟩
    · have := ht.parse; rw [hu.parse] at this; simp at this; subst this
      obtain rfl := g.len
      exact h w' a c g
    · exact absurd ht (hn t)
theorem mparse_ok2 {H : Heap} {w : World} (hH : HS H w) {ta : Option Addr} {nt ct : Nat} {ts zs : List Nd} {ok : Bool} (tA : NdH H ta nt ts) (hnt : nt ≤ 16777216) (hnm : ∀ i, (ts.getD i nd0).name.size ≤ 9223372036854775807) (ha : Ans ts zs ok) (R : Value → World → Prop)
    (h : ∀ w' a c, GotNds 113 w w' a zs.length c zs → R (.tuple #[.slice a zs.length c, .bool ok]) w') : CallsV Yaao.prog 80 #[.slice ta nt ct] w R := by
  refine mparse_ok hH tA hnt hnm R (fun hn w' hf => ?_) (fun t ht w' a n c g => ?_)
  · rcases ha with ⟨_, t, ht, _⟩ | ⟨rfl, _, rfl⟩
    · exact absurd ht (hn t)
    · exact h w' none 0 (GotNds.nil _ hf)
  · rcases ha with ⟨rfl, u, hu, rfl⟩ | ⟨_, hn, _⟩
    · have := ht.parse; rw [hu.parse] at this; simp at this; subst this
      obtain rfl := g.len
      exact h w' a c g
    · exact absurd ht (hn t)
end Go.Proofs.YbzaawGreat
