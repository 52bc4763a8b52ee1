/-  The kids of a subtree in a list of nodes.  -/
import Derived.Test.YbzaawGreatMatchF
namespace Go.Proofs.YbzaawGreat
open Go.Wf Go.Deep
set_option linter.unusedSimpArgs false
set_option linter.unusedVariables false

theorem Sub.top {V : ByteArray → Prop} {ys : List Nd} {t : FT} {j s : Nat} (h : Sub V ys t j s) : topO t = (ys.getD j nd0).op := by
  cases t with
  | nil => exact h.elim
  | node b o a l r => exact h.2.2.2.1.symm
theorem hgt_lk {V : ByteArray → Prop} {t : FT} (h : Shape V t) (h5 : thgt t ≤ 500) : thgt (lk t) ≤ 500 ∧ thgt (rk t) ≤ 500 := by
  cases t with
  | nil => exact h.elim
  | node b o a l r => simp only [thgt] at h5; simp only [lk, rk]; omega
/-- The left kid of a negation. -/
theorem sub_N {ys : List Nd} {t : FT} {j s : Nat} (h : Sub okName ys t j s) (h3 : (ys.getD j nd0).op = 3) : 1 ≤ j ∧ (ys.getD j nd0).l = ((j - 1 : Nat) : Int) ∧ Sub okName ys (lk t) (j - 1) s := by
  rcases h.inv with ⟨g0, _⟩ | ⟨g0, _⟩ | ⟨_, _, h1, h2, _, u, rfl, hu⟩ | ⟨g0, _⟩
  · omega
  · omega
  · exact ⟨h1, by omega, hu⟩
  · omega
/-- The kids of a compound. -/
theorem sub_BB {ys : List Nd} {t : FT} {j s : Nat} (h : Sub okName ys t j s) (h4 : 4 ≤ (ys.getD j nd0).op) : ∃ m : Nat, 1 ≤ j ∧ 1 ≤ m ∧ (ys.getD j nd0).l = ((m - 1 : Nat) : Int) ∧ (ys.getD j nd0).r = ((j - 1 : Nat) : Int) ∧ Sub okName ys (rk t) (j - 1) m ∧ Sub okName ys (lk t) (m - 1) s := by
  rcases h.inv with ⟨g0, _⟩ | ⟨g0, _⟩ | ⟨g0, _⟩ | ⟨_, _, _, h1, h2, l, r, m, rfl, hm, h3, hr, hl⟩
  · omega
  · omega
  · omega
  · exact ⟨m, h1, hm, by omega, by omega, hr, hl⟩
end Go.Proofs.YbzaawGreat
