/-  The head of an owned list.  -/
import Derived.Test.YbzaawGreatData
namespace Go.Wf
theorem fe_slA {P : Program} {T n : Nat} (h6 : kindT P T = 6) (hi : infoT P (elT P T) = true) (hs : szT P (elT P T) = n) (a : Option Addr) (len c : Nat) (k : Int) (h0 : 0 ≤ k) (h1 : k ≤ c) :
    rSl P T (.slice a len c) none (some (.int .i64 k)) none = Result.ok (.value (.slice a k.toNat c)) := by
  funext w
  have hu := (kind_int (P := P) (T := T)).2.2.2.2 h6
  have e1 : 0 ≤ k ∧ k ≤ (c : Int) := ⟨h0, h1⟩
  have e2 : a.map (fun x => x.add 0) = a := by cases a <;> simp [Addr.add]
  simp [rSl, Instr.sliceAt, Instr.slice, run_underlying hu, Instr.sliceBounds, Instr.sliceBound, asIntOf, e1, run_sizeOf hi, hs, e2]
theorem Own.cut {w : World} {E sz n c : Nat} {a : Option Addr} {xs : List Value} (h : Own w E sz a n c xs) (k : Nat) (hk : k ≤ n) : Own w E sz a k c (xs.take (k * sz)) := by
  obtain ⟨hl, hf⟩ := h.form
  have hkn : k * sz ≤ n * sz := Nat.mul_le_mul_right _ hk
  rcases hf with ⟨rfl, rfl, rfl⟩ | ⟨g, cur, rfl, h1, h2, h3, h4, h5⟩
  · have : k = 0 := by omega
    subst this
    have : xs = [] := List.eq_nil_of_length_eq_zero (by simpa using hl)
    subst this
    simpa using Own.nil w E sz
  · refine Own.mk' (by rw [List.length_take]; omega) h1 (by omega) h3 h4 ?_
    rw [← h5, List.take_take, Nat.min_eq_left hkn]
theorem Own.cap {w : World} {E sz n c : Nat} {a : Option Addr} {xs : List Value} (h : Own w E sz a n c xs) : n ≤ c := by
  rcases h.form.2 with ⟨_, rfl, rfl⟩ | ⟨_, _, _, _, h, _⟩
  · exact Nat.le_refl _
  · exact h
end Go.Wf
