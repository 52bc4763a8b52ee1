/-  Parts of slices of records.  -/
import Derived.Test.YbzaawGreatNdBase
namespace Go.Wf
theorem Own.capLe {w : World} {E sz n c : Nat} {a : Option Addr} {xs : List Value} (h : Own w E sz a n c xs) : n ≤ c := by
  rcases h.form.2 with ⟨_, rfl, rfl⟩ | ⟨_, _, _, _, h, _⟩
  · exact Nat.le_refl _
  · exact h
/-- The head of a slice that begins l elements on. -/
def hdA (a : Option Addr) (c l sz : Nat) : Option Addr := if c = l then a else a.map fun x => x.add (l * sz)
theorem fe_slLH {P : Program} {T n : Nat} (h6 : kindT P T = 6) (hi : infoT P (elT P T) = true) (hs : szT P (elT P T) = n) (a : Option Addr) (len c : Nat) (l r : Int) (h0 : 0 ≤ l) (h1 : l ≤ r) (h2 : r ≤ c) :
    rSl P T (.slice a len c) (some (.int .i64 l)) (some (.int .i64 r)) none = Result.ok (.value (.slice (hdA a c l.toNat n) (r.toNat - l.toNat) (c - l.toNat))) := by
  funext w
  have hu := (kind_int (P := P) (T := T)).2.2.2.2 h6
  have e1 : 0 ≤ r ∧ r ≤ (c : Int) := ⟨by omega, h2⟩
  have e2 : 0 ≤ l ∧ l ≤ ((r.toNat : Nat) : Int) := ⟨h0, by omega⟩
  have e3 : l ≤ max r 0 := by omega
  simp [rSl, Instr.sliceAt, Instr.slice, run_underlying hu, Instr.sliceBounds, Instr.sliceBound, asIntOf, e1, e2, e3, run_sizeOf hi, hs, hdA]
theorem fe_slL {P : Program} {T n : Nat} (h6 : kindT P T = 6) (hi : infoT P (elT P T) = true) (hs : szT P (elT P T) = n) (a : Option Addr) (len c : Nat) (l : Int) (h0 : 0 ≤ l) (h1 : l ≤ len) :
    rSl P T (.slice a len c) (some (.int .i64 l)) none none = Result.ok (.value (.slice (hdA a c l.toNat n) (len - l.toNat) (c - l.toNat))) := by
  funext w
  have hu := (kind_int (P := P) (T := T)).2.2.2.2 h6
  have e2 : 0 ≤ l ∧ l ≤ (len : Int) := ⟨h0, h1⟩
  simp [rSl, Instr.sliceAt, Instr.slice, run_underlying hu, Instr.sliceBounds, Instr.sliceBound, asIntOf, e2, run_sizeOf hi, hs, hdA]
theorem SlH.cut {H : Heap} {sz n : Nat} {a : Option Addr} {cs : List Value} (h : SlH H sz a n cs) (c l r : Nat) (hc : n ≤ c) (hlr : l ≤ r) (hr : r ≤ n) : SlH H sz (hdA a c l sz) (r - l) ((cs.take (r * sz)).drop (l * sz)) := by
  have hle : r * sz ≤ n * sz := Nat.mul_le_mul_right _ hr
  have hle2 : l * sz ≤ r * sz := Nat.mul_le_mul_right _ hlr
  have hlen : ((cs.take (r * sz)).drop (l * sz)).length = (r - l) * sz := by
    rw [List.length_drop, List.length_take, h.len, Nat.min_eq_left hle, Nat.sub_mul]
  by_cases h0 : r - l = 0
  · rw [h0] at hlen ⊢
    have : (cs.take (r * sz)).drop (l * sz) = [] := List.eq_nil_of_length_eq_zero (by simpa using hlen)
    rw [this]; exact SlH.nil _ _ _
  · have hcl : ¬ c = l := by omega
    have ha : a = some ⟨ablk a, aoff a, none⟩ := h.isA.resolve_left (by omega)
    have hsh : hdA a c l sz = some ⟨ablk a, aoff a + l * sz, none⟩ := by
      unfold hdA
      rw [if_neg hcl, ha]
      simp only [Option.map_some, ablk_some, aoff_some]
      unfold Addr.add
      by_cases hz : l * sz = 0
      · rw [if_pos hz, hz]; rfl
      · rw [if_neg hz]
    rw [hsh]
    refine ⟨hlen, IsA.some _ _ _, fun j v e => ?_⟩
    rw [ablk_some, aoff_some, Nat.add_assoc]
    refine h.cell _ _ ?_
    rw [List.getElem?_drop, List.getElem?_take] at e
    split at e
    · exact e
    · cases e
end Go.Wf
namespace Go.Proofs.YbzaawGreat
open Go.Wf
theorem enc_take : ∀ (ys : List Nd) (k : Nat), (encNds ys).take (k * 4) = encNds (ys.take k)
  | [], k => by simp [encNds]
  | y :: r, 0 => by simp [encNds]
  | y :: r, k + 1 => by
    have h4 : y.enc.length = 4 := rfl
    have ih := enc_take r k
    simp only [encNds, List.flatMap_cons, List.take_succ_cons] at ih ⊢
    rw [List.take_append, List.take_of_length_le (by omega), h4, show (k + 1) * 4 - 4 = k * 4 by omega, ih]
theorem enc_drop : ∀ (ys : List Nd) (k : Nat), (encNds ys).drop (k * 4) = encNds (ys.drop k)
  | [], k => by simp [encNds]
  | y :: r, 0 => by simp [encNds]
  | y :: r, k + 1 => by
    have h4 : y.enc.length = 4 := rfl
    have ih := enc_drop r k
    simp only [encNds, List.flatMap_cons, List.drop_succ_cons] at ih ⊢
    rw [List.drop_append, List.drop_eq_nil_of_le (by omega), h4, show (k + 1) * 4 - 4 = k * 4 by omega, ih, List.nil_append]
theorem NdH.cut {H : Heap} {a : Option Addr} {n : Nat} {ts : List Nd} (h : NdH H a n ts) (c l r : Nat) (hc : n ≤ c) (hlr : l ≤ r) (hr : r ≤ n) : NdH H (hdA a c l 4) (r - l) ((ts.take r).drop l) := by
  have h1 := h.sl.cut c l r hc hlr hr
  rw [enc_take, enc_drop] at h1
  exact ⟨by rw [List.length_drop, List.length_take, ← h.len, Nat.min_eq_left hr], h1⟩
end Go.Proofs.YbzaawGreat
