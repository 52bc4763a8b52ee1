/-  The builder's cases (written by tools/gen_bw4.py).  -/
import Derived.Test.YbzaawGreatBW3
import Derived.Test.YbzaawGreatBJ9
namespace Go.Proofs.YbzaawGreat
open Go.Wf Go.Deep
set_option linter.unusedSimpArgs false
set_option linter.unusedVariables false

/-- A small formula of the builder. -/
def Sm (t : FT) : Prop := Shape bName t ∧ tsize t ≤ 13
theorem Sm.bf {t : FT} (h : Sm t) : BF t := ⟨h.1, by have := h.2; omega⟩
theorem bfN {t : FT} (h : Shape bName t) (hz : tsize t < 300) : BF (tN t) := ⟨shN h, by rw [sz_N]; omega⟩
theorem bfB2 {op : Int} {t u : FT} (h4 : 4 ≤ op) (h7 : op ≤ 7) (h : Shape bName t) (h' : Shape bName u) (hz : tsize t + tsize u < 300) : BF (tB op t u) := ⟨shB h4 h7 h h', by rw [sz_B]; omega⟩
/-- The judge's view of lines that are given one by one. -/
def nT : LT → Bool
  | .thm => false
  | _ => true
theorem noT_of {body : List LT} (h : body.all nT = true) : ∀ l ∈ body, ∀ k x, l.ln k = some x → x.kind ≠ 1 := by
  intro l hl k x hx
  have := List.all_eq_true.1 h l hl
  cases l with
  | thm => simp [nT] at this
  | bl1 => cases hx
  | bl2 => cases hx
  | en => cases hx; simp [lnE]
  | bad => cases hx; simp [badL, Ln.at_]
  | pr t => cases hx; simp [lnP]
  | as_ t => cases hx; simp [lnA]
  | st c r refs => cases hx; simp [lnS]

set_option maxHeartbeats 4000000 in
set_option maxRecDepth 20000 in
theorem case0 {H0 Hq : Heap} {w0 w : World} {gb rb : Nat} {ca : Option Addr} {n cc p : Nat} {ex : List ExO} {ρ : Env} {ls : List LT} {xs : List VdA} {k : Exit → Env → World → Prop} {A B C : FT} (S : BM H0 Hq w0 w gb rb ca n cc p ex ρ ls xs) (TA : TV Hq (ρ 8) A) (TB : TV Hq (ρ 10) B) (TC : TV Hq (ρ 12) C) (hA : Sm A) (hB : Sm B) (hC : Sm C) (hb : ls.length ≤ 900000000) (hx : xs.length ≤ 900000000)
    (h : ∀ ρ' w' H' body x, BM H0 H' w0 w' gb rb ca n cc p ex ρ' (ls ++ body) (xs ++ [x]) → BOk (xs.map VdA.v) body (VdA.v x) → k .normal ρ' w') : VC Yaao.prog (sel [true, true, true, true, false, false, false, true, false, true, true, true, true, true, true, true, true, true, true, true, true, false, true, false] bpc) k ρ w := by
  have zA := hA.2
  have zB := hB.2
  have zC := hC.2
  have bA := hA.bf
  have bB := hB.bf
  have bC := hC.bf
  have bf0 : BF (tB 4 A B) := bfB2 (by decide) (by decide) hA.1 hB.1 (by omega)
  have bf1 : BF (tB 4 B A) := bfB2 (by decide) (by decide) hB.1 hA.1 (by omega)
  refine W_sq ?_
  refine R_bin S (by decide) (by decide) (by decide) (by decide) TA TB (fun ρ1 w1 H1 S1 le1 T14x1 K1 => ?_)
  have T8x1 : TV H1 (ρ1 8) A := by rw [K1 8 (by decide) (by decide)]; exact TA.mono le1
  have T10x1 : TV H1 (ρ1 10) B := by rw [K1 10 (by decide) (by decide)]; exact TB.mono le1
  have T12x1 : TV H1 (ρ1 12) C := by rw [K1 12 (by decide) (by decide)]; exact TC.mono le1
  refine W_sq ?_
  refine R_bin S1 (by decide) (by decide) (by decide) (by decide) T10x1 T8x1 (fun ρ2 w2 H2 S2 le2 T15x2 K2 => ?_)
  have T8x2 : TV H2 (ρ2 8) A := by rw [K2 8 (by decide) (by decide)]; exact T8x1.mono le2
  have T10x2 : TV H2 (ρ2 10) B := by rw [K2 10 (by decide) (by decide)]; exact T10x1.mono le2
  have T12x2 : TV H2 (ρ2 12) C := by rw [K2 12 (by decide) (by decide)]; exact T12x1.mono le2
  have T14x2 : TV H2 (ρ2 14) (tB 4 A B) := by rw [K2 14 (by decide) (by decide)]; exact T14x1.mono le2
  refine W_sq ?_
  refine R_pr (l := .pr (tB 4 A B)) S2 (by decide) (by decide) T14x2 (by first | assumption | exact bfB) (by decide) rfl (by first | omega | (simp only [List.length_append, List.length_cons, List.length_nil]; omega)) (fun ρ3 w3 S3 K3 => ?_)
  have le3 := HLe.refl H2
  have T8x3 : TV H2 (ρ3 8) A := by rw [K3 8 (by decide) (by decide)]; exact T8x2
  have T10x3 : TV H2 (ρ3 10) B := by rw [K3 10 (by decide) (by decide)]; exact T10x2
  have T12x3 : TV H2 (ρ3 12) C := by rw [K3 12 (by decide) (by decide)]; exact T12x2
  have T14x3 : TV H2 (ρ3 14) (tB 4 A B) := by rw [K3 14 (by decide) (by decide)]; exact T14x2
  have T15x3 : TV H2 (ρ3 15) (tB 4 B A) := by rw [K3 15 (by decide) (by decide)]; exact T15x2
  refine W_sq ?_
  refine R_st1 (rule := 4) S3 (by decide) (by decide) T10x3 (by first | assumption | exact bfB) rfl (by decide) (by decide) (by first | omega | (simp only [List.length_append, List.length_cons, List.length_nil]; omega)) (fun ρ4 w4 S4 K4 => ?_)
  have le4 := HLe.refl H2
  have T8x4 : TV H2 (ρ4 8) A := by rw [K4 8 (by decide) (by decide)]; exact T8x3
  have T10x4 : TV H2 (ρ4 10) B := by rw [K4 10 (by decide) (by decide)]; exact T10x3
  have T12x4 : TV H2 (ρ4 12) C := by rw [K4 12 (by decide) (by decide)]; exact T12x3
  have T14x4 : TV H2 (ρ4 14) (tB 4 A B) := by rw [K4 14 (by decide) (by decide)]; exact T14x3
  have T15x4 : TV H2 (ρ4 15) (tB 4 B A) := by rw [K4 15 (by decide) (by decide)]; exact T15x3
  refine W_sq ?_
  refine R_st1 (rule := 3) S4 (by decide) (by decide) T8x4 (by first | assumption | exact bfB) rfl (by decide) (by decide) (by first | omega | (simp only [List.length_append, List.length_cons, List.length_nil]; omega)) (fun ρ5 w5 S5 K5 => ?_)
  have le5 := HLe.refl H2
  have T8x5 : TV H2 (ρ5 8) A := by rw [K5 8 (by decide) (by decide)]; exact T8x4
  have T10x5 : TV H2 (ρ5 10) B := by rw [K5 10 (by decide) (by decide)]; exact T10x4
  have T12x5 : TV H2 (ρ5 12) C := by rw [K5 12 (by decide) (by decide)]; exact T12x4
  have T14x5 : TV H2 (ρ5 14) (tB 4 A B) := by rw [K5 14 (by decide) (by decide)]; exact T14x4
  have T15x5 : TV H2 (ρ5 15) (tB 4 B A) := by rw [K5 15 (by decide) (by decide)]; exact T15x4
  refine W_sq ?_
  refine R_st2 (rule := 2) S5 (by decide) (by decide) T15x5 (by first | assumption | exact bfB) rfl (by decide) (by decide) (by first | omega | (simp only [List.length_append, List.length_cons, List.length_nil]; omega)) (fun ρ6 w6 S6 K6 => ?_)
  have le6 := HLe.refl H2
  have T8x6 : TV H2 (ρ6 8) A := by rw [K6 8 (by decide) (by decide)]; exact T8x5
  have T10x6 : TV H2 (ρ6 10) B := by rw [K6 10 (by decide) (by decide)]; exact T10x5
  have T12x6 : TV H2 (ρ6 12) C := by rw [K6 12 (by decide) (by decide)]; exact T12x5
  have T14x6 : TV H2 (ρ6 14) (tB 4 A B) := by rw [K6 14 (by decide) (by decide)]; exact T14x5
  have T15x6 : TV H2 (ρ6 15) (tB 4 B A) := by rw [K6 15 (by decide) (by decide)]; exact T15x5
  refine R_v1 S6 (by decide) (by decide) (by decide) T14x6 (by first | assumption | exact bfB) T15x6 (by first | assumption | exact bfB) (by omega) (fun ρ7 w7 H7 x7 S7 hv7 K7 => ?_)
  refine h ρ7 w7 H7 [.pr (tB 4 A B), .st B 4 [1], .st A 3 [1], .st (tB 4 B A) 2 [2, 3]] x7 (by first | exact S7 | (have S' := S7; simp only [List.append_assoc, List.cons_append, List.nil_append] at S'; exact S')) ?_
  rw [hv7]
  refine ⟨?_, noT_of rfl, by simp, rfl, ?_, ?_, by simp, fun q => acc0 (BF.tg (by first | assumption | exact bfB)) (BF.tg (by first | assumption | exact bfB)) (BF.tg (by first | assumption | exact bfB)) (BF.tg (by first | assumption | exact bfB)) _ _ _ _⟩
  · intro l hl
    simp only [List.mem_cons, List.not_mem_nil, or_false] at hl
    rcases hl with rfl | rfl | rfl | rfl
    all_goals first
      | trivial
      | assumption
      | exact ⟨by first | assumption | exact bfB, by decide, by decide, by decide, by decide, by decide⟩
  · intro t ht
    simp only [List.mem_cons, List.not_mem_nil, or_false] at ht; rcases ht with rfl <;> assumption
  · assumption

set_option maxHeartbeats 4000000 in
set_option maxRecDepth 20000 in
theorem case1 {H0 Hq : Heap} {w0 w : World} {gb rb : Nat} {ca : Option Addr} {n cc p : Nat} {ex : List ExO} {ρ : Env} {ls : List LT} {xs : List VdA} {k : Exit → Env → World → Prop} {A B C : FT} (S : BM H0 Hq w0 w gb rb ca n cc p ex ρ ls xs) (TA : TV Hq (ρ 8) A) (TB : TV Hq (ρ 10) B) (TC : TV Hq (ρ 12) C) (hA : Sm A) (hB : Sm B) (hC : Sm C) (hb : ls.length ≤ 900000000) (hx : xs.length ≤ 900000000)
    (h : ∀ ρ' w' H' body x, BM H0 H' w0 w' gb rb ca n cc p ex ρ' (ls ++ body) (xs ++ [x]) → BOk (xs.map VdA.v) body (VdA.v x) → k .normal ρ' w') : VC Yaao.prog (sel [true, true, true, true, false, false, false, true, false, true, true, true, true, true, true, true, true, true, true, true, true, false, true, true, true, false] bpc) k ρ w := by
  have zA := hA.2
  have zB := hB.2
  have zC := hC.2
  have bA := hA.bf
  have bB := hB.bf
  have bC := hC.bf
  have bf0 : BF (tB 6 A A) := bfB2 (by decide) (by decide) hA.1 hA.1 (by omega)
  refine W_sq ?_
  refine R_bin S (by decide) (by decide) (by decide) (by decide) TA TA (fun ρ1 w1 H1 S1 le1 T16x1 K1 => ?_)
  have T8x1 : TV H1 (ρ1 8) A := by rw [K1 8 (by decide) (by decide)]; exact TA.mono le1
  have T10x1 : TV H1 (ρ1 10) B := by rw [K1 10 (by decide) (by decide)]; exact TB.mono le1
  have T12x1 : TV H1 (ρ1 12) C := by rw [K1 12 (by decide) (by decide)]; exact TC.mono le1
  refine W_sq ?_
  refine R48_ok S1 T8x1 (by first | assumption | exact bfB) T16x1 (by first | assumption | exact bfB) (by first | omega | (simp only [List.length_append, List.length_cons, List.length_nil]; omega)) (fun ρ2 w2 S2 K2 => ?_)
  have le2 := HLe.refl H1
  have T8x2 : TV H1 (ρ2 8) A := by rw [K2 8 (by decide) (by decide)]; exact T8x1
  have T10x2 : TV H1 (ρ2 10) B := by rw [K2 10 (by decide) (by decide)]; exact T10x1
  have T12x2 : TV H1 (ρ2 12) C := by rw [K2 12 (by decide) (by decide)]; exact T12x1
  have T16x2 : TV H1 (ρ2 16) (tB 6 A A) := by rw [K2 16 (by decide) (by decide)]; exact T16x1
  refine R_v0 S2 (by decide) (by decide)  T16x2 (by first | assumption | exact bfB) (by omega) (fun ρ3 w3 H3 x3 S3 hv3 K3 => ?_)
  refine h ρ3 w3 H3 [.as_ A, .en, .st (tB 6 A A) 8 [1]] x3 (by first | exact S3 | (have S' := S3; simp only [List.append_assoc, List.cons_append, List.nil_append] at S'; exact S')) ?_
  rw [hv3]
  refine ⟨?_, noT_of rfl, by simp, rfl, ?_, ?_, by simp, fun q => acc1 (BF.tg (by first | assumption | exact bfB)) (BF.tg (by first | assumption | exact bfB)) _ _ _⟩
  · intro l hl
    simp only [List.mem_cons, List.not_mem_nil, or_false] at hl
    rcases hl with rfl | rfl | rfl
    all_goals first
      | trivial
      | assumption
      | exact ⟨by first | assumption | exact bfB, by decide, by decide, by decide, by decide, by decide⟩
  · intro t ht
    cases ht
  · assumption

set_option maxHeartbeats 4000000 in
set_option maxRecDepth 20000 in
theorem case2 {H0 Hq : Heap} {w0 w : World} {gb rb : Nat} {ca : Option Addr} {n cc p : Nat} {ex : List ExO} {ρ : Env} {ls : List LT} {xs : List VdA} {k : Exit → Env → World → Prop} {A B C : FT} (S : BM H0 Hq w0 w gb rb ca n cc p ex ρ ls xs) (TA : TV Hq (ρ 8) A) (TB : TV Hq (ρ 10) B) (TC : TV Hq (ρ 12) C) (hA : Sm A) (hB : Sm B) (hC : Sm C) (hb : ls.length ≤ 900000000) (hx : xs.length ≤ 900000000)
    (h : ∀ ρ' w' H' body x, BM H0 H' w0 w' gb rb ca n cc p ex ρ' (ls ++ body) (xs ++ [x]) → BOk (xs.map VdA.v) body (VdA.v x) → k .normal ρ' w') : VC Yaao.prog (sel [true, true, true, true, false, false, false, true, false, true, true, true, true, true, true, true, true, true, true, true, true, false, true, true, true, true, true, false] bpc) k ρ w := by
  have zA := hA.2
  have zB := hB.2
  have zC := hC.2
  have bA := hA.bf
  have bB := hB.bf
  have bC := hC.bf
  have bf0 : BF (tB 5 A B) := bfB2 (by decide) (by decide) hA.1 hB.1 (by omega)
  have bf1 : BF (tB 5 B A) := bfB2 (by decide) (by decide) hB.1 hA.1 (by omega)
  refine W_sq ?_
  refine R_bin S (by decide) (by decide) (by decide) (by decide) TA TB (fun ρ1 w1 H1 S1 le1 T17x1 K1 => ?_)
  have T8x1 : TV H1 (ρ1 8) A := by rw [K1 8 (by decide) (by decide)]; exact TA.mono le1
  have T10x1 : TV H1 (ρ1 10) B := by rw [K1 10 (by decide) (by decide)]; exact TB.mono le1
  have T12x1 : TV H1 (ρ1 12) C := by rw [K1 12 (by decide) (by decide)]; exact TC.mono le1
  refine W_sq ?_
  refine R_bin S1 (by decide) (by decide) (by decide) (by decide) T10x1 T8x1 (fun ρ2 w2 H2 S2 le2 T18x2 K2 => ?_)
  have T8x2 : TV H2 (ρ2 8) A := by rw [K2 8 (by decide) (by decide)]; exact T8x1.mono le2
  have T10x2 : TV H2 (ρ2 10) B := by rw [K2 10 (by decide) (by decide)]; exact T10x1.mono le2
  have T12x2 : TV H2 (ρ2 12) C := by rw [K2 12 (by decide) (by decide)]; exact T12x1.mono le2
  have T17x2 : TV H2 (ρ2 17) (tB 5 A B) := by rw [K2 17 (by decide) (by decide)]; exact T17x1.mono le2
  refine W_sq ?_
  refine R_pr (l := .pr (tB 5 A B)) S2 (by decide) (by decide) T17x2 (by first | assumption | exact bfB) (by decide) rfl (by first | omega | (simp only [List.length_append, List.length_cons, List.length_nil]; omega)) (fun ρ3 w3 S3 K3 => ?_)
  have le3 := HLe.refl H2
  have T8x3 : TV H2 (ρ3 8) A := by rw [K3 8 (by decide) (by decide)]; exact T8x2
  have T10x3 : TV H2 (ρ3 10) B := by rw [K3 10 (by decide) (by decide)]; exact T10x2
  have T12x3 : TV H2 (ρ3 12) C := by rw [K3 12 (by decide) (by decide)]; exact T12x2
  have T17x3 : TV H2 (ρ3 17) (tB 5 A B) := by rw [K3 17 (by decide) (by decide)]; exact T17x2
  have T18x3 : TV H2 (ρ3 18) (tB 5 B A) := by rw [K3 18 (by decide) (by decide)]; exact T18x2
  refine W_sq ?_
  refine R_pr (l := .as_ A) S3 (by decide) (by decide) T8x3 (by first | assumption | exact bfB) (by decide) rfl (by first | omega | (simp only [List.length_append, List.length_cons, List.length_nil]; omega)) (fun ρ4 w4 S4 K4 => ?_)
  have le4 := HLe.refl H2
  have T8x4 : TV H2 (ρ4 8) A := by rw [K4 8 (by decide) (by decide)]; exact T8x3
  have T10x4 : TV H2 (ρ4 10) B := by rw [K4 10 (by decide) (by decide)]; exact T10x3
  have T12x4 : TV H2 (ρ4 12) C := by rw [K4 12 (by decide) (by decide)]; exact T12x3
  have T17x4 : TV H2 (ρ4 17) (tB 5 A B) := by rw [K4 17 (by decide) (by decide)]; exact T17x3
  have T18x4 : TV H2 (ρ4 18) (tB 5 B A) := by rw [K4 18 (by decide) (by decide)]; exact T18x3
  refine W_sq ?_
  refine R_st1 (rule := 6) S4 (by decide) (by decide) T18x4 (by first | assumption | exact bfB) rfl (by decide) (by decide) (by first | omega | (simp only [List.length_append, List.length_cons, List.length_nil]; omega)) (fun ρ5 w5 S5 K5 => ?_)
  have le5 := HLe.refl H2
  have T8x5 : TV H2 (ρ5 8) A := by rw [K5 8 (by decide) (by decide)]; exact T8x4
  have T10x5 : TV H2 (ρ5 10) B := by rw [K5 10 (by decide) (by decide)]; exact T10x4
  have T12x5 : TV H2 (ρ5 12) C := by rw [K5 12 (by decide) (by decide)]; exact T12x4
  have T17x5 : TV H2 (ρ5 17) (tB 5 A B) := by rw [K5 17 (by decide) (by decide)]; exact T17x4
  have T18x5 : TV H2 (ρ5 18) (tB 5 B A) := by rw [K5 18 (by decide) (by decide)]; exact T18x4
  refine W_sq ?_
  refine R_lit (l := .en) S5 (by decide) rfl (by first | omega | (simp only [List.length_append, List.length_cons, List.length_nil]; omega)) (fun ρ6 w6 S6 K6 => ?_)
  have le6 := HLe.refl H2
  have T8x6 : TV H2 (ρ6 8) A := by rw [K6 8 (by decide) (by decide)]; exact T8x5
  have T10x6 : TV H2 (ρ6 10) B := by rw [K6 10 (by decide) (by decide)]; exact T10x5
  have T12x6 : TV H2 (ρ6 12) C := by rw [K6 12 (by decide) (by decide)]; exact T12x5
  have T17x6 : TV H2 (ρ6 17) (tB 5 A B) := by rw [K6 17 (by decide) (by decide)]; exact T17x5
  have T18x6 : TV H2 (ρ6 18) (tB 5 B A) := by rw [K6 18 (by decide) (by decide)]; exact T18x5
  refine W_sq ?_
  refine R_pr (l := .as_ B) S6 (by decide) (by decide) T10x6 (by first | assumption | exact bfB) (by decide) rfl (by first | omega | (simp only [List.length_append, List.length_cons, List.length_nil]; omega)) (fun ρ7 w7 S7 K7 => ?_)
  have le7 := HLe.refl H2
  have T8x7 : TV H2 (ρ7 8) A := by rw [K7 8 (by decide) (by decide)]; exact T8x6
  have T10x7 : TV H2 (ρ7 10) B := by rw [K7 10 (by decide) (by decide)]; exact T10x6
  have T12x7 : TV H2 (ρ7 12) C := by rw [K7 12 (by decide) (by decide)]; exact T12x6
  have T17x7 : TV H2 (ρ7 17) (tB 5 A B) := by rw [K7 17 (by decide) (by decide)]; exact T17x6
  have T18x7 : TV H2 (ρ7 18) (tB 5 B A) := by rw [K7 18 (by decide) (by decide)]; exact T18x6
  refine W_sq ?_
  refine R_st1 (rule := 5) S7 (by decide) (by decide) T18x7 (by first | assumption | exact bfB) rfl (by decide) (by decide) (by first | omega | (simp only [List.length_append, List.length_cons, List.length_nil]; omega)) (fun ρ8 w8 S8 K8 => ?_)
  have le8 := HLe.refl H2
  have T8x8 : TV H2 (ρ8 8) A := by rw [K8 8 (by decide) (by decide)]; exact T8x7
  have T10x8 : TV H2 (ρ8 10) B := by rw [K8 10 (by decide) (by decide)]; exact T10x7
  have T12x8 : TV H2 (ρ8 12) C := by rw [K8 12 (by decide) (by decide)]; exact T12x7
  have T17x8 : TV H2 (ρ8 17) (tB 5 A B) := by rw [K8 17 (by decide) (by decide)]; exact T17x7
  have T18x8 : TV H2 (ρ8 18) (tB 5 B A) := by rw [K8 18 (by decide) (by decide)]; exact T18x7
  refine W_sq ?_
  refine R_lit (l := .en) S8 (by decide) rfl (by first | omega | (simp only [List.length_append, List.length_cons, List.length_nil]; omega)) (fun ρ9 w9 S9 K9 => ?_)
  have le9 := HLe.refl H2
  have T8x9 : TV H2 (ρ9 8) A := by rw [K9 8 (by decide) (by decide)]; exact T8x8
  have T10x9 : TV H2 (ρ9 10) B := by rw [K9 10 (by decide) (by decide)]; exact T10x8
  have T12x9 : TV H2 (ρ9 12) C := by rw [K9 12 (by decide) (by decide)]; exact T12x8
  have T17x9 : TV H2 (ρ9 17) (tB 5 A B) := by rw [K9 17 (by decide) (by decide)]; exact T17x8
  have T18x9 : TV H2 (ρ9 18) (tB 5 B A) := by rw [K9 18 (by decide) (by decide)]; exact T18x8
  refine W_sq ?_
  refine R_st3 (rule := 7) S9 (by decide) (by decide) T18x9 (by first | assumption | exact bfB) rfl (by decide) (by decide) (by first | omega | (simp only [List.length_append, List.length_cons, List.length_nil]; omega)) (fun ρ10 w10 S10 K10 => ?_)
  have le10 := HLe.refl H2
  have T8x10 : TV H2 (ρ10 8) A := by rw [K10 8 (by decide) (by decide)]; exact T8x9
  have T10x10 : TV H2 (ρ10 10) B := by rw [K10 10 (by decide) (by decide)]; exact T10x9
  have T12x10 : TV H2 (ρ10 12) C := by rw [K10 12 (by decide) (by decide)]; exact T12x9
  have T17x10 : TV H2 (ρ10 17) (tB 5 A B) := by rw [K10 17 (by decide) (by decide)]; exact T17x9
  have T18x10 : TV H2 (ρ10 18) (tB 5 B A) := by rw [K10 18 (by decide) (by decide)]; exact T18x9
  refine R_v1 S10 (by decide) (by decide) (by decide) T17x10 (by first | assumption | exact bfB) T18x10 (by first | assumption | exact bfB) (by omega) (fun ρ11 w11 H11 x11 S11 hv11 K11 => ?_)
  refine h ρ11 w11 H11 [.pr (tB 5 A B), .as_ A, .st (tB 5 B A) 6 [2], .en, .as_ B, .st (tB 5 B A) 5 [4], .en, .st (tB 5 B A) 7 [1, 2, 4]] x11 (by first | exact S11 | (have S' := S11; simp only [List.append_assoc, List.cons_append, List.nil_append] at S'; exact S')) ?_
  rw [hv11]
  refine ⟨?_, noT_of rfl, by simp, rfl, ?_, ?_, by simp, fun q => acc2 (BF.tg (by first | assumption | exact bfB)) (BF.tg (by first | assumption | exact bfB)) (BF.tg (by first | assumption | exact bfB)) (BF.tg (by first | assumption | exact bfB)) _ _ _ _ _ _ _ _⟩
  · intro l hl
    simp only [List.mem_cons, List.not_mem_nil, or_false] at hl
    rcases hl with rfl | rfl | rfl | rfl | rfl | rfl | rfl | rfl
    all_goals first
      | trivial
      | assumption
      | exact ⟨by first | assumption | exact bfB, by decide, by decide, by decide, by decide, by decide⟩
  · intro t ht
    simp only [List.mem_cons, List.not_mem_nil, or_false] at ht; rcases ht with rfl <;> assumption
  · assumption

set_option maxHeartbeats 4000000 in
set_option maxRecDepth 20000 in
theorem case3 {H0 Hq : Heap} {w0 w : World} {gb rb : Nat} {ca : Option Addr} {n cc p : Nat} {ex : List ExO} {ρ : Env} {ls : List LT} {xs : List VdA} {k : Exit → Env → World → Prop} {A B C : FT} (S : BM H0 Hq w0 w gb rb ca n cc p ex ρ ls xs) (TA : TV Hq (ρ 8) A) (TB : TV Hq (ρ 10) B) (TC : TV Hq (ρ 12) C) (hA : Sm A) (hB : Sm B) (hC : Sm C) (hb : ls.length ≤ 900000000) (hx : xs.length ≤ 900000000)
    (h : ∀ ρ' w' H' body x, BM H0 H' w0 w' gb rb ca n cc p ex ρ' (ls ++ body) (xs ++ [x]) → BOk (xs.map VdA.v) body (VdA.v x) → k .normal ρ' w') : VC Yaao.prog (sel [true, true, true, true, false, false, false, true, false, true, true, true, true, true, true, true, true, true, true, true, true, false, true, true, true, true, true, true, true, false] bpc) k ρ w := by
  have zA := hA.2
  have zB := hB.2
  have zC := hC.2
  have bA := hA.bf
  have bB := hB.bf
  have bC := hC.bf
  have bf0 : BF (tN A) := bfN hA.1 (by omega)
  have bf1 : BF (tN (tN A)) := bfN (shN hA.1) (by rw [sz_N]; omega)
  refine W_sq ?_
  refine R_nn S (by decide) (by decide) (by decide) TA (fun ρ1 w1 H1 S1 le1 T19x1 K1 => ?_)
  have T8x1 : TV H1 (ρ1 8) A := by rw [K1 8 (by decide) (by decide)]; exact TA.mono le1
  have T10x1 : TV H1 (ρ1 10) B := by rw [K1 10 (by decide) (by decide)]; exact TB.mono le1
  have T12x1 : TV H1 (ρ1 12) C := by rw [K1 12 (by decide) (by decide)]; exact TC.mono le1
  refine W_sq ?_
  refine R_pr (l := .pr (tN (tN A))) S1 (by decide) (by decide) T19x1 (by first | assumption | exact bfB) (by decide) rfl (by first | omega | (simp only [List.length_append, List.length_cons, List.length_nil]; omega)) (fun ρ2 w2 S2 K2 => ?_)
  have le2 := HLe.refl H1
  have T8x2 : TV H1 (ρ2 8) A := by rw [K2 8 (by decide) (by decide)]; exact T8x1
  have T10x2 : TV H1 (ρ2 10) B := by rw [K2 10 (by decide) (by decide)]; exact T10x1
  have T12x2 : TV H1 (ρ2 12) C := by rw [K2 12 (by decide) (by decide)]; exact T12x1
  have T19x2 : TV H1 (ρ2 19) (tN (tN A)) := by rw [K2 19 (by decide) (by decide)]; exact T19x1
  refine W_sq ?_
  refine R_prN (l := .as_ (tN A)) S2 (by decide) (by decide) T8x2 (by first | assumption | exact bfB) (by omega) (by decide) rfl (by first | omega | (simp only [List.length_append, List.length_cons, List.length_nil]; omega)) (fun ρ3 w3 S3 K3 => ?_)
  have le3 := HLe.refl H1
  have T8x3 : TV H1 (ρ3 8) A := by rw [K3 8 (by decide) (by decide)]; exact T8x2
  have T10x3 : TV H1 (ρ3 10) B := by rw [K3 10 (by decide) (by decide)]; exact T10x2
  have T12x3 : TV H1 (ρ3 12) C := by rw [K3 12 (by decide) (by decide)]; exact T12x2
  have T19x3 : TV H1 (ρ3 19) (tN (tN A)) := by rw [K3 19 (by decide) (by decide)]; exact T19x2
  refine W_sq ?_
  refine R_stB (rule := 11) S3 (by decide) rfl (by decide) (by decide) (by first | omega | (simp only [List.length_append, List.length_cons, List.length_nil]; omega)) (fun ρ4 w4 S4 K4 => ?_)
  have le4 := HLe.refl H1
  have T8x4 : TV H1 (ρ4 8) A := by rw [K4 8 (by decide) (by decide)]; exact T8x3
  have T10x4 : TV H1 (ρ4 10) B := by rw [K4 10 (by decide) (by decide)]; exact T10x3
  have T12x4 : TV H1 (ρ4 12) C := by rw [K4 12 (by decide) (by decide)]; exact T12x3
  have T19x4 : TV H1 (ρ4 19) (tN (tN A)) := by rw [K4 19 (by decide) (by decide)]; exact T19x3
  refine W_sq ?_
  refine R_lit (l := .en) S4 (by decide) rfl (by first | omega | (simp only [List.length_append, List.length_cons, List.length_nil]; omega)) (fun ρ5 w5 S5 K5 => ?_)
  have le5 := HLe.refl H1
  have T8x5 : TV H1 (ρ5 8) A := by rw [K5 8 (by decide) (by decide)]; exact T8x4
  have T10x5 : TV H1 (ρ5 10) B := by rw [K5 10 (by decide) (by decide)]; exact T10x4
  have T12x5 : TV H1 (ρ5 12) C := by rw [K5 12 (by decide) (by decide)]; exact T12x4
  have T19x5 : TV H1 (ρ5 19) (tN (tN A)) := by rw [K5 19 (by decide) (by decide)]; exact T19x4
  refine W_sq ?_
  refine R_st1 (rule := 13) S5 (by decide) (by decide) T8x5 (by first | assumption | exact bfB) rfl (by decide) (by decide) (by first | omega | (simp only [List.length_append, List.length_cons, List.length_nil]; omega)) (fun ρ6 w6 S6 K6 => ?_)
  have le6 := HLe.refl H1
  have T8x6 : TV H1 (ρ6 8) A := by rw [K6 8 (by decide) (by decide)]; exact T8x5
  have T10x6 : TV H1 (ρ6 10) B := by rw [K6 10 (by decide) (by decide)]; exact T10x5
  have T12x6 : TV H1 (ρ6 12) C := by rw [K6 12 (by decide) (by decide)]; exact T12x5
  have T19x6 : TV H1 (ρ6 19) (tN (tN A)) := by rw [K6 19 (by decide) (by decide)]; exact T19x5
  refine R_v1 S6 (by decide) (by decide) (by decide) T19x6 (by first | assumption | exact bfB) T8x6 (by first | assumption | exact bfB) (by omega) (fun ρ7 w7 H7 x7 S7 hv7 K7 => ?_)
  refine h ρ7 w7 H7 [.pr (tN (tN A)), .as_ (tN A), .st tB0 11 [2, 1], .en, .st A 13 [2]] x7 (by first | exact S7 | (have S' := S7; simp only [List.append_assoc, List.cons_append, List.nil_append] at S'; exact S')) ?_
  rw [hv7]
  refine ⟨?_, noT_of rfl, by simp, rfl, ?_, ?_, by simp, fun q => acc3 (BF.tg (by first | assumption | exact bfB)) (BF.tg (by first | assumption | exact bfB)) (BF.tg (by first | assumption | exact bfB)) (BF.tg (by first | assumption | exact bfB)) _ _ _ _ _⟩
  · intro l hl
    simp only [List.mem_cons, List.not_mem_nil, or_false] at hl
    rcases hl with rfl | rfl | rfl | rfl | rfl
    all_goals first
      | trivial
      | assumption
      | exact ⟨by first | assumption | exact bfB, by decide, by decide, by decide, by decide, by decide⟩
  · intro t ht
    simp only [List.mem_cons, List.not_mem_nil, or_false] at ht; rcases ht with rfl <;> assumption
  · assumption

set_option maxHeartbeats 4000000 in
set_option maxRecDepth 20000 in
theorem case4 {H0 Hq : Heap} {w0 w : World} {gb rb : Nat} {ca : Option Addr} {n cc p : Nat} {ex : List ExO} {ρ : Env} {ls : List LT} {xs : List VdA} {k : Exit → Env → World → Prop} {A B C : FT} (S : BM H0 Hq w0 w gb rb ca n cc p ex ρ ls xs) (TA : TV Hq (ρ 8) A) (TB : TV Hq (ρ 10) B) (TC : TV Hq (ρ 12) C) (hA : Sm A) (hB : Sm B) (hC : Sm C) (hb : ls.length ≤ 900000000) (hx : xs.length ≤ 900000000)
    (h : ∀ ρ' w' H' body x, BM H0 H' w0 w' gb rb ca n cc p ex ρ' (ls ++ body) (xs ++ [x]) → BOk (xs.map VdA.v) body (VdA.v x) → k .normal ρ' w') : VC Yaao.prog (sel [true, true, true, true, false, false, false, true, false, true, true, true, true, true, true, true, true, true, true, true, true, false, true, true, true, true, true, true, true, true, true, false] bpc) k ρ w := by
  have zA := hA.2
  have zB := hB.2
  have zC := hC.2
  have bA := hA.bf
  have bB := hB.bf
  have bC := hC.bf
  have bf0 : BF (tB 6 A B) := bfB2 (by decide) (by decide) hA.1 hB.1 (by omega)
  have bf1 : BF (tB 6 B A) := bfB2 (by decide) (by decide) hB.1 hA.1 (by omega)
  have bf2 : BF (tB 7 A B) := bfB2 (by decide) (by decide) hA.1 hB.1 (by omega)
  refine W_sq ?_
  refine R_bin S (by decide) (by decide) (by decide) (by decide) TA TB (fun ρ1 w1 H1 S1 le1 T20x1 K1 => ?_)
  have T8x1 : TV H1 (ρ1 8) A := by rw [K1 8 (by decide) (by decide)]; exact TA.mono le1
  have T10x1 : TV H1 (ρ1 10) B := by rw [K1 10 (by decide) (by decide)]; exact TB.mono le1
  have T12x1 : TV H1 (ρ1 12) C := by rw [K1 12 (by decide) (by decide)]; exact TC.mono le1
  refine W_sq ?_
  refine R_bin S1 (by decide) (by decide) (by decide) (by decide) T10x1 T8x1 (fun ρ2 w2 H2 S2 le2 T21x2 K2 => ?_)
  have T8x2 : TV H2 (ρ2 8) A := by rw [K2 8 (by decide) (by decide)]; exact T8x1.mono le2
  have T10x2 : TV H2 (ρ2 10) B := by rw [K2 10 (by decide) (by decide)]; exact T10x1.mono le2
  have T12x2 : TV H2 (ρ2 12) C := by rw [K2 12 (by decide) (by decide)]; exact T12x1.mono le2
  have T20x2 : TV H2 (ρ2 20) (tB 6 A B) := by rw [K2 20 (by decide) (by decide)]; exact T20x1.mono le2
  refine W_sq ?_
  refine R_pr (l := .pr (tB 6 A B)) S2 (by decide) (by decide) T20x2 (by first | assumption | exact bfB) (by decide) rfl (by first | omega | (simp only [List.length_append, List.length_cons, List.length_nil]; omega)) (fun ρ3 w3 S3 K3 => ?_)
  have le3 := HLe.refl H2
  have T8x3 : TV H2 (ρ3 8) A := by rw [K3 8 (by decide) (by decide)]; exact T8x2
  have T10x3 : TV H2 (ρ3 10) B := by rw [K3 10 (by decide) (by decide)]; exact T10x2
  have T12x3 : TV H2 (ρ3 12) C := by rw [K3 12 (by decide) (by decide)]; exact T12x2
  have T20x3 : TV H2 (ρ3 20) (tB 6 A B) := by rw [K3 20 (by decide) (by decide)]; exact T20x2
  have T21x3 : TV H2 (ρ3 21) (tB 6 B A) := by rw [K3 21 (by decide) (by decide)]; exact T21x2
  refine W_sq ?_
  refine R_pr (l := .pr (tB 6 B A)) S3 (by decide) (by decide) T21x3 (by first | assumption | exact bfB) (by decide) rfl (by first | omega | (simp only [List.length_append, List.length_cons, List.length_nil]; omega)) (fun ρ4 w4 S4 K4 => ?_)
  have le4 := HLe.refl H2
  have T8x4 : TV H2 (ρ4 8) A := by rw [K4 8 (by decide) (by decide)]; exact T8x3
  have T10x4 : TV H2 (ρ4 10) B := by rw [K4 10 (by decide) (by decide)]; exact T10x3
  have T12x4 : TV H2 (ρ4 12) C := by rw [K4 12 (by decide) (by decide)]; exact T12x3
  have T20x4 : TV H2 (ρ4 20) (tB 6 A B) := by rw [K4 20 (by decide) (by decide)]; exact T20x3
  have T21x4 : TV H2 (ρ4 21) (tB 6 B A) := by rw [K4 21 (by decide) (by decide)]; exact T21x3
  refine W_sq ?_
  refine R_pr (l := .pr A) S4 (by decide) (by decide) T8x4 (by first | assumption | exact bfB) (by decide) rfl (by first | omega | (simp only [List.length_append, List.length_cons, List.length_nil]; omega)) (fun ρ5 w5 S5 K5 => ?_)
  have le5 := HLe.refl H2
  have T8x5 : TV H2 (ρ5 8) A := by rw [K5 8 (by decide) (by decide)]; exact T8x4
  have T10x5 : TV H2 (ρ5 10) B := by rw [K5 10 (by decide) (by decide)]; exact T10x4
  have T12x5 : TV H2 (ρ5 12) C := by rw [K5 12 (by decide) (by decide)]; exact T12x4
  have T20x5 : TV H2 (ρ5 20) (tB 6 A B) := by rw [K5 20 (by decide) (by decide)]; exact T20x4
  have T21x5 : TV H2 (ρ5 21) (tB 6 B A) := by rw [K5 21 (by decide) (by decide)]; exact T21x4
  refine W_sq ?_
  refine R_stI (rule := 14) S5 (by decide) (by decide) (by decide) T8x5 (by first | assumption | exact bfB) T10x5 (by first | assumption | exact bfB) (by omega) rfl (by decide) (by decide) (by first | omega | (simp only [List.length_append, List.length_cons, List.length_nil]; omega)) (fun ρ6 w6 S6 K6 => ?_)
  have le6 := HLe.refl H2
  have T8x6 : TV H2 (ρ6 8) A := by rw [K6 8 (by decide) (by decide)]; exact T8x5
  have T10x6 : TV H2 (ρ6 10) B := by rw [K6 10 (by decide) (by decide)]; exact T10x5
  have T12x6 : TV H2 (ρ6 12) C := by rw [K6 12 (by decide) (by decide)]; exact T12x5
  have T20x6 : TV H2 (ρ6 20) (tB 6 A B) := by rw [K6 20 (by decide) (by decide)]; exact T20x5
  have T21x6 : TV H2 (ρ6 21) (tB 6 B A) := by rw [K6 21 (by decide) (by decide)]; exact T21x5
  refine W_sq ?_
  refine R_st2 (rule := 15) S6 (by decide) (by decide) T10x6 (by first | assumption | exact bfB) rfl (by decide) (by decide) (by first | omega | (simp only [List.length_append, List.length_cons, List.length_nil]; omega)) (fun ρ7 w7 S7 K7 => ?_)
  have le7 := HLe.refl H2
  have T8x7 : TV H2 (ρ7 8) A := by rw [K7 8 (by decide) (by decide)]; exact T8x6
  have T10x7 : TV H2 (ρ7 10) B := by rw [K7 10 (by decide) (by decide)]; exact T10x6
  have T12x7 : TV H2 (ρ7 12) C := by rw [K7 12 (by decide) (by decide)]; exact T12x6
  have T20x7 : TV H2 (ρ7 20) (tB 6 A B) := by rw [K7 20 (by decide) (by decide)]; exact T20x6
  have T21x7 : TV H2 (ρ7 21) (tB 6 B A) := by rw [K7 21 (by decide) (by decide)]; exact T21x6
  refine W_sq ?_
  refine R_st2 (rule := 16) S7 (by decide) (by decide) T8x7 (by first | assumption | exact bfB) rfl (by decide) (by decide) (by first | omega | (simp only [List.length_append, List.length_cons, List.length_nil]; omega)) (fun ρ8 w8 S8 K8 => ?_)
  have le8 := HLe.refl H2
  have T8x8 : TV H2 (ρ8 8) A := by rw [K8 8 (by decide) (by decide)]; exact T8x7
  have T10x8 : TV H2 (ρ8 10) B := by rw [K8 10 (by decide) (by decide)]; exact T10x7
  have T12x8 : TV H2 (ρ8 12) C := by rw [K8 12 (by decide) (by decide)]; exact T12x7
  have T20x8 : TV H2 (ρ8 20) (tB 6 A B) := by rw [K8 20 (by decide) (by decide)]; exact T20x7
  have T21x8 : TV H2 (ρ8 21) (tB 6 B A) := by rw [K8 21 (by decide) (by decide)]; exact T21x7
  refine R_v3 S8 (by decide) (by decide) (by decide) (by decide) (by decide) T20x8 (by first | assumption | exact bfB) T21x8 (by first | assumption | exact bfB) T8x8 (by first | assumption | exact bfB) T8x8 (by first | assumption | exact bfB) (by omega) (fun ρ9 w9 H9 x9 S9 hv9 K9 => ?_)
  refine h ρ9 w9 H9 [.pr (tB 6 A B), .pr (tB 6 B A), .pr A, .st (tB 7 A B) 14 [1, 2], .st B 15 [4, 3], .st A 16 [4, 5]] x9 (by first | exact S9 | (have S' := S9; simp only [List.append_assoc, List.cons_append, List.nil_append] at S'; exact S')) ?_
  rw [hv9]
  refine ⟨?_, noT_of rfl, by simp, rfl, ?_, ?_, by simp, fun q => acc4 (BF.tg (by first | assumption | exact bfB)) (BF.tg (by first | assumption | exact bfB)) (BF.tg (by first | assumption | exact bfB)) (BF.tg (by first | assumption | exact bfB)) (BF.tg (by first | assumption | exact bfB)) _ _ _ _ _ _⟩
  · intro l hl
    simp only [List.mem_cons, List.not_mem_nil, or_false] at hl
    rcases hl with rfl | rfl | rfl | rfl | rfl | rfl
    all_goals first
      | trivial
      | assumption
      | exact ⟨by first | assumption | exact bfB, by decide, by decide, by decide, by decide, by decide⟩
  · intro t ht
    simp only [List.mem_cons, List.not_mem_nil, or_false] at ht; rcases ht with rfl | rfl | rfl <;> assumption
  · assumption

set_option maxHeartbeats 4000000 in
set_option maxRecDepth 20000 in
theorem case5 {H0 Hq : Heap} {w0 w : World} {gb rb : Nat} {ca : Option Addr} {n cc p : Nat} {ex : List ExO} {ρ : Env} {ls : List LT} {xs : List VdA} {k : Exit → Env → World → Prop} {A B C : FT} (S : BM H0 Hq w0 w gb rb ca n cc p ex ρ ls xs) (TA : TV Hq (ρ 8) A) (TB : TV Hq (ρ 10) B) (TC : TV Hq (ρ 12) C) (hA : Sm A) (hB : Sm B) (hC : Sm C) (hb : ls.length ≤ 900000000) (hx : xs.length ≤ 900000000)
    (h : ∀ ρ' w' H' body x, BM H0 H' w0 w' gb rb ca n cc p ex ρ' (ls ++ body) (xs ++ [x]) → BOk (xs.map VdA.v) body (VdA.v x) → k .normal ρ' w') : VC Yaao.prog (sel [true, true, true, true, false, false, false, true, false, true, true, true, true, true, true, true, true, true, true, true, true, false, true, true, true, true, true, true, true, true, true, true, true, false] bpc) k ρ w := by
  have zA := hA.2
  have zB := hB.2
  have zC := hC.2
  have bA := hA.bf
  have bB := hB.bf
  have bC := hC.bf
  have bf0 : BF (tN A) := bfN hA.1 (by omega)
  have bf1 : BF (tB 6 A C) := bfB2 (by decide) (by decide) hA.1 hC.1 (by omega)
  refine W_sq ?_
  refine R_not S (by decide) (by decide) (by decide) TA (fun ρ1 w1 H1 S1 le1 T22x1 K1 => ?_)
  have T8x1 : TV H1 (ρ1 8) A := by rw [K1 8 (by decide) (by decide)]; exact TA.mono le1
  have T10x1 : TV H1 (ρ1 10) B := by rw [K1 10 (by decide) (by decide)]; exact TB.mono le1
  have T12x1 : TV H1 (ρ1 12) C := by rw [K1 12 (by decide) (by decide)]; exact TC.mono le1
  refine W_sq ?_
  refine R_bin S1 (by decide) (by decide) (by decide) (by decide) T8x1 T12x1 (fun ρ2 w2 H2 S2 le2 T23x2 K2 => ?_)
  have T8x2 : TV H2 (ρ2 8) A := by rw [K2 8 (by decide) (by decide)]; exact T8x1.mono le2
  have T10x2 : TV H2 (ρ2 10) B := by rw [K2 10 (by decide) (by decide)]; exact T10x1.mono le2
  have T12x2 : TV H2 (ρ2 12) C := by rw [K2 12 (by decide) (by decide)]; exact T12x1.mono le2
  have T22x2 : TV H2 (ρ2 22) (tN A) := by rw [K2 22 (by decide) (by decide)]; exact T22x1.mono le2
  refine W_sq ?_
  refine R_pr (l := .pr (tN A)) S2 (by decide) (by decide) T22x2 (by first | assumption | exact bfB) (by decide) rfl (by first | omega | (simp only [List.length_append, List.length_cons, List.length_nil]; omega)) (fun ρ3 w3 S3 K3 => ?_)
  have le3 := HLe.refl H2
  have T8x3 : TV H2 (ρ3 8) A := by rw [K3 8 (by decide) (by decide)]; exact T8x2
  have T10x3 : TV H2 (ρ3 10) B := by rw [K3 10 (by decide) (by decide)]; exact T10x2
  have T12x3 : TV H2 (ρ3 12) C := by rw [K3 12 (by decide) (by decide)]; exact T12x2
  have T22x3 : TV H2 (ρ3 22) (tN A) := by rw [K3 22 (by decide) (by decide)]; exact T22x2
  have T23x3 : TV H2 (ρ3 23) (tB 6 A C) := by rw [K3 23 (by decide) (by decide)]; exact T23x2
  refine W_sq ?_
  refine R_pr (l := .as_ A) S3 (by decide) (by decide) T8x3 (by first | assumption | exact bfB) (by decide) rfl (by first | omega | (simp only [List.length_append, List.length_cons, List.length_nil]; omega)) (fun ρ4 w4 S4 K4 => ?_)
  have le4 := HLe.refl H2
  have T8x4 : TV H2 (ρ4 8) A := by rw [K4 8 (by decide) (by decide)]; exact T8x3
  have T10x4 : TV H2 (ρ4 10) B := by rw [K4 10 (by decide) (by decide)]; exact T10x3
  have T12x4 : TV H2 (ρ4 12) C := by rw [K4 12 (by decide) (by decide)]; exact T12x3
  have T22x4 : TV H2 (ρ4 22) (tN A) := by rw [K4 22 (by decide) (by decide)]; exact T22x3
  have T23x4 : TV H2 (ρ4 23) (tB 6 A C) := by rw [K4 23 (by decide) (by decide)]; exact T23x3
  refine W_sq ?_
  refine R_stB (rule := 11) S4 (by decide) rfl (by decide) (by decide) (by first | omega | (simp only [List.length_append, List.length_cons, List.length_nil]; omega)) (fun ρ5 w5 S5 K5 => ?_)
  have le5 := HLe.refl H2
  have T8x5 : TV H2 (ρ5 8) A := by rw [K5 8 (by decide) (by decide)]; exact T8x4
  have T10x5 : TV H2 (ρ5 10) B := by rw [K5 10 (by decide) (by decide)]; exact T10x4
  have T12x5 : TV H2 (ρ5 12) C := by rw [K5 12 (by decide) (by decide)]; exact T12x4
  have T22x5 : TV H2 (ρ5 22) (tN A) := by rw [K5 22 (by decide) (by decide)]; exact T22x4
  have T23x5 : TV H2 (ρ5 23) (tB 6 A C) := by rw [K5 23 (by decide) (by decide)]; exact T23x4
  refine W_sq ?_
  refine R_st1 (rule := 12) S5 (by decide) (by decide) T12x5 (by first | assumption | exact bfB) rfl (by decide) (by decide) (by first | omega | (simp only [List.length_append, List.length_cons, List.length_nil]; omega)) (fun ρ6 w6 S6 K6 => ?_)
  have le6 := HLe.refl H2
  have T8x6 : TV H2 (ρ6 8) A := by rw [K6 8 (by decide) (by decide)]; exact T8x5
  have T10x6 : TV H2 (ρ6 10) B := by rw [K6 10 (by decide) (by decide)]; exact T10x5
  have T12x6 : TV H2 (ρ6 12) C := by rw [K6 12 (by decide) (by decide)]; exact T12x5
  have T22x6 : TV H2 (ρ6 22) (tN A) := by rw [K6 22 (by decide) (by decide)]; exact T22x5
  have T23x6 : TV H2 (ρ6 23) (tB 6 A C) := by rw [K6 23 (by decide) (by decide)]; exact T23x5
  refine W_sq ?_
  refine R_lit (l := .en) S6 (by decide) rfl (by first | omega | (simp only [List.length_append, List.length_cons, List.length_nil]; omega)) (fun ρ7 w7 S7 K7 => ?_)
  have le7 := HLe.refl H2
  have T8x7 : TV H2 (ρ7 8) A := by rw [K7 8 (by decide) (by decide)]; exact T8x6
  have T10x7 : TV H2 (ρ7 10) B := by rw [K7 10 (by decide) (by decide)]; exact T10x6
  have T12x7 : TV H2 (ρ7 12) C := by rw [K7 12 (by decide) (by decide)]; exact T12x6
  have T22x7 : TV H2 (ρ7 22) (tN A) := by rw [K7 22 (by decide) (by decide)]; exact T22x6
  have T23x7 : TV H2 (ρ7 23) (tB 6 A C) := by rw [K7 23 (by decide) (by decide)]; exact T23x6
  refine W_sq ?_
  refine R_st1 (rule := 8) S7 (by decide) (by decide) T23x7 (by first | assumption | exact bfB) rfl (by decide) (by decide) (by first | omega | (simp only [List.length_append, List.length_cons, List.length_nil]; omega)) (fun ρ8 w8 S8 K8 => ?_)
  have le8 := HLe.refl H2
  have T8x8 : TV H2 (ρ8 8) A := by rw [K8 8 (by decide) (by decide)]; exact T8x7
  have T10x8 : TV H2 (ρ8 10) B := by rw [K8 10 (by decide) (by decide)]; exact T10x7
  have T12x8 : TV H2 (ρ8 12) C := by rw [K8 12 (by decide) (by decide)]; exact T12x7
  have T22x8 : TV H2 (ρ8 22) (tN A) := by rw [K8 22 (by decide) (by decide)]; exact T22x7
  have T23x8 : TV H2 (ρ8 23) (tB 6 A C) := by rw [K8 23 (by decide) (by decide)]; exact T23x7
  refine R_v1 S8 (by decide) (by decide) (by decide) T22x8 (by first | assumption | exact bfB) T23x8 (by first | assumption | exact bfB) (by omega) (fun ρ9 w9 H9 x9 S9 hv9 K9 => ?_)
  refine h ρ9 w9 H9 [.pr (tN A), .as_ A, .st tB0 11 [2, 1], .st C 12 [3], .en, .st (tB 6 A C) 8 [2]] x9 (by first | exact S9 | (have S' := S9; simp only [List.append_assoc, List.cons_append, List.nil_append] at S'; exact S')) ?_
  rw [hv9]
  refine ⟨?_, noT_of rfl, by simp, rfl, ?_, ?_, by simp, fun q => acc5 (BF.tg (by first | assumption | exact bfB)) (BF.tg (by first | assumption | exact bfB)) (BF.tg (by first | assumption | exact bfB)) (BF.tg (by first | assumption | exact bfB)) (BF.tg (by first | assumption | exact bfB)) _ _ _ _ _ _⟩
  · intro l hl
    simp only [List.mem_cons, List.not_mem_nil, or_false] at hl
    rcases hl with rfl | rfl | rfl | rfl | rfl | rfl
    all_goals first
      | trivial
      | assumption
      | exact ⟨by first | assumption | exact bfB, by decide, by decide, by decide, by decide, by decide⟩
  · intro t ht
    simp only [List.mem_cons, List.not_mem_nil, or_false] at ht; rcases ht with rfl <;> assumption
  · assumption

set_option maxHeartbeats 4000000 in
set_option maxRecDepth 20000 in
theorem case6 {H0 Hq : Heap} {w0 w : World} {gb rb : Nat} {ca : Option Addr} {n cc p : Nat} {ex : List ExO} {ρ : Env} {ls : List LT} {xs : List VdA} {k : Exit → Env → World → Prop} {A B C : FT} (S : BM H0 Hq w0 w gb rb ca n cc p ex ρ ls xs) (TA : TV Hq (ρ 8) A) (TB : TV Hq (ρ 10) B) (TC : TV Hq (ρ 12) C) (hA : Sm A) (hB : Sm B) (hC : Sm C) (hb : ls.length ≤ 900000000) (hx : xs.length ≤ 900000000)
    (h : ∀ ρ' w' H' body x, BM H0 H' w0 w' gb rb ca n cc p ex ρ' (ls ++ body) (xs ++ [x]) → BOk (xs.map VdA.v) body (VdA.v x) → k .normal ρ' w') : VC Yaao.prog (sel [true, true, true, true, false, false, false, true, false, true, true, true, true, true, true, true, true, true, true, true, true, false, true, true, true, true, true, true, true, true, true, true, true, true, true, false] bpc) k ρ w := by
  have zA := hA.2
  have zB := hB.2
  have zC := hC.2
  have bA := hA.bf
  have bB := hB.bf
  have bC := hC.bf
  have bf0 : BF (tN A) := bfN hA.1 (by omega)
  have bf1 : BF (tN B) := bfN hB.1 (by omega)
  have bf2 : BF (tB 6 A (tN B)) := bfB2 (by decide) (by decide) hA.1 (shN hB.1) (by rw [sz_N]; omega)
  refine W_sq ?_
  refine R_not S (by decide) (by decide) (by decide) TA (fun ρ1 w1 H1 S1 le1 T24x1 K1 => ?_)
  have T8x1 : TV H1 (ρ1 8) A := by rw [K1 8 (by decide) (by decide)]; exact TA.mono le1
  have T10x1 : TV H1 (ρ1 10) B := by rw [K1 10 (by decide) (by decide)]; exact TB.mono le1
  have T12x1 : TV H1 (ρ1 12) C := by rw [K1 12 (by decide) (by decide)]; exact TC.mono le1
  refine W_sq ?_
  refine R92_ok S1 T8x1 T10x1 (fun ρ2 w2 H2 S2 le2 T25x2 K2 => ?_)
  have T8x2 : TV H2 (ρ2 8) A := by rw [K2 8 (by decide) (by decide)]; exact T8x1.mono le2
  have T10x2 : TV H2 (ρ2 10) B := by rw [K2 10 (by decide) (by decide)]; exact T10x1.mono le2
  have T12x2 : TV H2 (ρ2 12) C := by rw [K2 12 (by decide) (by decide)]; exact T12x1.mono le2
  have T24x2 : TV H2 (ρ2 24) (tN A) := by rw [K2 24 (by decide) (by decide)]; exact T24x1.mono le2
  refine W_sq ?_
  refine R_pr (l := .pr (tN A)) S2 (by decide) (by decide) T24x2 (by first | assumption | exact bfB) (by decide) rfl (by first | omega | (simp only [List.length_append, List.length_cons, List.length_nil]; omega)) (fun ρ3 w3 S3 K3 => ?_)
  have le3 := HLe.refl H2
  have T8x3 : TV H2 (ρ3 8) A := by rw [K3 8 (by decide) (by decide)]; exact T8x2
  have T10x3 : TV H2 (ρ3 10) B := by rw [K3 10 (by decide) (by decide)]; exact T10x2
  have T12x3 : TV H2 (ρ3 12) C := by rw [K3 12 (by decide) (by decide)]; exact T12x2
  have T24x3 : TV H2 (ρ3 24) (tN A) := by rw [K3 24 (by decide) (by decide)]; exact T24x2
  have T25x3 : TV H2 (ρ3 25) (tB 6 A (tN B)) := by rw [K3 25 (by decide) (by decide)]; exact T25x2
  refine W_sq ?_
  refine R_pr (l := .as_ A) S3 (by decide) (by decide) T8x3 (by first | assumption | exact bfB) (by decide) rfl (by first | omega | (simp only [List.length_append, List.length_cons, List.length_nil]; omega)) (fun ρ4 w4 S4 K4 => ?_)
  have le4 := HLe.refl H2
  have T8x4 : TV H2 (ρ4 8) A := by rw [K4 8 (by decide) (by decide)]; exact T8x3
  have T10x4 : TV H2 (ρ4 10) B := by rw [K4 10 (by decide) (by decide)]; exact T10x3
  have T12x4 : TV H2 (ρ4 12) C := by rw [K4 12 (by decide) (by decide)]; exact T12x3
  have T24x4 : TV H2 (ρ4 24) (tN A) := by rw [K4 24 (by decide) (by decide)]; exact T24x3
  have T25x4 : TV H2 (ρ4 25) (tB 6 A (tN B)) := by rw [K4 25 (by decide) (by decide)]; exact T25x3
  refine W_sq ?_
  refine R_pr (l := .as_ B) S4 (by decide) (by decide) T10x4 (by first | assumption | exact bfB) (by decide) rfl (by first | omega | (simp only [List.length_append, List.length_cons, List.length_nil]; omega)) (fun ρ5 w5 S5 K5 => ?_)
  have le5 := HLe.refl H2
  have T8x5 : TV H2 (ρ5 8) A := by rw [K5 8 (by decide) (by decide)]; exact T8x4
  have T10x5 : TV H2 (ρ5 10) B := by rw [K5 10 (by decide) (by decide)]; exact T10x4
  have T12x5 : TV H2 (ρ5 12) C := by rw [K5 12 (by decide) (by decide)]; exact T12x4
  have T24x5 : TV H2 (ρ5 24) (tN A) := by rw [K5 24 (by decide) (by decide)]; exact T24x4
  have T25x5 : TV H2 (ρ5 25) (tB 6 A (tN B)) := by rw [K5 25 (by decide) (by decide)]; exact T25x4
  refine W_sq ?_
  refine R_stB (rule := 11) S5 (by decide) rfl (by decide) (by decide) (by first | omega | (simp only [List.length_append, List.length_cons, List.length_nil]; omega)) (fun ρ6 w6 S6 K6 => ?_)
  have le6 := HLe.refl H2
  have T8x6 : TV H2 (ρ6 8) A := by rw [K6 8 (by decide) (by decide)]; exact T8x5
  have T10x6 : TV H2 (ρ6 10) B := by rw [K6 10 (by decide) (by decide)]; exact T10x5
  have T12x6 : TV H2 (ρ6 12) C := by rw [K6 12 (by decide) (by decide)]; exact T12x5
  have T24x6 : TV H2 (ρ6 24) (tN A) := by rw [K6 24 (by decide) (by decide)]; exact T24x5
  have T25x6 : TV H2 (ρ6 25) (tB 6 A (tN B)) := by rw [K6 25 (by decide) (by decide)]; exact T25x5
  refine W_sq ?_
  refine R_lit (l := .en) S6 (by decide) rfl (by first | omega | (simp only [List.length_append, List.length_cons, List.length_nil]; omega)) (fun ρ7 w7 S7 K7 => ?_)
  have le7 := HLe.refl H2
  have T8x7 : TV H2 (ρ7 8) A := by rw [K7 8 (by decide) (by decide)]; exact T8x6
  have T10x7 : TV H2 (ρ7 10) B := by rw [K7 10 (by decide) (by decide)]; exact T10x6
  have T12x7 : TV H2 (ρ7 12) C := by rw [K7 12 (by decide) (by decide)]; exact T12x6
  have T24x7 : TV H2 (ρ7 24) (tN A) := by rw [K7 24 (by decide) (by decide)]; exact T24x6
  have T25x7 : TV H2 (ρ7 25) (tB 6 A (tN B)) := by rw [K7 25 (by decide) (by decide)]; exact T25x6
  refine W_sq ?_
  refine R_stN (rule := 10) S7 (by decide) (by decide) T10x7 (by first | assumption | exact bfB) (by omega) rfl (by decide) (by decide) (by first | omega | (simp only [List.length_append, List.length_cons, List.length_nil]; omega)) (fun ρ8 w8 S8 K8 => ?_)
  have le8 := HLe.refl H2
  have T8x8 : TV H2 (ρ8 8) A := by rw [K8 8 (by decide) (by decide)]; exact T8x7
  have T10x8 : TV H2 (ρ8 10) B := by rw [K8 10 (by decide) (by decide)]; exact T10x7
  have T12x8 : TV H2 (ρ8 12) C := by rw [K8 12 (by decide) (by decide)]; exact T12x7
  have T24x8 : TV H2 (ρ8 24) (tN A) := by rw [K8 24 (by decide) (by decide)]; exact T24x7
  have T25x8 : TV H2 (ρ8 25) (tB 6 A (tN B)) := by rw [K8 25 (by decide) (by decide)]; exact T25x7
  refine W_sq ?_
  refine R_lit (l := .en) S8 (by decide) rfl (by first | omega | (simp only [List.length_append, List.length_cons, List.length_nil]; omega)) (fun ρ9 w9 S9 K9 => ?_)
  have le9 := HLe.refl H2
  have T8x9 : TV H2 (ρ9 8) A := by rw [K9 8 (by decide) (by decide)]; exact T8x8
  have T10x9 : TV H2 (ρ9 10) B := by rw [K9 10 (by decide) (by decide)]; exact T10x8
  have T12x9 : TV H2 (ρ9 12) C := by rw [K9 12 (by decide) (by decide)]; exact T12x8
  have T24x9 : TV H2 (ρ9 24) (tN A) := by rw [K9 24 (by decide) (by decide)]; exact T24x8
  have T25x9 : TV H2 (ρ9 25) (tB 6 A (tN B)) := by rw [K9 25 (by decide) (by decide)]; exact T25x8
  refine W_sq ?_
  refine R_st1 (rule := 8) S9 (by decide) (by decide) T25x9 (by first | assumption | exact bfB) rfl (by decide) (by decide) (by first | omega | (simp only [List.length_append, List.length_cons, List.length_nil]; omega)) (fun ρ10 w10 S10 K10 => ?_)
  have le10 := HLe.refl H2
  have T8x10 : TV H2 (ρ10 8) A := by rw [K10 8 (by decide) (by decide)]; exact T8x9
  have T10x10 : TV H2 (ρ10 10) B := by rw [K10 10 (by decide) (by decide)]; exact T10x9
  have T12x10 : TV H2 (ρ10 12) C := by rw [K10 12 (by decide) (by decide)]; exact T12x9
  have T24x10 : TV H2 (ρ10 24) (tN A) := by rw [K10 24 (by decide) (by decide)]; exact T24x9
  have T25x10 : TV H2 (ρ10 25) (tB 6 A (tN B)) := by rw [K10 25 (by decide) (by decide)]; exact T25x9
  refine R_v1 S10 (by decide) (by decide) (by decide) T24x10 (by first | assumption | exact bfB) T25x10 (by first | assumption | exact bfB) (by omega) (fun ρ11 w11 H11 x11 S11 hv11 K11 => ?_)
  refine h ρ11 w11 H11 [.pr (tN A), .as_ A, .as_ B, .st tB0 11 [2, 1], .en, .st (tN B) 10 [3], .en, .st (tB 6 A (tN B)) 8 [2]] x11 (by first | exact S11 | (have S' := S11; simp only [List.append_assoc, List.cons_append, List.nil_append] at S'; exact S')) ?_
  rw [hv11]
  refine ⟨?_, noT_of rfl, by simp, rfl, ?_, ?_, by simp, fun q => acc6 (BF.tg (by first | assumption | exact bfB)) (BF.tg (by first | assumption | exact bfB)) (BF.tg (by first | assumption | exact bfB)) (BF.tg (by first | assumption | exact bfB)) (BF.tg (by first | assumption | exact bfB)) (BF.tg (by first | assumption | exact bfB)) _ _ _ _ _ _ _ _⟩
  · intro l hl
    simp only [List.mem_cons, List.not_mem_nil, or_false] at hl
    rcases hl with rfl | rfl | rfl | rfl | rfl | rfl | rfl | rfl
    all_goals first
      | trivial
      | assumption
      | exact ⟨by first | assumption | exact bfB, by decide, by decide, by decide, by decide, by decide⟩
  · intro t ht
    simp only [List.mem_cons, List.not_mem_nil, or_false] at ht; rcases ht with rfl <;> assumption
  · assumption

set_option maxHeartbeats 4000000 in
set_option maxRecDepth 20000 in
theorem case8 {H0 Hq : Heap} {w0 w : World} {gb rb : Nat} {ca : Option Addr} {n cc p : Nat} {ex : List ExO} {ρ : Env} {ls : List LT} {xs : List VdA} {k : Exit → Env → World → Prop} {A B C : FT} (S : BM H0 Hq w0 w gb rb ca n cc p ex ρ ls xs) (TA : TV Hq (ρ 8) A) (TB : TV Hq (ρ 10) B) (TC : TV Hq (ρ 12) C) (hA : Sm A) (hB : Sm B) (hC : Sm C) (hb : ls.length ≤ 900000000) (hx : xs.length ≤ 900000000)
    (h : ∀ ρ' w' H' body x, BM H0 H' w0 w' gb rb ca n cc p ex ρ' (ls ++ body) (xs ++ [x]) → BOk (xs.map VdA.v) body (VdA.v x) → k .normal ρ' w') : VC Yaao.prog (sel [true, true, true, true, false, false, false, true, false, true, true, true, true, true, true, true, true, true, true, true, true, false, true, true, true, true, true, true, true, true, true, true, true, true, true, true, true, true, true, false] bpc) k ρ w := by
  have zA := hA.2
  have zB := hB.2
  have zC := hC.2
  have bA := hA.bf
  have bB := hB.bf
  have bC := hC.bf
  have bf0 : BF (tB 6 A B) := bfB2 (by decide) (by decide) hA.1 hB.1 (by omega)
  have bf1 : BF (tB 5 B C) := bfB2 (by decide) (by decide) hB.1 hC.1 (by omega)
  refine W_sq ?_
  refine R_bin S (by decide) (by decide) (by decide) (by decide) TA TB (fun ρ1 w1 H1 S1 le1 T47x1 K1 => ?_)
  have T8x1 : TV H1 (ρ1 8) A := by rw [K1 8 (by decide) (by decide)]; exact TA.mono le1
  have T10x1 : TV H1 (ρ1 10) B := by rw [K1 10 (by decide) (by decide)]; exact TB.mono le1
  have T12x1 : TV H1 (ρ1 12) C := by rw [K1 12 (by decide) (by decide)]; exact TC.mono le1
  refine W_sq ?_
  refine R_bin S1 (by decide) (by decide) (by decide) (by decide) T10x1 T12x1 (fun ρ2 w2 H2 S2 le2 T48x2 K2 => ?_)
  have T8x2 : TV H2 (ρ2 8) A := by rw [K2 8 (by decide) (by decide)]; exact T8x1.mono le2
  have T10x2 : TV H2 (ρ2 10) B := by rw [K2 10 (by decide) (by decide)]; exact T10x1.mono le2
  have T12x2 : TV H2 (ρ2 12) C := by rw [K2 12 (by decide) (by decide)]; exact T12x1.mono le2
  have T47x2 : TV H2 (ρ2 47) (tB 6 A B) := by rw [K2 47 (by decide) (by decide)]; exact T47x1.mono le2
  refine W_sq ?_
  refine R_pr (l := .pr A) S2 (by decide) (by decide) T8x2 (by first | assumption | exact bfB) (by decide) rfl (by first | omega | (simp only [List.length_append, List.length_cons, List.length_nil]; omega)) (fun ρ3 w3 S3 K3 => ?_)
  have le3 := HLe.refl H2
  have T8x3 : TV H2 (ρ3 8) A := by rw [K3 8 (by decide) (by decide)]; exact T8x2
  have T10x3 : TV H2 (ρ3 10) B := by rw [K3 10 (by decide) (by decide)]; exact T10x2
  have T12x3 : TV H2 (ρ3 12) C := by rw [K3 12 (by decide) (by decide)]; exact T12x2
  have T47x3 : TV H2 (ρ3 47) (tB 6 A B) := by rw [K3 47 (by decide) (by decide)]; exact T47x2
  have T48x3 : TV H2 (ρ3 48) (tB 5 B C) := by rw [K3 48 (by decide) (by decide)]; exact T48x2
  refine W_sq ?_
  refine R_pr (l := .pr (tB 6 A B)) S3 (by decide) (by decide) T47x3 (by first | assumption | exact bfB) (by decide) rfl (by first | omega | (simp only [List.length_append, List.length_cons, List.length_nil]; omega)) (fun ρ4 w4 S4 K4 => ?_)
  have le4 := HLe.refl H2
  have T8x4 : TV H2 (ρ4 8) A := by rw [K4 8 (by decide) (by decide)]; exact T8x3
  have T10x4 : TV H2 (ρ4 10) B := by rw [K4 10 (by decide) (by decide)]; exact T10x3
  have T12x4 : TV H2 (ρ4 12) C := by rw [K4 12 (by decide) (by decide)]; exact T12x3
  have T47x4 : TV H2 (ρ4 47) (tB 6 A B) := by rw [K4 47 (by decide) (by decide)]; exact T47x3
  have T48x4 : TV H2 (ρ4 48) (tB 5 B C) := by rw [K4 48 (by decide) (by decide)]; exact T48x3
  refine W_sq ?_
  refine R_st2 (rule := 9) S4 (by decide) (by decide) T10x4 (by first | assumption | exact bfB) rfl (by decide) (by decide) (by first | omega | (simp only [List.length_append, List.length_cons, List.length_nil]; omega)) (fun ρ5 w5 S5 K5 => ?_)
  have le5 := HLe.refl H2
  have T8x5 : TV H2 (ρ5 8) A := by rw [K5 8 (by decide) (by decide)]; exact T8x4
  have T10x5 : TV H2 (ρ5 10) B := by rw [K5 10 (by decide) (by decide)]; exact T10x4
  have T12x5 : TV H2 (ρ5 12) C := by rw [K5 12 (by decide) (by decide)]; exact T12x4
  have T47x5 : TV H2 (ρ5 47) (tB 6 A B) := by rw [K5 47 (by decide) (by decide)]; exact T47x4
  have T48x5 : TV H2 (ρ5 48) (tB 5 B C) := by rw [K5 48 (by decide) (by decide)]; exact T48x4
  refine W_sq ?_
  refine R_st1 (rule := 1) S5 (by decide) (by decide) T10x5 (by first | assumption | exact bfB) rfl (by decide) (by decide) (by first | omega | (simp only [List.length_append, List.length_cons, List.length_nil]; omega)) (fun ρ6 w6 S6 K6 => ?_)
  have le6 := HLe.refl H2
  have T8x6 : TV H2 (ρ6 8) A := by rw [K6 8 (by decide) (by decide)]; exact T8x5
  have T10x6 : TV H2 (ρ6 10) B := by rw [K6 10 (by decide) (by decide)]; exact T10x5
  have T12x6 : TV H2 (ρ6 12) C := by rw [K6 12 (by decide) (by decide)]; exact T12x5
  have T47x6 : TV H2 (ρ6 47) (tB 6 A B) := by rw [K6 47 (by decide) (by decide)]; exact T47x5
  have T48x6 : TV H2 (ρ6 48) (tB 5 B C) := by rw [K6 48 (by decide) (by decide)]; exact T48x5
  refine W_sq ?_
  refine R_st1 (rule := 5) S6 (by decide) (by decide) T48x6 (by first | assumption | exact bfB) rfl (by decide) (by decide) (by first | omega | (simp only [List.length_append, List.length_cons, List.length_nil]; omega)) (fun ρ7 w7 S7 K7 => ?_)
  have le7 := HLe.refl H2
  have T8x7 : TV H2 (ρ7 8) A := by rw [K7 8 (by decide) (by decide)]; exact T8x6
  have T10x7 : TV H2 (ρ7 10) B := by rw [K7 10 (by decide) (by decide)]; exact T10x6
  have T12x7 : TV H2 (ρ7 12) C := by rw [K7 12 (by decide) (by decide)]; exact T12x6
  have T47x7 : TV H2 (ρ7 47) (tB 6 A B) := by rw [K7 47 (by decide) (by decide)]; exact T47x6
  have T48x7 : TV H2 (ρ7 48) (tB 5 B C) := by rw [K7 48 (by decide) (by decide)]; exact T48x6
  refine R_v2 S7 (by decide) (by decide) (by decide) (by decide) T8x7 (by first | assumption | exact bfB) T47x7 (by first | assumption | exact bfB) T48x7 (by first | assumption | exact bfB) (by omega) (fun ρ8 w8 H8 x8 S8 hv8 K8 => ?_)
  refine h ρ8 w8 H8 [.pr A, .pr (tB 6 A B), .st B 9 [2, 1], .st B 1 [3], .st (tB 5 B C) 5 [4]] x8 (by first | exact S8 | (have S' := S8; simp only [List.append_assoc, List.cons_append, List.nil_append] at S'; exact S')) ?_
  rw [hv8]
  refine ⟨?_, noT_of rfl, by simp, rfl, ?_, ?_, by simp, fun q => acc8 (BF.tg (by first | assumption | exact bfB)) (BF.tg (by first | assumption | exact bfB)) (BF.tg (by first | assumption | exact bfB)) (BF.tg (by first | assumption | exact bfB)) _ _ _ _ _⟩
  · intro l hl
    simp only [List.mem_cons, List.not_mem_nil, or_false] at hl
    rcases hl with rfl | rfl | rfl | rfl | rfl
    all_goals first
      | trivial
      | assumption
      | exact ⟨by first | assumption | exact bfB, by decide, by decide, by decide, by decide, by decide⟩
  · intro t ht
    simp only [List.mem_cons, List.not_mem_nil, or_false] at ht; rcases ht with rfl | rfl <;> assumption
  · assumption
end Go.Proofs.YbzaawGreat
