/-  Substitution and truth: the plain law; the two substitutions with one answer.  -/
import Derived.Test.YbzaawSubstW
import Derived.Test.YbzaawSubstM
import Derived.Test.YbzaawTruth
import Derived.Test.YbzaawAns
namespace Go.Proofs.Ybzaaw
open Go.Wf Go.Deep
set_option linter.unusedSimpArgs false
set_option linter.unusedVariables false

theorem lookB_cons (x : ByteArray) (b : Bool) (ss : List ByteArray) (vs : List Bool) (y : ByteArray) : ∀ n i, lookB (x :: ss) (b :: vs) y n (i + 1) = lookB ss vs y n i
  | 0, _ => rfl
  | n + 1, i => by
    simp only [lookB, List.getD_cons_succ]
    rw [lookB_cons x b ss vs y n (i + 1)]
theorem valB_cons (x : ByteArray) (b : Bool) (ss : List ByteArray) (vs : List Bool) (y : ByteArray) : valB (x :: ss) (b :: vs) y = if x = y then b else valB ss vs y := by
  unfold valB
  simp only [List.length_cons, lookB, List.getD_cons_zero]
  rw [lookB_cons]
theorem look_one (x : ByteArray) (fa : Option Addr) (fc : Nat) (g : FT) (s : ByteArray) : lookF [⟨x, fa, fc, g⟩] s = if x = s then g else tA s := by
  by_cases h : x = s
  · simp [lookF, bidx, h]
  · simp [lookF, bidx, h]
theorem eval_subst {V : ByteArray → Prop} (x : ByteArray) (fa : Option Addr) (fc : Nat) (g : FT) (ss : List ByteArray) (vs : List Bool) {t : FT} (h : Shape V t) : evalF ss vs (substF [⟨x, fa, fc, g⟩] t) = evalF (x :: ss) (evalF ss vs g :: vs) t := by
  refine Shape.ind (P := fun t => evalF ss vs (substF [⟨x, fa, fc, g⟩] t) = evalF (x :: ss) (evalF ss vs g :: vs) t) ?_ ?_ ?_ ?_ t h
  · intro s _
    rw [su_A, look_one, ev_A, valB_cons]
    split
    · rfl
    · rw [ev_A]
  · rfl
  · intro t _ ih; rw [su_N, ev_N, ev_N, ih]
  · intro op l r h4 h7 _ _ ihl ihr; rw [su_B _ h4, ev_B _ _ h4, ev_B _ _ h4, ihl, ihr]
theorem substF_shapeV {V : ByteArray → Prop} {bs : List BdA} (hb : ∀ b ∈ bs, Shape V b.g) {t : FT} (h : Shape V t) : Shape V (substF bs t) := by
  refine Shape.ind (P := fun t => Shape V (substF bs t)) ?_ ?_ ?_ ?_ t h
  · intro s hs
    rw [su_A]
    unfold lookF
    split
    · rename_i h; exact hb _ (bd_mem h)
    · exact shA hs
  · exact shB0
  · intro t _ ih; rw [su_N]; exact shN ih
  · intro op l r h4 h7 _ _ ihl ihr; rw [su_B _ h4]; exact shB h4 h7 ihl ihr
/-- What both substitutions answer. -/
def subXs (bs : List BdA) (t : FT) : List Nd := if tsize (substF bs t) ≤ 1000000 then lay 0 (substF bs t) else []
theorem subXs_len (bs : List BdA) (t : FT) : (subXs bs t).length ≤ 1000000 := by
  unfold subXs
  split
  · rw [lay_len]; assumption
  · simp
theorem subXs_small {bs : List BdA} {B : Nat} (hb : ∀ b ∈ bs, Shape (fun s => s.size ≤ B) b.g) {t : FT} (h : Shape (fun s => s.size ≤ B) t) (i : Nat) : ((subXs bs t).getD i nd0).name.size ≤ B := by
  unfold subXs
  split
  · exact lay_small (substF_shapeV hb h) (fun _ e => e) 0 i
  · exact Nat.zero_le _
theorem subXs_wf {bs : List BdA} (hb : ∀ b ∈ bs, BdOk b) {t : FT} (h : Shape okName t) {u : FT} : WF (subXs bs t) u ↔ u = substF bs t ∧ thgt (substF bs t) ≤ 500 ∧ tsize (substF bs t) ≤ 1000000 := by
  have hs := substF_shape hb h
  unfold subXs
  split
  · constructor
    · intro hw
      obtain rfl := WF.inj hs hw
      exact ⟨rfl, hw.hgt, by assumption⟩
    · rintro ⟨rfl, h5, _⟩
      exact WF.of_lay hs h5
  · constructor
    · intro hw; have := hw.pos; simp at this
    · rintro ⟨_, _, h6⟩; omega
theorem subst_ok2 {H : Heap} {w : World} (hH : HS H w) {a ba : Option Addr} {n c bn bc : Nat} {xs : List Nd} {t : FT} {bs : List BdA} (tA : NdH H a n xs) (tB : BsH H ba bn bs) (hw : WF xs t) (hn : n ≤ 1048576) (hnm : ∀ i, (xs.getD i nd0).name.size ≤ 9223372036854775807) (hb : BsOk bs) (hbn : bn ≤ 100000000) (R : Value → World → Prop)
    (h : ∀ w' a' m' c', GotNds 80 w w' a' m' c' (subXs bs t) → R (.slice a' m' c') w') : CallsV Yaao.prog 33 #[.slice a n c, .slice ba bn bc] w R :=
  subst_ok hH tA tB hw hn hnm hb hbn R (fun hlt w' hf => h w' none 0 0 (by unfold subXs; rw [if_neg (by omega)]; exact GotNds.nil _ hf)) (fun hle w' a' m' c' g => h w' a' m' c' (by unfold subXs; rw [if_pos hle]; exact g))
theorem msubst_ok2 {H : Heap} {w : World} (hH : HS H w) {a ba : Option Addr} {n c bn bc : Nat} {xs : List Nd} {t : FT} {bs : List BdA} (tA : NdH H a n xs) (tB : BsH H ba bn bs) (hw : WF xs t) (hn : n ≤ 1048576) (hnm : ∀ i, (xs.getD i nd0).name.size ≤ 9223372036854775807) (hb : BsOk bs) (hbn : bn ≤ 100000000) (hbd : tsize (substF bs t) ≤ 1000000000000) (R : Value → World → Prop)
    (h : ∀ w' a' m' c', GotNds 80 w w' a' m' c' (subXs bs t) → R (.slice a' m' c') w') : CallsV Yaao.prog 34 #[.slice a n c, .slice ba bn bc] w R :=
  msubst_ok hH tA tB hw hn hnm hb hbn hbd R (fun hlt w' hf => h w' none 0 0 (by unfold subXs; rw [if_neg (by omega)]; exact GotNds.nil _ hf)) (fun hle w' a' m' c' g => h w' a' m' c' (by unfold subXs; rw [if_pos hle]; exact g))
theorem sub_bound {bs : List BdA} {B : Nat} (hB : 1 ≤ B) (hb : ∀ b ∈ bs, tsize b.g ≤ B) {V : ByteArray → Prop} {t : FT} (h : Shape V t) : tsize (substF bs t) ≤ B * tsize t := by
  refine Shape.ind (P := fun t => tsize (substF bs t) ≤ B * tsize t) ?_ ?_ ?_ ?_ t h
  · intro s _
    rw [su_A, sz_A]
    unfold lookF
    split
    · rename_i h; have := hb _ (bd_mem h); omega
    · rw [sz_A]; omega
  · rw [su_B0, sz_B0]; omega
  · intro t _ ih; rw [su_N, sz_N, sz_N, Nat.mul_add]; omega
  · intro op l r h4 h7 _ _ ihl ihr; rw [su_B _ h4, sz_B, sz_B, Nat.mul_add, Nat.mul_add]; omega
end Go.Proofs.Ybzaaw
