/-  Bytes that are read; names of atoms.  -/
import Derived.Test.YbzaawGreatBytes
import Derived.Test.YbzaawGreatNdBase
import Derived.Test.YbzaawGreatCut
namespace Go.Wf
theorem tmN (a b : Nat) : ((a : Int)).tmod (b : Int) = ((a % b : Nat) : Int) := rfl
theorem tm2 (a : Nat) : ((a : Int)).tmod 2 = ((a % 2 : Nat) : Int) := rfl
theorem tm3 (a : Nat) : ((a : Int)).tmod 3 = ((a % 3 : Nat) : Int) := rfl
theorem tm4 (a : Nat) : ((a : Int)).tmod 4 = ((a % 4 : Nat) : Int) := rfl
theorem tm5 (a : Nat) : ((a : Int)).tmod 5 = ((a % 5 : Nat) : Int) := rfl
theorem tm6 (a : Nat) : ((a : Int)).tmod 6 = ((a % 6 : Nat) : Int) := rfl
theorem tm8 (a : Nat) : ((a : Int)).tmod 8 = ((a % 8 : Nat) : Int) := rfl
theorem tm9 (a : Nat) : ((a : Int)).tmod 9 = ((a % 9 : Nat) : Int) := rfl
theorem td2 (a : Nat) : ((a : Int)).tdiv 2 = ((a / 2 : Nat) : Int) := rfl
theorem td5 (a : Nat) : ((a : Int)).tdiv 5 = ((a / 5 : Nat) : Int) := rfl
theorem tv7 (j L : Nat) : ((j : Int) * 7 + 1).tmod (L : Int) = (((j * 7 + 1) % L : Nat) : Int) := rfl
theorem tv11 (j L : Nat) : ((j : Int) * 11 + 2).tmod (L : Int) = (((j * 11 + 2) % L : Nat) : Int) := rfl
theorem tv13 (j L : Nat) : ((j : Int) * 13 + 3).tmod (L : Int) = (((j * 13 + 3) % L : Nat) : Int) := rfl
end Go.Wf
namespace Go.Proofs.YbzaawGreat
open Go.Wf
set_option linter.unusedSimpArgs false
set_option linter.unusedVariables false

/-- The slice reads, in H, as these bytes. -/
structure BcH (H : Heap) (a : Option Addr) (n : Nat) (l : List UInt8) : Prop where
  len : n = l.length
  sl : SlH H 1 a n (bc l)
theorem BcH.mono {H H' : Heap} {a : Option Addr} {n : Nat} {l : List UInt8} (h : BcH H a n l) (hl : HLe H H') : BcH H' a n l := ⟨h.len, h.sl.mono hl⟩
def byAt (l : List UInt8) (i : Nat) : Nat := (l.getD i 0).toNat
theorem byAt_lt (l : List UInt8) (i : Nat) : byAt l i < 256 := UInt8.toNat_lt _
theorem BcH.at_ {H : Heap} {a : Option Addr} {n : Nat} {l : List UInt8} (h : BcH H a n l) (i : Nat) (hi : i < n) : H (ablk a) (aoff a + i) = some (.int .u8 (byAt l i)) := by
  refine h.sl.cell _ _ ?_
  have : i < l.length := by rw [← h.len]; exact hi
  simp [bc, byAt, List.getD, this]
-- spec.atomName
theorem atomName_ok (b : Nat) (w : World) (R : Value → World → Prop) (h : ∀ s : ByteArray, s.size ≤ 16 → R (.string s) w) : CallsV Yaao.prog 53 #[.int .i64 b] w R := by
  refine ent53 (by simp) ?_
  repeat' (first | refine W_seq (fun K hK => ?_) | refine W_block ?_ | refine W_skip ?_ | refine W_exit ?_ | refine W_ret ?_ | refine W_region ?_ | simp (disch := first | (simp only [undef, want_some, upd_app, List.getElem?_cons_succ, List.getElem?_cons_zero, Option.join_some, e_bt, e_bf, Nat.reduceEqDiff, ↓reduceIte, Bool.not_true, Bool.not_false, ne_eq, not_false_eq_true]; done) | ((with_reducible refine pkE ?_); with_unfolding_all rfl) | ((with_reducible refine cszE ?_); with_unfolding_all rfl) | ((with_reducible refine isQE ?_); with_unfolding_all rfl) | assumption | omega) only [Nat.reduceEqDiff, b_exit, b_exitN, b_normal, b_ret, ev_const, ev_tmp, fe_eql, fe_rem, fo_assign, fo_bin, fo_move, init1, init2a, init2b, init3a, init3b, init3c, put_some, r_value, s_nil, s_none, t_exit, t_normal, t_ret, upd_app, ↓reduceIte, tm8] | (refine W_cond rfl (fun hc => ?_) (fun hc => ?_) <;> (try simp only [decide_eq_true_eq, decide_eq_false_iff_not, Bool.not_eq_true', Bool.not_eq_false', Int.not_lt, Int.not_le, Decidable.not_not] at hc) <;> (try contradiction) <;> (try (exfalso; omega))) | (refine G_split rfl rfl (fun hc => ?_) (fun hc => ?_) <;> (try simp only [decide_eq_true_eq, decide_eq_false_iff_not, Bool.not_eq_true', Bool.not_eq_false', Int.not_lt, Int.not_le, Decidable.not_not] at hc) <;> (try contradiction) <;> (try (exfalso; omega))) | (with_reducible (refine hK _ _ ?_); clear hK K) | go_step)
  all_goals
    refine ret1 rfl ?_; simp (disch := first | (simp only [undef, want_some, upd_app, List.getElem?_cons_succ, List.getElem?_cons_zero, Option.join_some, e_bt, e_bf, Nat.reduceEqDiff, ↓reduceIte, Bool.not_true, Bool.not_false, ne_eq, not_false_eq_true]; done) | ((with_reducible refine pkE ?_); with_unfolding_all rfl) | ((with_reducible refine cszE ?_); with_unfolding_all rfl) | ((with_reducible refine isQE ?_); with_unfolding_all rfl) | assumption | omega) only [Nat.reduceEqDiff, b_exit, b_exitN, b_normal, b_ret, ev_const, ev_tmp, fe_eql, fe_rem, fo_assign, fo_bin, fo_move, init1, init2a, init2b, init3a, init3b, init3c, put_some, r_value, s_nil, s_none, t_exit, t_normal, t_ret, upd_app, ↓reduceIte]
    exact h _ (by decide)
end Go.Proofs.YbzaawGreat
