/-  How many references a rule wants.  -/
import Derived.Test.YbzaawGreatChars
import Derived.Test.YbzaawGreatNdBase
namespace Go.Proofs.YbzaawGreat
open Go.Wf
set_option linter.unusedSimpArgs false
set_option linter.unusedVariables false

/-- The number of references fits the rule. -/
def fitsF (c n : Int) : Bool :=
  if 1 ≤ c ∧ c ≤ 17 then (if c = 17 then decide (1 ≤ n) else if c = 7 then decide (n = 3) else if c = 2 ∨ c = 9 ∨ c = 11 ∨ c = 14 ∨ c = 15 ∨ c = 16 then decide (n = 2) else decide (n = 1)) else false
-- impl.fits
set_option maxRecDepth 20000 in
theorem fits_ok (c n : Int) (w : World) (R : Value → World → Prop) (h : R (.bool (fitsF c n)) w) : CallsV Yaao.prog 70 #[.int .i64 c, .int .i64 n] w R := by
  refine ent70 (by simp) ?_
  repeat' (first | refine W_seq (fun K hK => ?_) | refine W_block ?_ | refine W_skip ?_ | refine W_exit ?_ | refine W_ret ?_ | refine W_region ?_ | simp (disch := first | (simp only [undef, want_some, upd_app, List.getElem?_cons_succ, List.getElem?_cons_zero, Option.join_some, e_bt, e_bf, Nat.reduceEqDiff, ↓reduceIte, Bool.not_true, Bool.not_false, ne_eq, not_false_eq_true]; done) | ((with_reducible refine pkE ?_); with_unfolding_all rfl) | ((with_reducible refine cszE ?_); with_unfolding_all rfl) | ((with_reducible refine isQE ?_); with_unfolding_all rfl) | assumption | omega) only [Nat.reduceEqDiff, b_exit, b_exitN, b_normal, b_ret, ev_const, ev_tmp, fe_eql, fe_geq, fo_assign, fo_bin, fo_move, init1, init2a, init2b, init3a, init3b, init3c, put_some, r_value, s_nil, s_none, t_exit, t_normal, t_ret, upd_app, ↓reduceIte] | (refine W_cond rfl (fun hc => ?_) (fun hc => ?_) <;> (try simp only [decide_eq_true_eq, decide_eq_false_iff_not, Bool.not_eq_true', Bool.not_eq_false', Int.not_lt, Int.not_le, Decidable.not_not] at hc) <;> (try contradiction) <;> (try (exfalso; omega))) | (refine G_split rfl rfl (fun hc => ?_) (fun hc => ?_) <;> (try simp only [decide_eq_true_eq, decide_eq_false_iff_not, Bool.not_eq_true', Bool.not_eq_false', Int.not_lt, Int.not_le, Decidable.not_not] at hc) <;> (try contradiction) <;> (try (exfalso; omega))) | (with_reducible (refine hK _ _ ?_); clear hK K) | go_step)
  all_goals
    refine ret1 rfl ?_; simp (disch := first | (simp only [undef, want_some, upd_app, List.getElem?_cons_succ, List.getElem?_cons_zero, Option.join_some, e_bt, e_bf, Nat.reduceEqDiff, ↓reduceIte, Bool.not_true, Bool.not_false, ne_eq, not_false_eq_true]; done) | ((with_reducible refine pkE ?_); with_unfolding_all rfl) | ((with_reducible refine cszE ?_); with_unfolding_all rfl) | ((with_reducible refine isQE ?_); with_unfolding_all rfl) | assumption | omega) only [Nat.reduceEqDiff, b_exit, b_exitN, b_normal, b_ret, ev_const, ev_tmp, fe_eql, fe_geq, fo_assign, fo_bin, fo_move, init1, init2a, init2b, init3a, init3b, init3c, put_some, r_value, s_nil, s_none, t_exit, t_normal, t_ret, upd_app, ↓reduceIte]
    refine rB h ?_
    unfold fitsF
    first
      | (rw [if_neg (by omega)]; done)
      | (rw [if_pos (by omega), if_pos (by omega)]; done)
      | (rw [if_pos (by omega), if_neg (by omega), if_pos (by omega)]; done)
      | (rw [if_pos (by omega), if_neg (by omega), if_neg (by omega), if_pos (by omega)]; done)
      | (rw [if_pos (by omega), if_neg (by omega), if_neg (by omega), if_neg (by omega)]; done)
-- spec.RuleArity
set_option maxRecDepth 20000 in
theorem ruleArity_ok (c : Int) (w : World) (R : Value → World → Prop) (h : R (.int .i64 (if c = 7 then 3 else if c = 2 ∨ c = 9 ∨ c = 11 ∨ c = 14 ∨ c = 15 ∨ c = 16 then 2 else 1)) w) : CallsV Yaao.prog 96 #[.int .i64 c] w R := by
  refine ent96 (by simp) ?_
  repeat' (first | refine W_seq (fun K hK => ?_) | refine W_block ?_ | refine W_skip ?_ | refine W_exit ?_ | refine W_ret ?_ | refine W_region ?_ | simp (disch := first | (simp only [undef, want_some, upd_app, List.getElem?_cons_succ, List.getElem?_cons_zero, Option.join_some, e_bt, e_bf, Nat.reduceEqDiff, ↓reduceIte, Bool.not_true, Bool.not_false, ne_eq, not_false_eq_true]; done) | ((with_reducible refine pkE ?_); with_unfolding_all rfl) | ((with_reducible refine cszE ?_); with_unfolding_all rfl) | ((with_reducible refine isQE ?_); with_unfolding_all rfl) | assumption | omega) only [Nat.reduceEqDiff, b_exit, b_exitN, b_normal, b_ret, ev_const, ev_tmp, fe_eql, fo_assign, fo_bin, fo_move, init1, init2a, init2b, init3a, init3b, init3c, put_some, r_value, s_nil, s_none, t_exit, t_normal, t_ret, upd_app, ↓reduceIte] | (refine W_cond rfl (fun hc => ?_) (fun hc => ?_) <;> (try simp only [decide_eq_true_eq, decide_eq_false_iff_not, Bool.not_eq_true', Bool.not_eq_false', Int.not_lt, Int.not_le, Decidable.not_not] at hc) <;> (try contradiction) <;> (try (exfalso; omega))) | (refine G_split rfl rfl (fun hc => ?_) (fun hc => ?_) <;> (try simp only [decide_eq_true_eq, decide_eq_false_iff_not, Bool.not_eq_true', Bool.not_eq_false', Int.not_lt, Int.not_le, Decidable.not_not] at hc) <;> (try contradiction) <;> (try (exfalso; omega))) | (with_reducible (refine hK _ _ ?_); clear hK K) | go_step)
  all_goals
    refine ret1 rfl ?_; simp (disch := first | (simp only [undef, want_some, upd_app, List.getElem?_cons_succ, List.getElem?_cons_zero, Option.join_some, e_bt, e_bf, Nat.reduceEqDiff, ↓reduceIte, Bool.not_true, Bool.not_false, ne_eq, not_false_eq_true]; done) | ((with_reducible refine pkE ?_); with_unfolding_all rfl) | ((with_reducible refine cszE ?_); with_unfolding_all rfl) | ((with_reducible refine isQE ?_); with_unfolding_all rfl) | assumption | omega) only [Nat.reduceEqDiff, b_exit, b_exitN, b_normal, b_ret, ev_const, ev_tmp, fe_eql, fo_assign, fo_bin, fo_move, init1, init2a, init2b, init3a, init3b, init3c, put_some, r_value, s_nil, s_none, t_exit, t_normal, t_ret, upd_app, ↓reduceIte]
    refine rI h ?_
    first
      | (rw [if_pos (by omega)]; done)
      | (rw [if_neg (by omega), if_pos (by omega)]; done)
      | (rw [if_neg (by omega), if_neg (by omega)]; done)
-- spec.ArityFits
set_option maxRecDepth 20000 in
theorem arityFits_ok (c n : Int) (w : World) (R : Value → World → Prop) (h : R (.bool (fitsF c n)) w) : CallsV Yaao.prog 82 #[.int .i64 c, .int .i64 n] w R := by
  refine ent82 (by simp) ?_
  repeat' (first | refine W_seq (fun K hK => ?_) | refine W_block ?_ | refine W_skip ?_ | refine W_exit ?_ | refine W_ret ?_ | refine W_region ?_ | simp (disch := first | (simp only [undef, want_some, upd_app, List.getElem?_cons_succ, List.getElem?_cons_zero, Option.join_some, e_bt, e_bf, Nat.reduceEqDiff, ↓reduceIte, Bool.not_true, Bool.not_false, ne_eq, not_false_eq_true]; done) | ((with_reducible refine pkE ?_); with_unfolding_all rfl) | ((with_reducible refine cszE ?_); with_unfolding_all rfl) | ((with_reducible refine isQE ?_); with_unfolding_all rfl) | assumption | omega) only [Bool.false_eq_true, Bool.not_false, Bool.not_true, List.map_cons, List.map_nil, List.map_toArray, Nat.reduceEqDiff, b_exit, b_exitN, b_normal, b_ret, e_ifF, e_ifT, ev_const, ev_tmp, fe_eql, fe_geq, fe_gtr, fe_lss, fe_pick, fo_assign, fo_bin, fo_move, fo_pick, init1, init2a, init2b, init3a, init3b, init3c, o_call _ _ _ _ _ _ _ c96, put_some, r_enter, r_value, s_nil, s_none, s_someF, s_someT, t_exit, t_normal, t_ret, upd_app, ↓reduceIte] | refine ruleArity_ok _ _ _ ?_ | (refine W_cond rfl (fun hc => ?_) (fun hc => ?_) <;> (try simp only [decide_eq_true_eq, decide_eq_false_iff_not, Bool.not_eq_true', Bool.not_eq_false', Int.not_lt, Int.not_le, Decidable.not_not] at hc) <;> (try contradiction) <;> (try (exfalso; omega))) | (refine G_split rfl rfl (fun hc => ?_) (fun hc => ?_) <;> (try simp only [decide_eq_true_eq, decide_eq_false_iff_not, Bool.not_eq_true', Bool.not_eq_false', Int.not_lt, Int.not_le, Decidable.not_not] at hc) <;> (try contradiction) <;> (try (exfalso; omega))) | (with_reducible (refine hK _ _ ?_); clear hK K) | go_step)
  all_goals
    refine ret1 rfl ?_; simp (disch := first | (simp only [undef, want_some, upd_app, List.getElem?_cons_succ, List.getElem?_cons_zero, Option.join_some, e_bt, e_bf, Nat.reduceEqDiff, ↓reduceIte, Bool.not_true, Bool.not_false, ne_eq, not_false_eq_true]; done) | ((with_reducible refine pkE ?_); with_unfolding_all rfl) | ((with_reducible refine cszE ?_); with_unfolding_all rfl) | ((with_reducible refine isQE ?_); with_unfolding_all rfl) | assumption | omega) only [Bool.false_eq_true, Bool.not_false, Bool.not_true, List.map_cons, List.map_nil, List.map_toArray, Nat.reduceEqDiff, b_exit, b_exitN, b_normal, b_ret, e_ifF, e_ifT, ev_const, ev_tmp, fe_eql, fe_geq, fe_gtr, fe_lss, fe_pick, fo_assign, fo_bin, fo_move, fo_pick, init1, init2a, init2b, init3a, init3b, init3c, o_call _ _ _ _ _ _ _ c96, put_some, r_enter, r_value, s_nil, s_none, s_someF, s_someT, t_exit, t_normal, t_ret, upd_app, ↓reduceIte]
    refine rB h ?_
    unfold fitsF
    first
      | (rw [if_neg (by omega)]; done)
      | (rw [if_pos (by omega), if_pos (by omega)]; done)
      | (have h1 : 1 ≤ c ∧ c ≤ 17 := by omega
         have h17 : ¬ c = 17 := by omega
         by_cases h7 : c = 7
         · simp [h7]
         · by_cases h2 : c = 2 ∨ c = 9 ∨ c = 11 ∨ c = 14 ∨ c = 15 ∨ c = 16
           · simp [h1, h17, h7, h2]
           · simp [h1, h17, h7, h2])
end Go.Proofs.YbzaawGreat
