/-  'spec.DecodeNodes': nodes from bytes; what the walk keeps is only that names are short and the list is not too long.  -/
import Derived.Test.YbzaawBytes
import Derived.Test.YbzaawNdBase
import Derived.Test.YbzaawData
namespace Go.Wf
theorem fe_slA {P : Program} {T n : Nat} (h6 : kindT P T = 6) (hi : infoT P (elT P T) = true) (hs : szT P (elT P T) = n) (a : Option Addr) (len c : Nat) (k : Int) (h0 : 0 ≤ k) (h1 : k ≤ c) :
    rSl P T (.slice a len c) none (some (.int .i64 k)) none = Result.ok (.value (.slice a k.toNat c)) := by
  funext w
  have hu := (kind_int (P := P) (T := T)).2.2.2.2 h6
  have e1 : 0 ≤ k ∧ k ≤ (c : Int) := ⟨h0, h1⟩
  have e2 : a.map (fun x => x.add 0) = a := by cases a <;> simp [Addr.add]
  simp [rSl, Instr.sliceAt, Instr.slice, run_underlying hu, Instr.sliceBounds, Instr.sliceBound, asIntOf, e1, run_sizeOf hi, hs, e2]
theorem Own.cut {w : World} {E sz n c : Nat} {a : Option Addr} {xs : List Value} (h : Own w E sz a n c xs) (k : Nat) (hk : k ≤ n) : Own w E sz a k c (xs.take (k * sz)) := by
  obtain ⟨hl, hf⟩ := h.form
  have hkn : k * sz ≤ n * sz := Nat.mul_le_mul_right _ hk
  rcases hf with ⟨rfl, rfl, rfl⟩ | ⟨g, cur, rfl, h1, h2, h3, h4, h5⟩
  · have : k = 0 := by omega
    subst this
    have : xs = [] := List.eq_nil_of_length_eq_zero (by simpa using hl)
    subst this
    simpa using Own.nil w E sz
  · refine Own.mk' (by rw [List.length_take]; omega) h1 (by omega) h3 h4 ?_
    rw [← h5, List.take_take, Nat.min_eq_left hkn]
theorem Own.cap {w : World} {E sz n c : Nat} {a : Option Addr} {xs : List Value} (h : Own w E sz a n c xs) : n ≤ c := by
  rcases h.form.2 with ⟨_, rfl, rfl⟩ | ⟨_, _, _, _, h, _⟩
  · exact Nat.le_refl _
  · exact h
theorem tmN (a b : Nat) : ((a : Int)).tmod (b : Int) = ((a % b : Nat) : Int) := rfl
theorem tm2 (a : Nat) : ((a : Int)).tmod 2 = ((a % 2 : Nat) : Int) := rfl
theorem tm3 (a : Nat) : ((a : Int)).tmod 3 = ((a % 3 : Nat) : Int) := rfl
theorem tm4 (a : Nat) : ((a : Int)).tmod 4 = ((a % 4 : Nat) : Int) := rfl
theorem tm5 (a : Nat) : ((a : Int)).tmod 5 = ((a % 5 : Nat) : Int) := rfl
theorem tm6 (a : Nat) : ((a : Int)).tmod 6 = ((a % 6 : Nat) : Int) := rfl
theorem tm8 (a : Nat) : ((a : Int)).tmod 8 = ((a % 8 : Nat) : Int) := rfl
theorem tm9 (a : Nat) : ((a : Int)).tmod 9 = ((a % 9 : Nat) : Int) := rfl
theorem td2 (a : Nat) : ((a : Int)).tdiv 2 = ((a / 2 : Nat) : Int) := rfl
theorem td5 (a : Nat) : ((a : Int)).tdiv 5 = ((a / 5 : Nat) : Int) := rfl
theorem tv7 (j L : Nat) : ((j : Int) * 7 + 1).tmod (L : Int) = (((j * 7 + 1) % L : Nat) : Int) := rfl
theorem tv11 (j L : Nat) : ((j : Int) * 11 + 2).tmod (L : Int) = (((j * 11 + 2) % L : Nat) : Int) := rfl
theorem tv13 (j L : Nat) : ((j : Int) * 13 + 3).tmod (L : Int) = (((j * 13 + 3) % L : Nat) : Int) := rfl
end Go.Wf
namespace Go.Proofs.Ybzaaw
open Go.Wf
set_option linter.unusedSimpArgs false
set_option linter.unusedVariables false

/-- The slice reads, in H, as these bytes. -/
structure BcH (H : Heap) (a : Option Addr) (n : Nat) (l : List UInt8) : Prop where
  len : n = l.length
  sl : SlH H 1 a n (bc l)
theorem BcH.mono {H H' : Heap} {a : Option Addr} {n : Nat} {l : List UInt8} (h : BcH H a n l) (hl : HLe H H') : BcH H' a n l := ⟨h.len, h.sl.mono hl⟩
def byAt (l : List UInt8) (i : Nat) : Nat := (l.getD i 0).toNat
theorem byAt_lt (l : List UInt8) (i : Nat) : byAt l i < 256 := UInt8.toNat_lt _
theorem BcH.at_ {H : Heap} {a : Option Addr} {n : Nat} {l : List UInt8} (h : BcH H a n l) (i : Nat) (hi : i < n) : H (ablk a) (aoff a + i) = some (.int .u8 (byAt l i)) := by
  refine h.sl.cell _ _ ?_
  have : i < l.length := by rw [← h.len]; exact hi
  simp [bc, byAt, List.getD, this]
-- spec.atomName
theorem atomName_ok (b : Nat) (w : World) (R : Value → World → Prop) (h : ∀ s : ByteArray, s.size ≤ 16 → R (.string s) w) : CallsV Yaao.prog 63 #[.int .i64 b] w R := by
  refine ent63 (by simp) ?_
  repeat' (first | refine W_seq (fun K hK => ?_) | refine W_block ?_ | refine W_skip ?_ | refine W_exit ?_ | refine W_ret ?_ | refine W_region ?_ | simp (disch := first | (simp only [undef, want_some, upd_app, List.getElem?_cons_succ, List.getElem?_cons_zero, Option.join_some, e_bt, e_bf, Nat.reduceEqDiff, ↓reduceIte, Bool.not_true, Bool.not_false, ne_eq, not_false_eq_true]; done) | ((with_reducible refine pkE ?_); with_unfolding_all rfl) | ((with_reducible refine cszE ?_); with_unfolding_all rfl) | ((with_reducible refine isQE ?_); with_unfolding_all rfl) | assumption | omega) only [Nat.reduceEqDiff, b_exit, b_exitN, b_normal, b_ret, ev_const, ev_tmp, fe_eql, fe_rem, fo_assign, fo_bin, fo_move, init1, init2a, init2b, init3a, init3b, init3c, put_some, r_value, s_nil, s_none, t_exit, t_normal, t_ret, upd_app, ↓reduceIte, tm8] | (refine W_cond rfl (fun hc => ?_) (fun hc => ?_) <;> (try simp only [decide_eq_true_eq, decide_eq_false_iff_not, Bool.not_eq_true', Bool.not_eq_false', Int.not_lt, Int.not_le, Decidable.not_not] at hc) <;> (try contradiction) <;> (try (exfalso; omega))) | (refine G_split rfl rfl (fun hc => ?_) (fun hc => ?_) <;> (try simp only [decide_eq_true_eq, decide_eq_false_iff_not, Bool.not_eq_true', Bool.not_eq_false', Int.not_lt, Int.not_le, Decidable.not_not] at hc) <;> (try contradiction) <;> (try (exfalso; omega))) | (with_reducible (refine hK _ _ ?_); clear hK K) | go_step)
  all_goals
    refine ret1 rfl ?_; simp (disch := first | (simp only [undef, want_some, upd_app, List.getElem?_cons_succ, List.getElem?_cons_zero, Option.join_some, e_bt, e_bf, Nat.reduceEqDiff, ↓reduceIte, Bool.not_true, Bool.not_false, ne_eq, not_false_eq_true]; done) | ((with_reducible refine pkE ?_); with_unfolding_all rfl) | ((with_reducible refine cszE ?_); with_unfolding_all rfl) | ((with_reducible refine isQE ?_); with_unfolding_all rfl) | assumption | omega) only [Nat.reduceEqDiff, b_exit, b_exitN, b_normal, b_ret, ev_const, ev_tmp, fe_eql, fe_rem, fo_assign, fo_bin, fo_move, init1, init2a, init2b, init3a, init3b, init3c, put_some, r_value, s_nil, s_none, t_exit, t_normal, t_ret, upd_app, ↓reduceIte]
    exact h _ (by decide)
-- spec.wildName
theorem wildName_ok (b : Nat) (w : World) (R : Value → World → Prop) (h : ∀ s : ByteArray, s.size ≤ 16 → R (.string s) w) : CallsV Yaao.prog 64 #[.int .i64 b] w R := by
  refine ent64 (by simp) ?_
  repeat' (first | refine W_seq (fun K hK => ?_) | refine W_block ?_ | refine W_skip ?_ | refine W_exit ?_ | refine W_ret ?_ | refine W_region ?_ | simp (disch := first | (simp only [undef, want_some, upd_app, List.getElem?_cons_succ, List.getElem?_cons_zero, Option.join_some, e_bt, e_bf, Nat.reduceEqDiff, ↓reduceIte, Bool.not_true, Bool.not_false, ne_eq, not_false_eq_true]; done) | ((with_reducible refine pkE ?_); with_unfolding_all rfl) | ((with_reducible refine cszE ?_); with_unfolding_all rfl) | ((with_reducible refine isQE ?_); with_unfolding_all rfl) | assumption | omega) only [Nat.reduceEqDiff, b_exit, b_exitN, b_normal, b_ret, ev_const, ev_tmp, fe_eql, fe_rem, fo_assign, fo_bin, fo_move, init1, init2a, init2b, init3a, init3b, init3c, put_some, r_value, s_nil, s_none, t_exit, t_normal, t_ret, upd_app, ↓reduceIte, tm8] | (refine W_cond rfl (fun hc => ?_) (fun hc => ?_) <;> (try simp only [decide_eq_true_eq, decide_eq_false_iff_not, Bool.not_eq_true', Bool.not_eq_false', Int.not_lt, Int.not_le, Decidable.not_not] at hc) <;> (try contradiction) <;> (try (exfalso; omega))) | (refine G_split rfl rfl (fun hc => ?_) (fun hc => ?_) <;> (try simp only [decide_eq_true_eq, decide_eq_false_iff_not, Bool.not_eq_true', Bool.not_eq_false', Int.not_lt, Int.not_le, Decidable.not_not] at hc) <;> (try contradiction) <;> (try (exfalso; omega))) | (with_reducible (refine hK _ _ ?_); clear hK K) | go_step)
  all_goals
    refine ret1 rfl ?_; simp (disch := first | (simp only [undef, want_some, upd_app, List.getElem?_cons_succ, List.getElem?_cons_zero, Option.join_some, e_bt, e_bf, Nat.reduceEqDiff, ↓reduceIte, Bool.not_true, Bool.not_false, ne_eq, not_false_eq_true]; done) | ((with_reducible refine pkE ?_); with_unfolding_all rfl) | ((with_reducible refine cszE ?_); with_unfolding_all rfl) | ((with_reducible refine isQE ?_); with_unfolding_all rfl) | assumption | omega) only [Nat.reduceEqDiff, b_exit, b_exitN, b_normal, b_ret, ev_const, ev_tmp, fe_eql, fe_rem, fo_assign, fo_bin, fo_move, init1, init2a, init2b, init3a, init3b, init3c, put_some, r_value, s_nil, s_none, t_exit, t_normal, t_ret, upd_app, ↓reduceIte]
    exact h _ (by decide)
-- spec.wildInt
theorem wildInt_ok (b n : Nat) (w : World) (R : Value → World → Prop) (h : ∀ z : Int, R (.int .i64 z) w) : CallsV Yaao.prog 65 #[.int .i64 b, .int .i64 n] w R := by
  refine ent65 (by simp) ?_
  repeat' (first | refine W_seq (fun K hK => ?_) | refine W_block ?_ | refine W_skip ?_ | refine W_exit ?_ | refine W_ret ?_ | refine W_region ?_ | simp (disch := first | (simp only [undef, want_some, upd_app, List.getElem?_cons_succ, List.getElem?_cons_zero, Option.join_some, e_bt, e_bf, Nat.reduceEqDiff, ↓reduceIte, Bool.not_true, Bool.not_false, ne_eq, not_false_eq_true]; done) | ((with_reducible refine pkE ?_); with_unfolding_all rfl) | ((with_reducible refine cszE ?_); with_unfolding_all rfl) | ((with_reducible refine isQE ?_); with_unfolding_all rfl) | assumption | omega) only [Nat.reduceEqDiff, b_exit, b_exitN, b_normal, b_ret, ev_const, ev_tmp, fe_add, fe_eql, fe_rem, fe_sub, fo_assign, fo_bin, fo_move, init1, init2a, init2b, init3a, init3b, init3c, put_some, r_value, s_nil, s_none, t_exit, t_normal, t_ret, upd_app, wrapS, ↓reduceIte, tm8] | (refine W_cond rfl (fun hc => ?_) (fun hc => ?_) <;> (try simp only [decide_eq_true_eq, decide_eq_false_iff_not, Bool.not_eq_true', Bool.not_eq_false', Int.not_lt, Int.not_le, Decidable.not_not] at hc) <;> (try contradiction) <;> (try (exfalso; omega))) | (refine G_split rfl rfl (fun hc => ?_) (fun hc => ?_) <;> (try simp only [decide_eq_true_eq, decide_eq_false_iff_not, Bool.not_eq_true', Bool.not_eq_false', Int.not_lt, Int.not_le, Decidable.not_not] at hc) <;> (try contradiction) <;> (try (exfalso; omega))) | (with_reducible (refine hK _ _ ?_); clear hK K) | go_step)
  all_goals
    refine ret1 rfl ?_; simp (disch := first | (simp only [undef, want_some, upd_app, List.getElem?_cons_succ, List.getElem?_cons_zero, Option.join_some, e_bt, e_bf, Nat.reduceEqDiff, ↓reduceIte, Bool.not_true, Bool.not_false, ne_eq, not_false_eq_true]; done) | ((with_reducible refine pkE ?_); with_unfolding_all rfl) | ((with_reducible refine cszE ?_); with_unfolding_all rfl) | ((with_reducible refine isQE ?_); with_unfolding_all rfl) | assumption | omega) only [Nat.reduceEqDiff, b_exit, b_exitN, b_normal, b_ret, ev_const, ev_tmp, fe_add, fe_eql, fe_rem, fe_sub, fo_assign, fo_bin, fo_move, init1, init2a, init2b, init3a, init3b, init3c, put_some, r_value, s_nil, s_none, t_exit, t_normal, t_ret, upd_app, wrapS, ↓reduceIte]
    exact h _
end Go.Proofs.Ybzaaw
