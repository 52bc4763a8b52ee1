/-  impl.JudgeText and spec.ModelJudgeText.  -/
import Derived.Test.YbzaawGreatJudgeI
import Derived.Test.YbzaawGreatSJI
import Derived.Test.YbzaawGreatPText
import Derived.Test.YbzaawGreatMText
import Derived.Test.YbzaawGreatRawV
namespace Go.Proofs.YbzaawGreat
open Go.Wf Go.Deep
set_option linter.unusedSimpArgs false
set_option linter.unusedVariables false

/-- The names of these nodes are short. -/
def NmS (ts : List Nd) : Prop := ∀ i, (ts.getD i nd0).name.size ≤ 65536
theorem NmS.nil : NmS [] := fun i => by simp [nd0]
theorem NmS.take {ts : List Nd} (h : NmS ts) (m : Nat) : NmS (ts.take m) := fun i => by
  by_cases hi : i < m
  · have := h i
    rwa [show (ts.take m).getD i nd0 = ts.getD i nd0 by simp [List.getD, List.getElem?_take, hi]]
  · rw [show (ts.take m).getD i nd0 = nd0 by simp [List.getD, List.getElem?_take, hi]]
    simp [nd0]
theorem NmS.drop {ts : List Nd} (h : NmS ts) (m : Nat) : NmS (ts.drop m) := fun i => by
  have := h (m + i)
  rwa [show (ts.drop m).getD i nd0 = ts.getD (m + i) nd0 by simp [List.getD, List.getElem?_drop]]
theorem Ans.nm {ts zs : List Nd} {ok : Bool} (h : Ans ts zs ok) (hn : NmS ts) : NmS zs := by
  rcases h with ⟨_, t, ht, rfl⟩ | ⟨_, _, rfl⟩
  · exact fun i => lay_small (Reads.PA ht).shape (fun x ⟨j, hj⟩ => by rw [hj]; exact hn j) 0 i
  · exact NmS.nil
section
variable {P : PP} (hP : ∀ ts, Ans ts (P ts).1 (P ts).2)
include hP
theorem lineF_nm {ts : List Nd} (hn : NmS ts) : NmS (lineF P ts).f := by
  have h0 : NmS badL.f := NmS.nil
  unfold lineF
  split
  · exact h0
  · split
    · split
      · exact NmS.nil
      · exact h0
    · split
      · split
        · exact (hP (ts.drop 1)).nm (hn.drop 1)
        · exact h0
      · unfold stepF
        split
        · exact h0
        · unfold stepJ
          split
          · exact h0
          · split
            · exact h0
            · split
              · exact h0
              · split
                · exact (hP _).nm (hn.take _)
                · exact h0
theorem linesF_nm : ∀ (l : List ByteArray) (k : Nat), ∀ x ∈ linesF P l k, NmS x.f
  | [], _, x, hx => by simp [linesF] at hx
  | p :: r, k, x, hx => by
    unfold linesF at hx
    split at hx
    · exact linesF_nm r _ x hx
    · rcases List.mem_cons.1 hx with rfl | hx
      · exact lineF_nm hP (fun i => toksOf_text p i)
      · exact linesF_nm r _ x hx
theorem textF_sm (s : ByteArray) {xs : List LnA} (h : xs.map LnA.ln = textF P s) : LsSm xs := by
  intro x hx
  have hm : x.ln ∈ textF P s := by rw [← h]; exact List.mem_map_of_mem hx
  obtain ⟨h1, h2⟩ := textF_bd hP s x.ln hm
  refine ⟨by omega, by omega, fun i => ?_⟩
  have : NmS x.ln.f := by
    unfold textF at hm
    split at hm
    · cases hm
    · exact linesF_nm hP _ _ _ hm
  have := this i
  omega
end
theorem GotVs.base {w0 w w' : World} {a : Option Addr} {m c : Nat} {xs : List VdA} (g : GotVs w w' a m c xs) (hf : Fr noB w0 w) : GotVs w0 w' a m c xs :=
  ⟨g.len, hf.no g.fr, g.own, fun k e => Nat.le_trans hf.size (g.new k e), g.vds.low hf.size⟩
-- impl.JudgeText
set_option maxHeartbeats 2000000 in
set_option maxRecDepth 20000 in
theorem judgeText_ok (s : ByteArray) {P : PP} (hP : ∀ ts, Ans ts (P ts).1 (P ts).2) {H : Heap} {w : World} (hH : HS H w) (R : Value → World → Prop)
    (h : ∀ w' a m c xs, xs.map VdA.v = judgeF (textF P s) → GotVs w w' a m c xs → R (.slice a m c) w') : CallsV Yaao.prog 5 #[.string s] w R := by
  refine ent5 (by simp) ?_
  repeat' (first | refine W_seq (fun K hK => ?_) | refine W_block ?_ | refine W_skip ?_ | refine W_exit ?_ | refine W_ret ?_ | refine W_region ?_ | simp (disch := first | (simp only [undef, want_some, upd_app, List.getElem?_cons_succ, List.getElem?_cons_zero, Option.join_some, e_bt, e_bf, Nat.reduceEqDiff, ↓reduceIte, Bool.not_true, Bool.not_false, ne_eq, not_false_eq_true]; done) | ((with_reducible refine pkE ?_); with_unfolding_all rfl) | ((with_reducible refine cszE ?_); with_unfolding_all rfl) | ((with_reducible refine isQE ?_); with_unfolding_all rfl) | assumption | omega) only [List.map_cons, List.map_nil, List.map_toArray, Nat.reduceEqDiff, b_exit, b_exitN, b_normal, b_ret, ev_const, ev_tmp, fo_assign, fo_move, init1, init2a, init2b, init3a, init3b, init3c, o_call _ _ _ _ _ _ _ c15, o_call _ _ _ _ _ _ _ c16, put_some, r_enter, r_value, s_nil, s_none, t_exit, t_normal, t_ret, upd_app, ↓reduceIte] | refine ptext_ok s hP _ _ (fun w2 a2 n2 c2 xs2 hx2 g2 => ?_) | (refine W_cond rfl (fun hc => ?_) (fun hc => ?_) <;> (try simp only [decide_eq_true_eq, decide_eq_false_iff_not, Bool.not_eq_true', Bool.not_eq_false', Int.not_lt, Int.not_le, Decidable.not_not] at hc) <;> (try contradiction) <;> (try (exfalso; omega))) | (refine G_split rfl rfl (fun hc => ?_) (fun hc => ?_) <;> (try simp only [decide_eq_true_eq, decide_eq_false_iff_not, Bool.not_eq_true', Bool.not_eq_false', Int.not_lt, Int.not_le, Decidable.not_not] at hc) <;> (try contradiction) <;> (try (exfalso; omega))) | (with_reducible (refine hK _ _ ?_); clear hK K) | go_step)
  obtain ⟨H2, l2, hH2, tL⟩ := g2.keep (by decide) (by decide) (by decide) hH
  have hl2 := g2.len
  have hlen : n2 ≤ 1048576 := by
    have h1 := textF_len P s
    rw [← hx2, List.length_map] at h1
    omega
  repeat' (first | refine W_seq (fun K hK => ?_) | refine W_block ?_ | refine W_skip ?_ | refine W_exit ?_ | refine W_ret ?_ | refine W_region ?_ | simp (disch := first | (simp only [undef, want_some, upd_app, List.getElem?_cons_succ, List.getElem?_cons_zero, Option.join_some, e_bt, e_bf, Nat.reduceEqDiff, ↓reduceIte, Bool.not_true, Bool.not_false, ne_eq, not_false_eq_true]; done) | ((with_reducible refine pkE ?_); with_unfolding_all rfl) | ((with_reducible refine cszE ?_); with_unfolding_all rfl) | ((with_reducible refine isQE ?_); with_unfolding_all rfl) | assumption | omega) only [List.map_cons, List.map_nil, List.map_toArray, Nat.reduceEqDiff, b_exit, b_exitN, b_normal, b_ret, ev_const, ev_tmp, fo_assign, fo_move, init1, init2a, init2b, init3a, init3b, init3c, o_call _ _ _ _ _ _ _ c15, o_call _ _ _ _ _ _ _ c16, put_some, r_enter, r_value, s_nil, s_none, t_exit, t_normal, t_ret, upd_app, ↓reduceIte] | refine judge_ok hH2 tL g2.own.capLe hlen (textF_sm hP s hx2) _ (fun w3 a3 m3 c3 xs3 hx3 g3 => ?_) | (refine W_cond rfl (fun hc => ?_) (fun hc => ?_) <;> (try simp only [decide_eq_true_eq, decide_eq_false_iff_not, Bool.not_eq_true', Bool.not_eq_false', Int.not_lt, Int.not_le, Decidable.not_not] at hc) <;> (try contradiction) <;> (try (exfalso; omega))) | (refine G_split rfl rfl (fun hc => ?_) (fun hc => ?_) <;> (try simp only [decide_eq_true_eq, decide_eq_false_iff_not, Bool.not_eq_true', Bool.not_eq_false', Int.not_lt, Int.not_le, Decidable.not_not] at hc) <;> (try contradiction) <;> (try (exfalso; omega))) | (with_reducible (refine hK _ _ ?_); clear hK K) | go_step)
  refine ret1 rfl ?_; simp (disch := first | (simp only [undef, want_some, upd_app, List.getElem?_cons_succ, List.getElem?_cons_zero, Option.join_some, e_bt, e_bf, Nat.reduceEqDiff, ↓reduceIte, Bool.not_true, Bool.not_false, ne_eq, not_false_eq_true]; done) | ((with_reducible refine pkE ?_); with_unfolding_all rfl) | ((with_reducible refine cszE ?_); with_unfolding_all rfl) | ((with_reducible refine isQE ?_); with_unfolding_all rfl) | assumption | omega) only [List.map_cons, List.map_nil, List.map_toArray, Nat.reduceEqDiff, b_exit, b_exitN, b_normal, b_ret, ev_const, ev_tmp, fo_assign, fo_move, init1, init2a, init2b, init3a, init3b, init3c, o_call _ _ _ _ _ _ _ c15, o_call _ _ _ _ _ _ _ c16, put_some, r_enter, r_value, s_nil, s_none, t_exit, t_normal, t_ret, upd_app, ↓reduceIte]
  rw [hx2] at hx3
  exact h _ _ _ _ xs3 hx3 (g3.base g2.fr)
-- spec.ModelJudgeText
set_option maxHeartbeats 2000000 in
set_option maxRecDepth 20000 in
theorem mjudgeText_ok (s : ByteArray) {P : PP} (hP : ∀ ts, Ans ts (P ts).1 (P ts).2) {H : Heap} {w : World} (hH : HS H w) (R : Value → World → Prop)
    (h : ∀ w' a m c xs, xs.map VdA.v = judgeF (textF P s) → GotVs w w' a m c xs → R (.slice a m c) w') : CallsV Yaao.prog 7 #[.string s] w R := by
  refine ent7 (by simp) ?_
  repeat' (first | refine W_seq (fun K hK => ?_) | refine W_block ?_ | refine W_skip ?_ | refine W_exit ?_ | refine W_ret ?_ | refine W_region ?_ | simp (disch := first | (simp only [undef, want_some, upd_app, List.getElem?_cons_succ, List.getElem?_cons_zero, Option.join_some, e_bt, e_bf, Nat.reduceEqDiff, ↓reduceIte, Bool.not_true, Bool.not_false, ne_eq, not_false_eq_true]; done) | ((with_reducible refine pkE ?_); with_unfolding_all rfl) | ((with_reducible refine cszE ?_); with_unfolding_all rfl) | ((with_reducible refine isQE ?_); with_unfolding_all rfl) | assumption | omega) only [List.map_cons, List.map_nil, List.map_toArray, Nat.reduceEqDiff, b_exit, b_exitN, b_normal, b_ret, ev_const, ev_tmp, fo_assign, fo_move, init1, init2a, init2b, init3a, init3b, init3c, o_call _ _ _ _ _ _ _ c18, o_call _ _ _ _ _ _ _ c19, put_some, r_enter, r_value, s_nil, s_none, t_exit, t_normal, t_ret, upd_app, ↓reduceIte] | refine mtext_ok s hP _ _ (fun w2 a2 n2 c2 xs2 hx2 g2 => ?_) | (refine W_cond rfl (fun hc => ?_) (fun hc => ?_) <;> (try simp only [decide_eq_true_eq, decide_eq_false_iff_not, Bool.not_eq_true', Bool.not_eq_false', Int.not_lt, Int.not_le, Decidable.not_not] at hc) <;> (try contradiction) <;> (try (exfalso; omega))) | (refine G_split rfl rfl (fun hc => ?_) (fun hc => ?_) <;> (try simp only [decide_eq_true_eq, decide_eq_false_iff_not, Bool.not_eq_true', Bool.not_eq_false', Int.not_lt, Int.not_le, Decidable.not_not] at hc) <;> (try contradiction) <;> (try (exfalso; omega))) | (with_reducible (refine hK _ _ ?_); clear hK K) | go_step)
  obtain ⟨H2, l2, hH2, tL⟩ := g2.keep (by decide) (by decide) (by decide) hH
  have hl2 := g2.len
  have hlen : n2 ≤ 1048576 := by
    have h1 := textF_len P s
    rw [← hx2, List.length_map] at h1
    omega
  repeat' (first | refine W_seq (fun K hK => ?_) | refine W_block ?_ | refine W_skip ?_ | refine W_exit ?_ | refine W_ret ?_ | refine W_region ?_ | simp (disch := first | (simp only [undef, want_some, upd_app, List.getElem?_cons_succ, List.getElem?_cons_zero, Option.join_some, e_bt, e_bf, Nat.reduceEqDiff, ↓reduceIte, Bool.not_true, Bool.not_false, ne_eq, not_false_eq_true]; done) | ((with_reducible refine pkE ?_); with_unfolding_all rfl) | ((with_reducible refine cszE ?_); with_unfolding_all rfl) | ((with_reducible refine isQE ?_); with_unfolding_all rfl) | assumption | omega) only [List.map_cons, List.map_nil, List.map_toArray, Nat.reduceEqDiff, b_exit, b_exitN, b_normal, b_ret, ev_const, ev_tmp, fo_assign, fo_move, init1, init2a, init2b, init3a, init3b, init3c, o_call _ _ _ _ _ _ _ c18, o_call _ _ _ _ _ _ _ c19, put_some, r_enter, r_value, s_nil, s_none, t_exit, t_normal, t_ret, upd_app, ↓reduceIte] | refine mjudge_ok hH2 tL g2.own.capLe hlen (textF_sm hP s hx2) _ (fun w3 a3 m3 c3 xs3 hx3 g3 => ?_) | (refine W_cond rfl (fun hc => ?_) (fun hc => ?_) <;> (try simp only [decide_eq_true_eq, decide_eq_false_iff_not, Bool.not_eq_true', Bool.not_eq_false', Int.not_lt, Int.not_le, Decidable.not_not] at hc) <;> (try contradiction) <;> (try (exfalso; omega))) | (refine G_split rfl rfl (fun hc => ?_) (fun hc => ?_) <;> (try simp only [decide_eq_true_eq, decide_eq_false_iff_not, Bool.not_eq_true', Bool.not_eq_false', Int.not_lt, Int.not_le, Decidable.not_not] at hc) <;> (try contradiction) <;> (try (exfalso; omega))) | (with_reducible (refine hK _ _ ?_); clear hK K) | go_step)
  refine ret1 rfl ?_; simp (disch := first | (simp only [undef, want_some, upd_app, List.getElem?_cons_succ, List.getElem?_cons_zero, Option.join_some, e_bt, e_bf, Nat.reduceEqDiff, ↓reduceIte, Bool.not_true, Bool.not_false, ne_eq, not_false_eq_true]; done) | ((with_reducible refine pkE ?_); with_unfolding_all rfl) | ((with_reducible refine cszE ?_); with_unfolding_all rfl) | ((with_reducible refine isQE ?_); with_unfolding_all rfl) | assumption | omega) only [List.map_cons, List.map_nil, List.map_toArray, Nat.reduceEqDiff, b_exit, b_exitN, b_normal, b_ret, ev_const, ev_tmp, fo_assign, fo_move, init1, init2a, init2b, init3a, init3b, init3c, o_call _ _ _ _ _ _ _ c18, o_call _ _ _ _ _ _ _ c19, put_some, r_enter, r_value, s_nil, s_none, t_exit, t_normal, t_ret, upd_app, ↓reduceIte]
  rw [hx2] at hx3
  exact h _ _ _ _ xs3 hx3 (g3.base g2.fr)
end Go.Proofs.YbzaawGreat
