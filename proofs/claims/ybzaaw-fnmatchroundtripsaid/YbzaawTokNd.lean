/-  Texts parsed by the program and by the model.  -/
import Derived.Test.YbzaawSParse3
import Derived.Test.YbzaawTokA
namespace Go.Proofs.Ybzaaw
open Go.Wf Go.Deep
set_option linter.unusedSimpArgs false
set_option linter.unusedVariables false

/-- The text is a formula that is well formed. -/
def ReadsS (s : ByteArray) (t : FT) : Prop := Reads (toksOf s) t
theorem ReadsS.len {s : ByteArray} {t : FT} (h : ReadsS s t) : tsize t ≤ 65536 := by have := Reads.len h; have := toksOf_len s; omega
theorem ReadsS.uniq {s : ByteArray} {t u : FT} (h : ReadsS s t) (h' : ReadsS s u) : t = u := by have := h.parse; rw [h'.parse] at this; simp at this; exact this.symm

theorem ReadsS.small {s : ByteArray} {t : FT} (h : ReadsS s t) (b i : Nat) : ((lay b t).getD i nd0).name.size ≤ 65536 :=
  lay_small (Reads.PA h).shape (fun x ⟨j, hj⟩ => by rw [hj]; exact toksOf_text s j) b i
theorem ReadsS.wf {s : ByteArray} {t : FT} (h : ReadsS s t) : WF (lay 0 t) t := WF.of_lay h.shape h.hgt

-- impl.ParseFormulaText
set_option maxRecDepth 20000 in
theorem parseText_ok (s : ByteArray) (hs : s.size ≤ 4294967296) (w : World) (R : Value → World → Prop)
    (hF : (∀ t, ¬ ReadsS s t) → ∀ w', Fr noB w w' → R (.tuple #[.slice none 0 0, .bool false]) w')
    (hT : ∀ t, ReadsS s t → ∀ w' a n c, GotNds 80 w w' a n c (lay 0 t) → R (.tuple #[.slice a n c, .bool true]) w') :
    CallsV Yaao.prog 15 #[.string s] w R := by
  refine ent15 (by simp) ?_
  repeat' (first | refine W_seq (fun K hK => ?_) | refine W_block ?_ | refine W_skip ?_ | refine W_exit ?_ | refine W_ret ?_ | refine W_region ?_ | simp (disch := first | (simp only [undef, want_some, upd_app, List.getElem?_cons_succ, List.getElem?_cons_zero, Option.join_some, e_bt, e_bf, Nat.reduceEqDiff, ↓reduceIte, Bool.not_true, Bool.not_false, ne_eq, not_false_eq_true]; done) | ((with_reducible refine pkE ?_); with_unfolding_all rfl) | ((with_reducible refine cszE ?_); with_unfolding_all rfl) | ((with_reducible refine isQE ?_); with_unfolding_all rfl) | assumption | omega) only [List.map_cons, List.map_nil, List.map_toArray, Nat.reduceEqDiff, b_exit, b_exitN, b_normal, b_ret, ev_const, ev_tmp, fe_ext0, fe_ext1, fe_ext30, fe_ext31, fe_ext32, fo_assign, fo_extract, fo_move, init1, init2a, init2b, init3a, init3b, init3c, o_call _ _ _ _ _ _ _ c13, o_call _ _ _ _ _ _ _ c57, put_some, r_enter, r_value, s_nil, s_none, t_exit, t_normal, t_ret, upd_app, ↓reduceIte] | refine lex_ok2 s hs _ _ (fun a d w1 g1 => ?_) | (refine W_cond rfl (fun hc => ?_) (fun hc => ?_) <;> (try simp only [decide_eq_true_eq, decide_eq_false_iff_not, Bool.not_eq_true', Bool.not_eq_false', Int.not_lt, Int.not_le, Decidable.not_not] at hc) <;> (try contradiction) <;> (try (exfalso; omega))) | (refine G_split rfl rfl (fun hc => ?_) (fun hc => ?_) <;> (try simp only [decide_eq_true_eq, decide_eq_false_iff_not, Bool.not_eq_true', Bool.not_eq_false', Int.not_lt, Int.not_le, Decidable.not_not] at hc) <;> (try contradiction) <;> (try (exfalso; omega))) | (with_reducible (refine hK _ _ ?_); clear hK K) | go_step)
  obtain ⟨H1, _, hH1, t1⟩ := g1.nds.keep (emptyH_HS w)
  have hl := toksOf_len s
  have htl := t1.len
  have hl2 : (lexF s).length ≤ 65536 := lexF_len s
  refine parse_ok (ts := toksOf s) hH1 t1 (by omega) (fun i => Nat.le_trans (toksOf_text s i) (by omega)) _ (fun hn w2 f2 => ?_) (fun t ht w2 a2 m2 d2 g2 => ?_)
  all_goals repeat' (first | refine W_seq (fun K hK => ?_) | refine W_block ?_ | refine W_skip ?_ | refine W_exit ?_ | refine W_ret ?_ | refine W_region ?_ | simp (disch := first | (simp only [undef, want_some, upd_app, List.getElem?_cons_succ, List.getElem?_cons_zero, Option.join_some, e_bt, e_bf, Nat.reduceEqDiff, ↓reduceIte, Bool.not_true, Bool.not_false, ne_eq, not_false_eq_true]; done) | ((with_reducible refine pkE ?_); with_unfolding_all rfl) | ((with_reducible refine cszE ?_); with_unfolding_all rfl) | ((with_reducible refine isQE ?_); with_unfolding_all rfl) | assumption | omega) only [List.map_cons, List.map_nil, List.map_toArray, Nat.reduceEqDiff, b_exit, b_exitN, b_normal, b_ret, ev_const, ev_tmp, fe_ext0, fe_ext1, fe_ext30, fe_ext31, fe_ext32, fo_assign, fo_extract, fo_move, init1, init2a, init2b, init3a, init3b, init3c, o_call _ _ _ _ _ _ _ c13, o_call _ _ _ _ _ _ _ c57, put_some, r_enter, r_value, s_nil, s_none, t_exit, t_normal, t_ret, upd_app, ↓reduceIte] | (refine W_cond rfl (fun hc => ?_) (fun hc => ?_) <;> (try simp only [decide_eq_true_eq, decide_eq_false_iff_not, Bool.not_eq_true', Bool.not_eq_false', Int.not_lt, Int.not_le, Decidable.not_not] at hc) <;> (try contradiction) <;> (try (exfalso; omega))) | (refine G_split rfl rfl (fun hc => ?_) (fun hc => ?_) <;> (try simp only [decide_eq_true_eq, decide_eq_false_iff_not, Bool.not_eq_true', Bool.not_eq_false', Int.not_lt, Int.not_le, Decidable.not_not] at hc) <;> (try contradiction) <;> (try (exfalso; omega))) | (with_reducible (refine hK _ _ ?_); clear hK K) | go_step)
  all_goals refine ret2 rfl ?_
  all_goals simp (disch := first | (simp only [undef, want_some, upd_app, List.getElem?_cons_succ, List.getElem?_cons_zero, Option.join_some, e_bt, e_bf, Nat.reduceEqDiff, ↓reduceIte, Bool.not_true, Bool.not_false, ne_eq, not_false_eq_true]; done) | ((with_reducible refine pkE ?_); with_unfolding_all rfl) | ((with_reducible refine cszE ?_); with_unfolding_all rfl) | ((with_reducible refine isQE ?_); with_unfolding_all rfl) | assumption | omega) only [List.map_cons, List.map_nil, List.map_toArray, Nat.reduceEqDiff, b_exit, b_exitN, b_normal, b_ret, ev_const, ev_tmp, fe_ext0, fe_ext1, fe_ext30, fe_ext31, fe_ext32, fo_assign, fo_extract, fo_move, init1, init2a, init2b, init3a, init3b, init3c, o_call _ _ _ _ _ _ _ c13, o_call _ _ _ _ _ _ _ c57, put_some, r_enter, r_value, s_nil, s_none, t_exit, t_normal, t_ret, upd_app, ↓reduceIte]
  · exact hF hn _ (g1.fr.no f2)
  · exact hT t ht _ _ _ _ (g2.base g1.fr)
-- spec.ModelParseText
set_option maxRecDepth 20000 in
theorem mparseText_ok (s : ByteArray) (hs : s.size ≤ 4294967296) (w : World) (R : Value → World → Prop)
    (hF : (∀ t, ¬ ReadsS s t) → ∀ w', Fr noB w w' → R (.tuple #[.slice none 0 0, .bool false]) w')
    (hT : ∀ t, ReadsS s t → ∀ w' a n c, GotNds 80 w w' a n c (lay 0 t) → R (.tuple #[.slice a n c, .bool true]) w') :
    CallsV Yaao.prog 16 #[.string s] w R := by
  refine ent16 (by simp) ?_
  repeat' (first | refine W_seq (fun K hK => ?_) | refine W_block ?_ | refine W_skip ?_ | refine W_exit ?_ | refine W_ret ?_ | refine W_region ?_ | simp (disch := first | (simp only [undef, want_some, upd_app, List.getElem?_cons_succ, List.getElem?_cons_zero, Option.join_some, e_bt, e_bf, Nat.reduceEqDiff, ↓reduceIte, Bool.not_true, Bool.not_false, ne_eq, not_false_eq_true]; done) | ((with_reducible refine pkE ?_); with_unfolding_all rfl) | ((with_reducible refine cszE ?_); with_unfolding_all rfl) | ((with_reducible refine isQE ?_); with_unfolding_all rfl) | assumption | omega) only [List.map_cons, List.map_nil, List.map_toArray, Nat.reduceEqDiff, b_exit, b_exitN, b_normal, b_ret, ev_const, ev_tmp, fe_ext0, fe_ext1, fe_ext30, fe_ext31, fe_ext32, fo_assign, fo_extract, fo_move, init1, init2a, init2b, init3a, init3b, init3c, o_call _ _ _ _ _ _ _ c14, o_call _ _ _ _ _ _ _ c58, put_some, r_enter, r_value, s_nil, s_none, t_exit, t_normal, t_ret, upd_app, ↓reduceIte] | refine mlex_ok2 s hs _ _ (fun a d w1 g1 => ?_) | (refine W_cond rfl (fun hc => ?_) (fun hc => ?_) <;> (try simp only [decide_eq_true_eq, decide_eq_false_iff_not, Bool.not_eq_true', Bool.not_eq_false', Int.not_lt, Int.not_le, Decidable.not_not] at hc) <;> (try contradiction) <;> (try (exfalso; omega))) | (refine G_split rfl rfl (fun hc => ?_) (fun hc => ?_) <;> (try simp only [decide_eq_true_eq, decide_eq_false_iff_not, Bool.not_eq_true', Bool.not_eq_false', Int.not_lt, Int.not_le, Decidable.not_not] at hc) <;> (try contradiction) <;> (try (exfalso; omega))) | (with_reducible (refine hK _ _ ?_); clear hK K) | go_step)
  obtain ⟨H1, _, hH1, t1⟩ := g1.nds.keep (emptyH_HS w)
  have hl := toksOf_len s
  have htl := t1.len
  have hl2 : (lexF s).length ≤ 65536 := lexF_len s
  refine mparse_ok (ts := toksOf s) hH1 t1 (by omega) (fun i => Nat.le_trans (toksOf_text s i) (by omega)) _ (fun hn w2 f2 => ?_) (fun t ht w2 a2 m2 d2 g2 => ?_)
  all_goals repeat' (first | refine W_seq (fun K hK => ?_) | refine W_block ?_ | refine W_skip ?_ | refine W_exit ?_ | refine W_ret ?_ | refine W_region ?_ | simp (disch := first | (simp only [undef, want_some, upd_app, List.getElem?_cons_succ, List.getElem?_cons_zero, Option.join_some, e_bt, e_bf, Nat.reduceEqDiff, ↓reduceIte, Bool.not_true, Bool.not_false, ne_eq, not_false_eq_true]; done) | ((with_reducible refine pkE ?_); with_unfolding_all rfl) | ((with_reducible refine cszE ?_); with_unfolding_all rfl) | ((with_reducible refine isQE ?_); with_unfolding_all rfl) | assumption | omega) only [List.map_cons, List.map_nil, List.map_toArray, Nat.reduceEqDiff, b_exit, b_exitN, b_normal, b_ret, ev_const, ev_tmp, fe_ext0, fe_ext1, fe_ext30, fe_ext31, fe_ext32, fo_assign, fo_extract, fo_move, init1, init2a, init2b, init3a, init3b, init3c, o_call _ _ _ _ _ _ _ c14, o_call _ _ _ _ _ _ _ c58, put_some, r_enter, r_value, s_nil, s_none, t_exit, t_normal, t_ret, upd_app, ↓reduceIte] | (refine W_cond rfl (fun hc => ?_) (fun hc => ?_) <;> (try simp only [decide_eq_true_eq, decide_eq_false_iff_not, Bool.not_eq_true', Bool.not_eq_false', Int.not_lt, Int.not_le, Decidable.not_not] at hc) <;> (try contradiction) <;> (try (exfalso; omega))) | (refine G_split rfl rfl (fun hc => ?_) (fun hc => ?_) <;> (try simp only [decide_eq_true_eq, decide_eq_false_iff_not, Bool.not_eq_true', Bool.not_eq_false', Int.not_lt, Int.not_le, Decidable.not_not] at hc) <;> (try contradiction) <;> (try (exfalso; omega))) | (with_reducible (refine hK _ _ ?_); clear hK K) | go_step)
  all_goals refine ret2 rfl ?_
  all_goals simp (disch := first | (simp only [undef, want_some, upd_app, List.getElem?_cons_succ, List.getElem?_cons_zero, Option.join_some, e_bt, e_bf, Nat.reduceEqDiff, ↓reduceIte, Bool.not_true, Bool.not_false, ne_eq, not_false_eq_true]; done) | ((with_reducible refine pkE ?_); with_unfolding_all rfl) | ((with_reducible refine cszE ?_); with_unfolding_all rfl) | ((with_reducible refine isQE ?_); with_unfolding_all rfl) | assumption | omega) only [List.map_cons, List.map_nil, List.map_toArray, Nat.reduceEqDiff, b_exit, b_exitN, b_normal, b_ret, ev_const, ev_tmp, fe_ext0, fe_ext1, fe_ext30, fe_ext31, fe_ext32, fo_assign, fo_extract, fo_move, init1, init2a, init2b, init3a, init3b, init3c, o_call _ _ _ _ _ _ _ c14, o_call _ _ _ _ _ _ _ c58, put_some, r_enter, r_value, s_nil, s_none, t_exit, t_normal, t_ret, upd_app, ↓reduceIte]
  · exact hF hn _ (g1.fr.no f2)
  · exact hT t ht _ _ _ _ (g2.base g1.fr)
end Go.Proofs.Ybzaaw
