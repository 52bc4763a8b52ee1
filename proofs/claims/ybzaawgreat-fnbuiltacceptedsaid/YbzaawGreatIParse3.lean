/-  'impl.ParseFormula'.  -/
import Derived.Test.YbzaawGreatIParse2
namespace Go.Proofs.YbzaawGreat
open Go.Wf Go.Deep
set_option linter.unusedSimpArgs false
set_option linter.unusedVariables false

theorem lay_names {V : ByteArray → Prop} {t : FT} (h : Shape V t) : ∀ b, ∀ x ∈ lay b t, V x.name ∨ x.name = emp := by
  refine Shape.ind (P := fun t => ∀ b, ∀ x ∈ lay b t, V x.name ∨ x.name = emp) ?_ ?_ ?_ ?_ t h
  · intro s hs b x hx; rw [lay_A] at hx; simp at hx; subst hx; exact .inl hs
  · intro b x hx; rw [lay_B0] at hx; simp at hx; subst hx; exact .inr rfl
  · intro t ht ih b x hx
    rw [lay_N b ht, List.mem_append] at hx
    rcases hx with hx | hx
    · exact ih b x hx
    · simp at hx; subst hx; exact .inr rfl
  · intro op l r _ _ hl hr ihl ihr b x hx
    rw [lay_B b op hl hr, List.mem_append, List.mem_append] at hx
    rcases hx with hx | hx | hx
    · exact ihl _ x hx
    · exact ihr _ x hx
    · simp at hx; subst hx; exact .inr rfl
theorem lay_small {V : ByteArray → Prop} {t : FT} (h : Shape V t) {B : Nat} (hV : ∀ s, V s → s.size ≤ B) (b i : Nat) : ((lay b t).getD i nd0).name.size ≤ B := by
  by_cases hi : i < (lay b t).length
  · rw [show (lay b t).getD i nd0 = (lay b t)[i] by simp [hi]]
    rcases lay_names h b _ (List.getElem_mem hi) with e | e
    · exact hV _ e
    · rw [e]; exact Nat.zero_le _
  · rw [show (lay b t).getD i nd0 = nd0 by simp [List.getD, List.getElem?_eq_none (Nat.le_of_not_lt hi)]]
    exact Nat.zero_le _
/-- The tokens are a formula that is well formed. -/
structure Reads (ts : List Nd) (t : FT) : Prop where
  parse : parseF ts = some t
  shape : Shape okName t
  hgt : thgt t ≤ 500
theorem parseF_some {ts : List Nd} {t : FT} (h : parseF ts = some t) : iffF ts (unF ts 500) 0 = some (t, ts.length) := by
  unfold parseF at h
  cases e : iffF ts (unF ts 500) 0 with
  | none => rw [e] at h; simp at h
  | some x =>
    obtain ⟨u, q⟩ := x
    rw [e] at h
    simp only at h
    split at h
    · rename_i hq; simp at h; rw [h, hq]
    · simp at h
theorem Reads.PA {ts : List Nd} {t : FT} (h : Reads ts t) : PA ts 0 t ts.length := iffF_PU (unF_PU ts 500) _ _ _ (parseF_some h.parse)
theorem Reads.len {ts : List Nd} {t : FT} (h : Reads ts t) : tsize t ≤ ts.length := by have := h.PA.size; omega

-- impl.ParseFormula
set_option maxHeartbeats 1000000 in
set_option maxRecDepth 20000 in
theorem parse_ok {H : Heap} {w : World} (hH : HS H w) {ta : Option Addr} {nt ct : Nat} {ts : List Nd} (tA : NdH H ta nt ts) (hnt : nt ≤ 16777216) (hnm : ∀ i, (ts.getD i nd0).name.size ≤ 9223372036854775807) (R : Value → World → Prop)
    (hF : (∀ t, ¬ Reads ts t) → ∀ w', Fr noB w w' → R (.tuple #[.slice none 0 0, .bool false]) w')
    (hT : ∀ t, Reads ts t → ∀ w' a n c, GotNds 113 w w' a n c (lay 0 t) → R (.tuple #[.slice a n c, .bool true]) w') :
    CallsV Yaao.prog 68 #[.slice ta nt ct] w R := by
  have htl := tA.len
  refine ent68 (by simp) ?_
  repeat' (first | with_reducible refine VC_stop _ ?_ | refine W_seq (fun K hK => ?_) | refine W_block ?_ | refine W_skip ?_ | refine W_exit ?_ | refine W_ret ?_ | refine W_region ?_ | simp (disch := first | (simp only [undef, want_some, upd_app, List.getElem?_cons_succ, List.getElem?_cons_zero, Option.join_some, e_bt, e_bf, Nat.reduceEqDiff, ↓reduceIte, Bool.not_true, Bool.not_false, ne_eq, not_false_eq_true]; done) | ((with_reducible refine pkE ?_); with_unfolding_all rfl) | ((with_reducible refine cszE ?_); with_unfolding_all rfl) | ((with_reducible refine isQE ?_); with_unfolding_all rfl) | assumption | omega) only [Bool.false_eq_true, Bool.not_false, Bool.not_true, List.map_cons, List.map_nil, List.map_toArray, List.set_cons_succ, List.set_cons_zero, Nat.add_zero, Nat.reduceEqDiff, b_exit, b_exitN, b_normal, b_ret, e_ifF, e_ifT, ev_const, ev_tmp, fe_build _ bl156, fe_eql, fe_fld _ o156_1, fe_fld _ o156_2, fe_fld _ o156_3, fe_len _ _ _ _ _ k96, fe_neq, fe_nil, fe_not, fe_pick, fo_assign, fo_bin, fo_build, fo_fieldAddr, fo_len, fo_load, fo_move, fo_nil, fo_notV, fo_pick, init1, init2a, init2b, init3a, init3b, init3c, o_box, o_call _ _ _ _ _ _ _ c86, o_call _ _ _ _ _ _ _ c89, put_some, r_enter, r_value, s_nil, s_none, s_someF, s_someT, sp_cons, sp_nil, t_exit, t_normal, t_ret, upd_app, ↓reduceIte] | (refine W_cond rfl (fun hc => ?_) (fun hc => ?_) <;> (try simp only [decide_eq_true_eq, decide_eq_false_iff_not, Bool.not_eq_true', Bool.not_eq_false', Int.not_lt, Int.not_le, Decidable.not_not] at hc) <;> (try contradiction) <;> (try (exfalso; omega))) | (refine G_split rfl rfl (fun hc => ?_) (fun hc => ?_) <;> (try simp only [decide_eq_true_eq, decide_eq_false_iff_not, Bool.not_eq_true', Bool.not_eq_false', Int.not_lt, Int.not_le, Decidable.not_not] at hc) <;> (try contradiction) <;> (try (exfalso; omega))) | (with_reducible (refine hK _ _ ?_); clear hK K) | go_step)
  · refine ret2 rfl ?_
    simp (disch := first | (simp only [undef, want_some, upd_app, List.getElem?_cons_succ, List.getElem?_cons_zero, Option.join_some, e_bt, e_bf, Nat.reduceEqDiff, ↓reduceIte, Bool.not_true, Bool.not_false, ne_eq, not_false_eq_true]; done) | ((with_reducible refine pkE ?_); with_unfolding_all rfl) | ((with_reducible refine cszE ?_); with_unfolding_all rfl) | ((with_reducible refine isQE ?_); with_unfolding_all rfl) | assumption | omega) only [Bool.false_eq_true, Bool.not_false, Bool.not_true, List.map_cons, List.map_nil, List.map_toArray, List.set_cons_succ, List.set_cons_zero, Nat.add_zero, Nat.reduceEqDiff, b_exit, b_exitN, b_normal, b_ret, e_ifF, e_ifT, ev_const, ev_tmp, fe_build _ bl156, fe_eql, fe_fld _ o156_1, fe_fld _ o156_2, fe_fld _ o156_3, fe_len _ _ _ _ _ k96, fe_neq, fe_nil, fe_not, fe_pick, fo_assign, fo_bin, fo_build, fo_fieldAddr, fo_len, fo_load, fo_move, fo_nil, fo_notV, fo_pick, init1, init2a, init2b, init3a, init3b, init3c, o_box, o_call _ _ _ _ _ _ _ c86, o_call _ _ _ _ _ _ _ c89, put_some, r_enter, r_value, s_nil, s_none, s_someF, s_someT, sp_cons, sp_nil, t_exit, t_normal, t_ret, upd_app, ↓reduceIte]
    refine hF (fun t ht => ?_) _ (Fr.refl _ _)
    have := ht.PA.lt; omega
  refine ⟨?_⟩
  have hB : Blk (w.alloc (.cells (Value.agg #[.slice ta nt ct, .int .i64 0, .slice none 0 0, .bool false]).cells 156)) w.heap.size 156 [.slice ta nt ct, .int .i64 0, .slice none 0 0, .bool false] := Blk.new _ _ _
  have hf : Fr noB w (w.alloc (.cells (Value.agg #[.slice ta nt ct, .int .i64 0, .slice none 0 0, .bool false]).cells 156)) := Fr.alloc _ _ _ _
  obtain ⟨b, hb⟩ : ∃ b, b = w.heap.size := ⟨_, rfl⟩
  rw [← hb] at hB ⊢
  generalize w.alloc (.cells (Value.agg #[.slice ta nt ct, .int .i64 0, .slice none 0 0, .bool false]).cells 156) = w1 at hB hf ⊢
  have hS : PS H w1 b (.slice ta nt ct) 0 none 0 0 [] := ⟨hH.frN hf, hB, Own.nil _ _ _, rfl, fun o => hH.off (by omega) o, fun k hk => absurd hk (blkO_none k), blkO_none b⟩
  have noF : ∀ {w' : World}, Fr (fun k => k = b ∨ blkO none k) w1 w' → Fr noB w w' := fun f => hf.trans f (fun k hk e => e.elim (fun e => by omega) (fun e => (blkO_none k e).elim))
  repeat' (first | refine W_seq (fun K hK => ?_) | refine W_block ?_ | refine W_skip ?_ | refine W_exit ?_ | refine W_ret ?_ | refine W_region ?_ | simp (disch := first | (simp only [undef, want_some, upd_app, List.getElem?_cons_succ, List.getElem?_cons_zero, Option.join_some, e_bt, e_bf, Nat.reduceEqDiff, ↓reduceIte, Bool.not_true, Bool.not_false, ne_eq, not_false_eq_true]; done) | ((with_reducible refine pkE ?_); with_unfolding_all rfl) | ((with_reducible refine cszE ?_); with_unfolding_all rfl) | ((with_reducible refine isQE ?_); with_unfolding_all rfl) | assumption | omega) only [Bool.false_eq_true, Bool.not_false, Bool.not_true, List.map_cons, List.map_nil, List.map_toArray, List.set_cons_succ, List.set_cons_zero, Nat.add_zero, Nat.reduceEqDiff, b_exit, b_exitN, b_normal, b_ret, e_ifF, e_ifT, ev_const, ev_tmp, fe_build _ bl156, fe_eql, fe_fld _ o156_1, fe_fld _ o156_2, fe_fld _ o156_3, fe_len _ _ _ _ _ k96, fe_neq, fe_nil, fe_not, fe_pick, fo_assign, fo_bin, fo_build, fo_fieldAddr, fo_len, fo_load, fo_move, fo_nil, fo_notV, fo_pick, init1, init2a, init2b, init3a, init3b, init3c, o_box, o_call _ _ _ _ _ _ _ c86, o_call _ _ _ _ _ _ _ c89, put_some, r_enter, r_value, s_nil, s_none, s_someF, s_someT, sp_cons, sp_nil, t_exit, t_normal, t_ret, upd_app, ↓reduceIte] | refine pTop_ok tA hnt _ _ _ _ _ _ _ hS (by omega) (by omega) (fun e w2 v hB => ?_) (fun t q e w2 a2 m2 d2 hP => ?_) | (refine W_cond rfl (fun hc => ?_) (fun hc => ?_) <;> (try simp only [decide_eq_true_eq, decide_eq_false_iff_not, Bool.not_eq_true', Bool.not_eq_false', Int.not_lt, Int.not_le, Decidable.not_not] at hc) <;> (try contradiction) <;> (try (exfalso; omega))) | (refine G_split rfl rfl (fun hc => ?_) (fun hc => ?_) <;> (try simp only [decide_eq_true_eq, decide_eq_false_iff_not, Bool.not_eq_true', Bool.not_eq_false', Int.not_lt, Int.not_le, Decidable.not_not] at hc) <;> (try contradiction) <;> (try (exfalso; omega))) | (with_reducible (refine hK _ _ ?_); clear hK K) | go_step)
  · obtain ⟨x0, x1, x2, hb⟩ := hB.blk
    obtain ⟨HP, lP, hHP, cP, nP⟩ := hb.keep (emptyH_HS w2) (fun o => rfl)
    have y3 : HP b 3 = some (.bool true) := cP 3
    repeat' (first | refine W_seq (fun K hK => ?_) | refine W_block ?_ | refine W_skip ?_ | refine W_exit ?_ | refine W_ret ?_ | refine W_region ?_ | simp (disch := first | (simp only [undef, want_some, upd_app, List.getElem?_cons_succ, List.getElem?_cons_zero, Option.join_some, e_bt, e_bf, Nat.reduceEqDiff, ↓reduceIte, Bool.not_true, Bool.not_false, ne_eq, not_false_eq_true]; done) | ((with_reducible refine pkE ?_); with_unfolding_all rfl) | ((with_reducible refine cszE ?_); with_unfolding_all rfl) | ((with_reducible refine isQE ?_); with_unfolding_all rfl) | assumption | omega) only [Bool.false_eq_true, Bool.not_false, Bool.not_true, List.map_cons, List.map_nil, List.map_toArray, List.set_cons_succ, List.set_cons_zero, Nat.add_zero, Nat.reduceEqDiff, b_exit, b_exitN, b_normal, b_ret, e_ifF, e_ifT, ev_const, ev_tmp, fe_build _ bl156, fe_eql, fe_fld _ o156_1, fe_fld _ o156_2, fe_fld _ o156_3, fe_len _ _ _ _ _ k96, fe_neq, fe_nil, fe_not, fe_pick, fo_assign, fo_bin, fo_build, fo_fieldAddr, fo_len, fo_load, fo_move, fo_nil, fo_notV, fo_pick, init1, init2a, init2b, init3a, init3b, init3c, o_box, o_call _ _ _ _ _ _ _ c86, o_call _ _ _ _ _ _ _ c89, put_some, r_enter, r_value, s_nil, s_none, s_someF, s_someT, sp_cons, sp_nil, t_exit, t_normal, t_ret, upd_app, ↓reduceIte, y3, Nat.zero_add, List.map_cons, List.map_nil, d_loud, d_nil, d_quiet, d_someF, d_someT, e_ldH n28 hHP, e_ldH n3 hHP, e_ldH n4 hHP, l_enter, l_skip, l_val, q_ld n28 hHP, q_ld n3 hHP, q_ld n4 hHP, q_val hHP] | refine W_drawH hHP (by kernel_rfl) (by kernel_rfl) (fun w1 hw1 hHP => ?_) | (refine D_split rfl rfl (fun hc => ?_) (fun hc => ?_) <;> (try simp only [decide_eq_true_eq, decide_eq_false_iff_not, Bool.not_eq_true', Bool.not_eq_false', Int.not_lt, Int.not_le, Decidable.not_not] at hc) <;> (try contradiction) <;> (try (exfalso; omega))) | (refine W_cond rfl (fun hc => ?_) (fun hc => ?_) <;> (try simp only [decide_eq_true_eq, decide_eq_false_iff_not, Bool.not_eq_true', Bool.not_eq_false', Int.not_lt, Int.not_le, Decidable.not_not] at hc) <;> (try contradiction) <;> (try (exfalso; omega))) | (refine G_split rfl rfl (fun hc => ?_) (fun hc => ?_) <;> (try simp only [decide_eq_true_eq, decide_eq_false_iff_not, Bool.not_eq_true', Bool.not_eq_false', Int.not_lt, Int.not_le, Decidable.not_not] at hc) <;> (try contradiction) <;> (try (exfalso; omega))) | (with_reducible (refine hK _ _ ?_); clear hK K) | go_step)
    refine ret2 rfl ?_
    simp (disch := first | (simp only [undef, want_some, upd_app, List.getElem?_cons_succ, List.getElem?_cons_zero, Option.join_some, e_bt, e_bf, Nat.reduceEqDiff, ↓reduceIte, Bool.not_true, Bool.not_false, ne_eq, not_false_eq_true]; done) | ((with_reducible refine pkE ?_); with_unfolding_all rfl) | ((with_reducible refine cszE ?_); with_unfolding_all rfl) | ((with_reducible refine isQE ?_); with_unfolding_all rfl) | assumption | omega) only [Bool.false_eq_true, Bool.not_false, Bool.not_true, List.map_cons, List.map_nil, List.map_toArray, List.set_cons_succ, List.set_cons_zero, Nat.add_zero, Nat.reduceEqDiff, b_exit, b_exitN, b_normal, b_ret, e_ifF, e_ifT, ev_const, ev_tmp, fe_build _ bl156, fe_eql, fe_fld _ o156_1, fe_fld _ o156_2, fe_fld _ o156_3, fe_len _ _ _ _ _ k96, fe_neq, fe_nil, fe_not, fe_pick, fo_assign, fo_bin, fo_build, fo_fieldAddr, fo_len, fo_load, fo_move, fo_nil, fo_notV, fo_pick, init1, init2a, init2b, init3a, init3b, init3c, o_box, o_call _ _ _ _ _ _ _ c86, o_call _ _ _ _ _ _ _ c89, put_some, r_enter, r_value, s_nil, s_none, s_someF, s_someT, sp_cons, sp_nil, t_exit, t_normal, t_ret, upd_app, ↓reduceIte]
    refine hF (fun t ht => ?_) _ (noF hB.fr)
    have := parseF_some ht.parse; rw [e] at this; cases this
  · have hpa := iffF_PU (unF_PU ts 500) _ _ _ e
    rw [List.nil_append] at hP
    obtain ⟨H', lH, hH2, hsl, hnH⟩ := hP.st.own.keep hP.st.hs hP.st.ho
    have hlen := hP.st.len
    have tN : NdH H' a2 m2 (lay 0 t) := ⟨hlen, hsl⟩
    have hne : ¬ blkO a2 b := hP.st.ne
    obtain ⟨HP, lP, hHP, cP, nP⟩ := hP.st.blk.keep hH2 (fun o => (hnH b hne o).trans (hP.st.hb o))
    have y1 : HP b 1 = some (.int .i64 q) := cP 1
    have y2 : HP b 2 = some (.slice a2 m2 d2) := cP 2
    have y3 : HP b 3 = some (.bool false) := cP 3
    have tP := tN.mono lP
    have hlen' := hlen
    simp only [List.length_nil, lay_len] at hlen'
    have hsm : ∀ i, ((lay 0 t).getD i nd0).name.size ≤ 9223372036854775807 := lay_small hpa.shape (fun s ⟨i, hi⟩ => by rw [hi]; exact hnm i) 0
    have hq1 := hpa.le
    have hq2 := hpa.size
    repeat' (first | refine W_seq (fun K hK => ?_) | refine W_block ?_ | refine W_skip ?_ | refine W_exit ?_ | refine W_ret ?_ | refine W_region ?_ | simp (disch := first | (simp only [undef, want_some, upd_app, List.getElem?_cons_succ, List.getElem?_cons_zero, Option.join_some, e_bt, e_bf, Nat.reduceEqDiff, ↓reduceIte, Bool.not_true, Bool.not_false, ne_eq, not_false_eq_true]; done) | ((with_reducible refine pkE ?_); with_unfolding_all rfl) | ((with_reducible refine cszE ?_); with_unfolding_all rfl) | ((with_reducible refine isQE ?_); with_unfolding_all rfl) | assumption | omega) only [Bool.false_eq_true, Bool.not_false, Bool.not_true, List.map_cons, List.map_nil, List.map_toArray, List.set_cons_succ, List.set_cons_zero, Nat.add_zero, Nat.reduceEqDiff, b_exit, b_exitN, b_normal, b_ret, e_ifF, e_ifT, ev_const, ev_tmp, fe_build _ bl156, fe_eql, fe_fld _ o156_1, fe_fld _ o156_2, fe_fld _ o156_3, fe_len _ _ _ _ _ k96, fe_neq, fe_nil, fe_not, fe_pick, fo_assign, fo_bin, fo_build, fo_fieldAddr, fo_len, fo_load, fo_move, fo_nil, fo_notV, fo_pick, init1, init2a, init2b, init3a, init3b, init3c, o_box, o_call _ _ _ _ _ _ _ c86, o_call _ _ _ _ _ _ _ c89, put_some, r_enter, r_value, s_nil, s_none, s_someF, s_someT, sp_cons, sp_nil, t_exit, t_normal, t_ret, upd_app, ↓reduceIte, y1, y2, y3, Nat.zero_add, List.map_cons, List.map_nil, d_loud, d_nil, d_quiet, d_someF, d_someT, e_ldH n28 hHP, e_ldH n3 hHP, e_ldH n4 hHP, l_enter, l_skip, l_val, q_ld n28 hHP, q_ld n3 hHP, q_ld n4 hHP, q_val hHP] | refine wellFormed_ok hHP tP (by omega) hsm _ (fun r w3 hr f3 => ?_) | refine W_drawH hHP (by kernel_rfl) (by kernel_rfl) (fun w1 hw1 hHP => ?_) | (refine D_split rfl rfl (fun hc => ?_) (fun hc => ?_) <;> (try simp only [decide_eq_true_eq, decide_eq_false_iff_not, Bool.not_eq_true', Bool.not_eq_false', Int.not_lt, Int.not_le, Decidable.not_not] at hc) <;> (try contradiction) <;> (try (exfalso; omega))) | (refine W_cond rfl (fun hc => ?_) (fun hc => ?_) <;> (try simp only [decide_eq_true_eq, decide_eq_false_iff_not, Bool.not_eq_true', Bool.not_eq_false', Int.not_lt, Int.not_le, Decidable.not_not] at hc) <;> (try contradiction) <;> (try (exfalso; omega))) | (refine G_split rfl rfl (fun hc => ?_) (fun hc => ?_) <;> (try simp only [decide_eq_true_eq, decide_eq_false_iff_not, Bool.not_eq_true', Bool.not_eq_false', Int.not_lt, Int.not_le, Decidable.not_not] at hc) <;> (try contradiction) <;> (try (exfalso; omega))) | (with_reducible (refine hK _ _ ?_); clear hK K) | go_step)
    · refine ret2 rfl ?_
      simp (disch := first | (simp only [undef, want_some, upd_app, List.getElem?_cons_succ, List.getElem?_cons_zero, Option.join_some, e_bt, e_bf, Nat.reduceEqDiff, ↓reduceIte, Bool.not_true, Bool.not_false, ne_eq, not_false_eq_true]; done) | ((with_reducible refine pkE ?_); with_unfolding_all rfl) | ((with_reducible refine cszE ?_); with_unfolding_all rfl) | ((with_reducible refine isQE ?_); with_unfolding_all rfl) | assumption | omega) only [Bool.false_eq_true, Bool.not_false, Bool.not_true, List.map_cons, List.map_nil, List.map_toArray, List.set_cons_succ, List.set_cons_zero, Nat.add_zero, Nat.reduceEqDiff, b_exit, b_exitN, b_normal, b_ret, e_ifF, e_ifT, ev_const, ev_tmp, fe_build _ bl156, fe_eql, fe_fld _ o156_1, fe_fld _ o156_2, fe_fld _ o156_3, fe_len _ _ _ _ _ k96, fe_neq, fe_nil, fe_not, fe_pick, fo_assign, fo_bin, fo_build, fo_fieldAddr, fo_len, fo_load, fo_move, fo_nil, fo_notV, fo_pick, init1, init2a, init2b, init3a, init3b, init3c, o_box, o_call _ _ _ _ _ _ _ c86, o_call _ _ _ _ _ _ _ c89, put_some, r_enter, r_value, s_nil, s_none, s_someF, s_someT, sp_cons, sp_nil, t_exit, t_normal, t_ret, upd_app, ↓reduceIte]
      refine hF (fun u hu => ?_) _ (noF hP.fr)
      have := parseF_some hu.parse; rw [e] at this
      simp at this; omega
    all_goals
      have hq : q = ts.length := by omega
      have hpt : parseF ts = some t := by simp only [parseF, e, hq, if_true]
      have hH3 := hHP.frN f3
      repeat' (first | refine W_seq (fun K hK => ?_) | refine W_block ?_ | refine W_skip ?_ | refine W_exit ?_ | refine W_ret ?_ | refine W_region ?_ | simp (disch := first | (simp only [undef, want_some, upd_app, List.getElem?_cons_succ, List.getElem?_cons_zero, Option.join_some, e_bt, e_bf, Nat.reduceEqDiff, ↓reduceIte, Bool.not_true, Bool.not_false, ne_eq, not_false_eq_true]; done) | ((with_reducible refine pkE ?_); with_unfolding_all rfl) | ((with_reducible refine cszE ?_); with_unfolding_all rfl) | ((with_reducible refine isQE ?_); with_unfolding_all rfl) | assumption | omega) only [Bool.false_eq_true, Bool.not_false, Bool.not_true, List.map_cons, List.map_nil, List.map_toArray, List.set_cons_succ, List.set_cons_zero, Nat.add_zero, Nat.reduceEqDiff, b_exit, b_exitN, b_normal, b_ret, e_ifF, e_ifT, ev_const, ev_tmp, fe_build _ bl156, fe_eql, fe_fld _ o156_1, fe_fld _ o156_2, fe_fld _ o156_3, fe_len _ _ _ _ _ k96, fe_neq, fe_nil, fe_not, fe_pick, fo_assign, fo_bin, fo_build, fo_fieldAddr, fo_len, fo_load, fo_move, fo_nil, fo_notV, fo_pick, init1, init2a, init2b, init3a, init3b, init3c, o_box, o_call _ _ _ _ _ _ _ c86, o_call _ _ _ _ _ _ _ c89, put_some, r_enter, r_value, s_nil, s_none, s_someF, s_someT, sp_cons, sp_nil, t_exit, t_normal, t_ret, upd_app, ↓reduceIte, y1, y2, y3, Nat.zero_add, List.map_cons, List.map_nil, d_loud, d_nil, d_quiet, d_someF, d_someT, e_ldH n28 hH3, e_ldH n3 hH3, e_ldH n4 hH3, l_enter, l_skip, l_val, q_ld n28 hH3, q_ld n3 hH3, q_ld n4 hH3, q_val hH3] | refine W_drawH hH3 (by kernel_rfl) (by kernel_rfl) (fun w1 hw1 hH3 => ?_) | (refine D_split rfl rfl (fun hc => ?_) (fun hc => ?_) <;> (try simp only [decide_eq_true_eq, decide_eq_false_iff_not, Bool.not_eq_true', Bool.not_eq_false', Int.not_lt, Int.not_le, Decidable.not_not] at hc) <;> (try contradiction) <;> (try (exfalso; omega))) | (refine W_cond rfl (fun hc => ?_) (fun hc => ?_) <;> (try simp only [decide_eq_true_eq, decide_eq_false_iff_not, Bool.not_eq_true', Bool.not_eq_false', Int.not_lt, Int.not_le, Decidable.not_not] at hc) <;> (try contradiction) <;> (try (exfalso; omega))) | (refine G_split rfl rfl (fun hc => ?_) (fun hc => ?_) <;> (try simp only [decide_eq_true_eq, decide_eq_false_iff_not, Bool.not_eq_true', Bool.not_eq_false', Int.not_lt, Int.not_le, Decidable.not_not] at hc) <;> (try contradiction) <;> (try (exfalso; omega))) | (with_reducible (refine hK _ _ ?_); clear hK K) | go_step)
      refine ret2 rfl ?_
      simp (disch := first | (simp only [undef, want_some, upd_app, List.getElem?_cons_succ, List.getElem?_cons_zero, Option.join_some, e_bt, e_bf, Nat.reduceEqDiff, ↓reduceIte, Bool.not_true, Bool.not_false, ne_eq, not_false_eq_true]; done) | ((with_reducible refine pkE ?_); with_unfolding_all rfl) | ((with_reducible refine cszE ?_); with_unfolding_all rfl) | ((with_reducible refine isQE ?_); with_unfolding_all rfl) | assumption | omega) only [Bool.false_eq_true, Bool.not_false, Bool.not_true, List.map_cons, List.map_nil, List.map_toArray, List.set_cons_succ, List.set_cons_zero, Nat.add_zero, Nat.reduceEqDiff, b_exit, b_exitN, b_normal, b_ret, e_ifF, e_ifT, ev_const, ev_tmp, fe_build _ bl156, fe_eql, fe_fld _ o156_1, fe_fld _ o156_2, fe_fld _ o156_3, fe_len _ _ _ _ _ k96, fe_neq, fe_nil, fe_not, fe_pick, fo_assign, fo_bin, fo_build, fo_fieldAddr, fo_len, fo_load, fo_move, fo_nil, fo_notV, fo_pick, init1, init2a, init2b, init3a, init3b, init3c, o_box, o_call _ _ _ _ _ _ _ c86, o_call _ _ _ _ _ _ _ c89, put_some, r_enter, r_value, s_nil, s_none, s_someF, s_someT, sp_cons, sp_nil, t_exit, t_normal, t_ret, upd_app, ↓reduceIte]
    · have hr0 : r = false := ‹_›
      refine hF (fun u hu => ?_) _ (noF (hP.fr.no f3))
      have := parseF_some hu.parse; rw [e] at this
      simp at this
      obtain ⟨rfl, _⟩ := this
      have := hr.2 ⟨t, WF.of_lay hu.shape hu.hgt⟩
      rw [hr0] at this; cases this
    · have hr1 : r = true := ‹_›
      obtain ⟨u, hu⟩ := hr.1 hr1
      obtain rfl := WF.inj hpa.shape hu
      refine hT u ⟨hpt, hu.sub.shape, hu.hgt⟩ _ _ _ _ ⟨hlen, hP.st.own.frN f3, noF (hP.fr.no f3), fun k hk => ?_⟩
      rcases hP.new k hk with h1 | h1
      · exact absurd h1 (blkO_none k)
      · have := hf.size; omega
end Go.Proofs.YbzaawGreat
