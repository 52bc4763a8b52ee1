/-  'FnExactLex'.  -/
import Derived.Test.YbzabwToks
import Derived.Test.YbzabwOwnT
import Derived.Test.YbzabwMLex
namespace Go.Proofs.Ybzabw
open Go.Wf
set_option linter.unusedSimpArgs false
set_option linter.unusedVariables false

def partsC (v : Value) : List Value := [.slice none 0 0, .slice none 0 0, .slice none 0 0, .slice none 0 0, .slice none 0 0, .slice none 0 0, v, .slice none 0 0]

-- (*laws.parts).addToks
set_option maxHeartbeats 2000000 in
set_option maxRecDepth 20000 in
theorem addToks_ok {w : World} {pb sn sc : Nat} {sa : Option Addr} {qs : List SlT} (x : SlT) (hB : Blk w pb 55 (partsC (.slice sa sn sc))) (ho : Own w 43 1 sa sn sc (qs.map SlT.val)) (hd : ¬ blkO sa pb) (hn : sn ≤ 1000) (R : Value → World → Prop)
    (h : ∀ w' sa' sc', Blk w' pb 55 (partsC (.slice sa' (sn + 1) sc')) → Own w' 43 1 sa' (sn + 1) sc' ((qs ++ [x]).map SlT.val) → ¬ blkO sa' pb → Fr (fun k => k = pb ∨ blkO sa k) w w' → (∀ k, blkO sa' k → blkO sa k ∨ w.heap.size ≤ k) → R (.tuple #[]) w') :
    CallsV Yabo.prog 25 #[.pointer (some ⟨pb, 0, none⟩), .slice x.a x.n x.c] w R := by
  obtain ⟨H, _, hH, hc, _⟩ := hB.keep (emptyH_HS w) (fun o => rfl)
  have c6 : H pb 6 = some (.slice sa sn sc) := hc 6
  have hpl := hB.lt
  refine ent25 (by simp) ?_
  repeat' (first | refine W_seq (fun K hK => ?_) | refine W_block ?_ | refine W_skip ?_ | refine W_exit ?_ | refine W_ret ?_ | refine W_region ?_ | simp (disch := first | (simp only [undef, want_some, upd_app, List.getElem?_cons_succ, List.getElem?_cons_zero, Option.join_some, e_bt, e_bf, Nat.reduceEqDiff, ↓reduceIte, Bool.not_true, Bool.not_false, ne_eq, not_false_eq_true]; done) | ((with_reducible refine pkE ?_); with_unfolding_all rfl) | ((with_reducible refine cszE ?_); with_unfolding_all rfl) | ((with_reducible refine isQE ?_); with_unfolding_all rfl) | assumption | omega) only [List.map_cons, List.map_nil, Nat.add_zero, Nat.reduceEqDiff, b_exit, b_exitN, b_normal, b_ret, c_agg, c_bool, c_int, c_sl, c_str, e52, e_bs0 _ _ k52 ie52 ze52 se52, e_bs1 _ _ k52 ie52 ze52 se52 (by decide), ev_const, ev_tmp, fe_fld _ o55_6, fe_nil, fo_fieldAddr, fo_load, fo_move, fo_nil, init1, init2a, init2b, init3a, init3b, init3c, o_append, o_buildSlice, o_store, put_none, put_some, r_skip, r_value, s_nil, s_none, t_exit, t_normal, t_ret, upd_app, ↓reduceIte, c6, List.map_cons, List.map_nil, d_loud, d_nil, d_quiet, d_someF, d_someT, e_ldH n52 hH, l_enter, l_skip, l_val, q_ld n52 hH, q_val hH] | refine V_app k52 e52 ze52 rfl se52 be52 ho rfl (by simp [oneC]) (by unfold maxLen; omega) (by omega) (fun a' c' w2 ho2 hf2 hn2 => ?_) | refine V_store1 i52 s52 (hB.fr hf2 hd) rfl (by simp [partsC]) (fun w3 hB3 hf3 => ?_) | refine W_drawH hH (by kernel_rfl) (by kernel_rfl) (fun w1 hw1 hH => ?_) | (refine D_split rfl rfl (fun hc => ?_) (fun hc => ?_) <;> (try simp only [decide_eq_true_eq, decide_eq_false_iff_not, Bool.not_eq_true', Bool.not_eq_false', Int.not_lt, Int.not_le, Decidable.not_not] at hc) <;> (try contradiction) <;> (try (exfalso; omega))) | (refine W_cond rfl (fun hc => ?_) (fun hc => ?_) <;> (try simp only [decide_eq_true_eq, decide_eq_false_iff_not, Bool.not_eq_true', Bool.not_eq_false', Int.not_lt, Int.not_le, Decidable.not_not] at hc) <;> (try contradiction) <;> (try (exfalso; omega))) | (refine G_split rfl rfl (fun hc => ?_) (fun hc => ?_) <;> (try simp only [decide_eq_true_eq, decide_eq_false_iff_not, Bool.not_eq_true', Bool.not_eq_false', Int.not_lt, Int.not_le, Decidable.not_not] at hc) <;> (try contradiction) <;> (try (exfalso; omega))) | (with_reducible (refine hK _ _ ?_); clear hK K) | go_step)
  have hd2 : ¬ blkO a' pb := fun e => by
    rcases hn2 pb e with e1 | e1
    · exact hd e1
    · omega
  refine end0 rfl (h _ a' c' ?_ ?_ hd2 ?_ hn2)
  · exact hB3
  · have := ho2.fr hf3 (fun k e1 e2 => by subst e2; exact hd2 e1)
    simpa [SlT.val] using this
  · exact (hf2.mono (fun k _ e => .inr e)).trans hf3 (fun k _ e => .inl e)
theorem lexF_len2 (s : ByteArray) : (lexF s).length ≤ 65536 := by
  unfold lexF
  split
  · simp
  · have h : ∀ n i, (lexN s n i).length ≤ n := by
      intro n
      induction n with
      | zero => intro i; simp [lexN]
      | succ n ih =>
        intro i
        simp only [lexN]
        split
        · have h1 : (lexStep s i).1.length ≤ 1 := by unfold lexStep; repeat' split
                                                     all_goals simp
          have := ih (lexStep s i).2
          simp; omega
        · simp
    have := h (s.size - 0) 0
    unfold lexFrom; omega

def Tok.nd (t : Tok) : Nd := ⟨t.kind, t.text, t.pos, t.val⟩
theorem enc_nd (ts : List Tok) : encToks ts = encNds (ts.map Tok.nd) := by
  unfold encToks encNds
  rw [List.flatMap_map]
  rfl
theorem GotToks.nds {w w' : World} {a : Option Addr} {n c : Nat} {ts : List Tok} (g : GotToks w w' a n c ts) : GotNds 59 w w' a n c (ts.map Tok.nd) := ⟨by simp [g.len], by rw [← enc_nd]; exact g.own, g.fr, g.new⟩
end Go.Proofs.Ybzabw
namespace Go.Wf
/-- The row of an owned slice. -/
theorem Own.rowOf {w : World} {E sz n c : Nat} {a : Option Addr} {xs : List Value} (h : Own w E sz a n c xs) : n = 0 ∨ ∃ g cur, a = some ⟨g, 0, none⟩ ∧ Blk w g E cur ∧ n * sz ≤ cur.length := by
  rcases h.form.2 with ⟨_, h1, _⟩ | ⟨g, cur, rfl, h1, h2, _, h4, _⟩
  · exact .inl h1
  · exact .inr ⟨g, cur.toList, rfl, ⟨h1⟩, by simp [h4]; exact Nat.mul_le_mul_right _ h2⟩
theorem ablk_blkO {a : Option Addr} {n : Nat} (ha : IsA a n) (hn : n ≠ 0) : blkO a (ablk a) := by
  rcases ha with h | h
  · exact absurd h hn
  · rw [h]; simp [blkO, ablk]
theorem Own.isA {w : World} {E sz n c : Nat} {a : Option Addr} {xs : List Value} (h : Own w E sz a n c xs) : IsA a n := by
  rcases h.rowOf with h | ⟨g, cur, rfl, _, _⟩
  · exact .inl h
  · exact IsA.some _ _ _
/-- Two owned slices in blocks of their own are a family. -/
theorem fam2 {w : World} {E sz n c m d : Nat} {a b : Option Addr} {xs ys : List Value} (h1 : Own w E sz a n c xs) (h2 : Own w E sz b m d ys) (hd : ∀ k, blkO a k → ¬ blkO b k) : FamOk w E sz [⟨a, n, c⟩, ⟨b, m, d⟩] := by
  refine ⟨fun k x hx => ?_, fun k k' x x' hx hx' hn hn' he => ?_⟩
  · match k, hx with
    | 0, hx => simp at hx; subst hx; exact h1.rowOf
    | 1, hx => simp at hx; subst hx; exact h2.rowOf
    | k + 2, hx => simp at hx
  · match k, k', hx, hx' with
    | 0, 0, _, _ => rfl
    | 1, 1, _, _ => rfl
    | 0, 1, hx, hx' =>
      simp at hx hx'; subst hx; subst hx'
      exact absurd (show blkO b (ablk a) by rw [he]; exact ablk_blkO h2.isA hn') (hd _ (ablk_blkO h1.isA hn))
    | 1, 0, hx, hx' =>
      simp at hx hx'; subst hx; subst hx'
      exact absurd (show blkO b (ablk a) by rw [← he]; exact ablk_blkO h2.isA hn) (hd _ (ablk_blkO h1.isA hn'))
    | k + 2, _, hx, _ => simp at hx
    | 0, k + 2, _, hx' => simp at hx'
    | 1, k + 2, _, hx' => simp at hx'

theorem famB2 {n c m d : Nat} {a b : Option Addr} (ha : IsA a n) (hb : IsA b m) {k : Nat} (h : famB [⟨a, n, c⟩, ⟨b, m, d⟩] k) : blkO a k ∨ blkO b k := by
  obtain ⟨x, hx, hn, rfl⟩ := h
  simp at hx
  rcases hx with rfl | rfl
  · exact .inl (ablk_blkO ha hn)
  · exact .inr (ablk_blkO hb hn)
end Go.Wf
namespace Go.Proofs.Ybzabw
open Go.Wf
set_option linter.unusedSimpArgs false
set_option linter.unusedVariables false

-- laws.FnExactLex
set_option maxHeartbeats 4000000 in
set_option maxRecDepth 20000 in
theorem exactLex_ok (s : ByteArray) (w : World) (R : Value → World → Prop) (h : ∀ w', Fr noB w w' → R (.bool true) w') : CallsV Yabo.prog 5 #[.string s] w R := by
  have hln := lexF_len2 s
  obtain ⟨xs, hxs⟩ : ∃ xs, xs = (lexF s).map Tok.nd := ⟨_, rfl⟩
  have hxl : xs.length ≤ 65536 := by rw [hxs]; simpa using hln
  refine ent5 (by simp) ?_
  repeat' (first | refine W_seq (fun K hK => ?_) | refine W_block ?_ | refine W_skip ?_ | refine W_exit ?_ | refine W_ret ?_ | refine W_region ?_ | simp (disch := first | (simp only [undef, want_some, upd_app, List.getElem?_cons_succ, List.getElem?_cons_zero, Option.join_some, e_bt, e_bf, Nat.reduceEqDiff, ↓reduceIte, Bool.not_true, Bool.not_false, ne_eq, not_false_eq_true]; done) | ((with_reducible refine pkE ?_); with_unfolding_all rfl) | ((with_reducible refine cszE ?_); with_unfolding_all rfl) | ((with_reducible refine isQE ?_); with_unfolding_all rfl) | assumption | omega) only [Bool.false_eq_true, Bool.not_false, Bool.not_true, List.map_cons, List.map_nil, List.map_toArray, List.set_cons_succ, List.set_cons_zero, Nat.reduceEqDiff, b_exit, b_exitN, b_normal, b_ret, e_alloc _ _ _ _ z55, e_ifF, e_ifT, e_stn _ _ i55 s55, ev_const, ev_tmp, fe_build _ bl55, fe_gtr, fe_lenS _ _ _ k9, fe_not, fe_pick, fo_assign, fo_bin, fo_build, fo_len, fo_move, fo_notV, fo_pick, init1, init2a, init2b, init3a, init3b, init3c, o_alloc, o_call _ _ _ _ _ _ _ c21, o_call _ _ _ _ _ _ _ c22, o_call _ _ _ _ _ _ _ c23, o_call _ _ _ _ _ _ _ c24, o_call _ _ _ _ _ _ _ c25, o_call _ _ _ _ _ _ _ c26, o_store, put_none, put_some, r_enter, r_skip, r_value, s_nil, s_none, s_someF, s_someT, sp_cons, sp_nil, t_exit, t_normal, t_ret, upd_app, ↓reduceIte] | (refine W_cond rfl (fun hc => ?_) (fun hc => ?_) <;> (try simp only [decide_eq_true_eq, decide_eq_false_iff_not, Bool.not_eq_true', Bool.not_eq_false', Int.not_lt, Int.not_le, Decidable.not_not] at hc) <;> (try contradiction) <;> (try (exfalso; omega))) | (refine G_split rfl rfl (fun hc => ?_) (fun hc => ?_) <;> (try simp only [decide_eq_true_eq, decide_eq_false_iff_not, Bool.not_eq_true', Bool.not_eq_false', Int.not_lt, Int.not_le, Decidable.not_not] at hc) <;> (try contradiction) <;> (try (exfalso; omega))) | (with_reducible (refine hK _ _ ?_); clear hK K) | go_step)
  · refine ret1 rfl ?_; simp (disch := first | (simp only [undef, want_some, upd_app, List.getElem?_cons_succ, List.getElem?_cons_zero, Option.join_some, e_bt, e_bf, Nat.reduceEqDiff, ↓reduceIte, Bool.not_true, Bool.not_false, ne_eq, not_false_eq_true]; done) | ((with_reducible refine pkE ?_); with_unfolding_all rfl) | ((with_reducible refine cszE ?_); with_unfolding_all rfl) | ((with_reducible refine isQE ?_); with_unfolding_all rfl) | assumption | omega) only [Bool.false_eq_true, Bool.not_false, Bool.not_true, List.map_cons, List.map_nil, List.map_toArray, List.set_cons_succ, List.set_cons_zero, Nat.reduceEqDiff, b_exit, b_exitN, b_normal, b_ret, e_alloc _ _ _ _ z55, e_ifF, e_ifT, e_stn _ _ i55 s55, ev_const, ev_tmp, fe_build _ bl55, fe_gtr, fe_lenS _ _ _ k9, fe_not, fe_pick, fo_assign, fo_bin, fo_build, fo_len, fo_move, fo_notV, fo_pick, init1, init2a, init2b, init3a, init3b, init3c, o_alloc, o_call _ _ _ _ _ _ _ c21, o_call _ _ _ _ _ _ _ c22, o_call _ _ _ _ _ _ _ c23, o_call _ _ _ _ _ _ _ c24, o_call _ _ _ _ _ _ _ c25, o_call _ _ _ _ _ _ _ c26, o_store, put_none, put_some, r_enter, r_skip, r_value, s_nil, s_none, s_someF, s_someT, sp_cons, sp_nil, t_exit, t_normal, t_ret, upd_app, ↓reduceIte]
    exact h _ (Fr.refl _ _)
  refine mlex_ok s (by omega) _ _ (fun a1 n1 c1 w1 g1 => ?_)
  have g1 := g1.nds
  rw [← hxs] at g1
  obtain ⟨H1, _, hH1, t1⟩ := g1.keep (emptyH_HS w)
  have l1 := g1.len
  repeat' (first | refine W_seq (fun K hK => ?_) | refine W_block ?_ | refine W_skip ?_ | refine W_exit ?_ | refine W_ret ?_ | refine W_region ?_ | simp (disch := first | (simp only [undef, want_some, upd_app, List.getElem?_cons_succ, List.getElem?_cons_zero, Option.join_some, e_bt, e_bf, Nat.reduceEqDiff, ↓reduceIte, Bool.not_true, Bool.not_false, ne_eq, not_false_eq_true]; done) | ((with_reducible refine pkE ?_); with_unfolding_all rfl) | ((with_reducible refine cszE ?_); with_unfolding_all rfl) | ((with_reducible refine isQE ?_); with_unfolding_all rfl) | assumption | omega) only [Bool.false_eq_true, Bool.not_false, Bool.not_true, List.map_cons, List.map_nil, List.map_toArray, List.set_cons_succ, List.set_cons_zero, Nat.reduceEqDiff, b_exit, b_exitN, b_normal, b_ret, e_alloc _ _ _ _ z55, e_ifF, e_ifT, e_stn _ _ i55 s55, ev_const, ev_tmp, fe_build _ bl55, fe_gtr, fe_lenS _ _ _ k9, fe_not, fe_pick, fo_assign, fo_bin, fo_build, fo_len, fo_move, fo_notV, fo_pick, init1, init2a, init2b, init3a, init3b, init3c, o_alloc, o_call _ _ _ _ _ _ _ c21, o_call _ _ _ _ _ _ _ c22, o_call _ _ _ _ _ _ _ c23, o_call _ _ _ _ _ _ _ c24, o_call _ _ _ _ _ _ _ c25, o_call _ _ _ _ _ _ _ c26, o_store, put_none, put_some, r_enter, r_skip, r_value, s_nil, s_none, s_someF, s_someT, sp_cons, sp_nil, t_exit, t_normal, t_ret, upd_app, ↓reduceIte] | (refine W_cond rfl (fun hc => ?_) (fun hc => ?_) <;> (try simp only [decide_eq_true_eq, decide_eq_false_iff_not, Bool.not_eq_true', Bool.not_eq_false', Int.not_lt, Int.not_le, Decidable.not_not] at hc) <;> (try contradiction) <;> (try (exfalso; omega))) | (refine G_split rfl rfl (fun hc => ?_) (fun hc => ?_) <;> (try simp only [decide_eq_true_eq, decide_eq_false_iff_not, Bool.not_eq_true', Bool.not_eq_false', Int.not_lt, Int.not_le, Decidable.not_not] at hc) <;> (try contradiction) <;> (try (exfalso; omega))) | (with_reducible (refine hK _ _ ?_); clear hK K) | go_step)
  refine cvToks_ok hH1 t1 (by omega) _ (fun a2 c2 w2 g2 => ?_)
  obtain ⟨H2, _, hH2, t2⟩ := g2.keep hH1
  repeat' (first | refine W_seq (fun K hK => ?_) | refine W_block ?_ | refine W_skip ?_ | refine W_exit ?_ | refine W_ret ?_ | refine W_region ?_ | simp (disch := first | (simp only [undef, want_some, upd_app, List.getElem?_cons_succ, List.getElem?_cons_zero, Option.join_some, e_bt, e_bf, Nat.reduceEqDiff, ↓reduceIte, Bool.not_true, Bool.not_false, ne_eq, not_false_eq_true]; done) | ((with_reducible refine pkE ?_); with_unfolding_all rfl) | ((with_reducible refine cszE ?_); with_unfolding_all rfl) | ((with_reducible refine isQE ?_); with_unfolding_all rfl) | assumption | omega) only [Bool.false_eq_true, Bool.not_false, Bool.not_true, List.map_cons, List.map_nil, List.map_toArray, List.set_cons_succ, List.set_cons_zero, Nat.reduceEqDiff, b_exit, b_exitN, b_normal, b_ret, e_alloc _ _ _ _ z55, e_ifF, e_ifT, e_stn _ _ i55 s55, ev_const, ev_tmp, fe_build _ bl55, fe_gtr, fe_lenS _ _ _ k9, fe_not, fe_pick, fo_assign, fo_bin, fo_build, fo_len, fo_move, fo_notV, fo_pick, init1, init2a, init2b, init3a, init3b, init3c, o_alloc, o_call _ _ _ _ _ _ _ c21, o_call _ _ _ _ _ _ _ c22, o_call _ _ _ _ _ _ _ c23, o_call _ _ _ _ _ _ _ c24, o_call _ _ _ _ _ _ _ c25, o_call _ _ _ _ _ _ _ c26, o_store, put_none, put_some, r_enter, r_skip, r_value, s_nil, s_none, s_someF, s_someT, sp_cons, sp_nil, t_exit, t_normal, t_ret, upd_app, ↓reduceIte] | (refine W_cond rfl (fun hc => ?_) (fun hc => ?_) <;> (try simp only [decide_eq_true_eq, decide_eq_false_iff_not, Bool.not_eq_true', Bool.not_eq_false', Int.not_lt, Int.not_le, Decidable.not_not] at hc) <;> (try contradiction) <;> (try (exfalso; omega))) | (refine G_split rfl rfl (fun hc => ?_) (fun hc => ?_) <;> (try simp only [decide_eq_true_eq, decide_eq_false_iff_not, Bool.not_eq_true', Bool.not_eq_false', Int.not_lt, Int.not_le, Decidable.not_not] at hc) <;> (try contradiction) <;> (try (exfalso; omega))) | (with_reducible (refine hK _ _ ?_); clear hK K) | go_step)
  refine lex_ok s (by omega) _ _ (fun a3 n3 c3 w3 g3 => ?_)
  have g3 := g3.nds
  rw [← hxs] at g3
  obtain ⟨H3, l3, hH3, t3⟩ := g3.keep hH2
  have l3n := g3.len
  repeat' (first | refine W_seq (fun K hK => ?_) | refine W_block ?_ | refine W_skip ?_ | refine W_exit ?_ | refine W_ret ?_ | refine W_region ?_ | simp (disch := first | (simp only [undef, want_some, upd_app, List.getElem?_cons_succ, List.getElem?_cons_zero, Option.join_some, e_bt, e_bf, Nat.reduceEqDiff, ↓reduceIte, Bool.not_true, Bool.not_false, ne_eq, not_false_eq_true]; done) | ((with_reducible refine pkE ?_); with_unfolding_all rfl) | ((with_reducible refine cszE ?_); with_unfolding_all rfl) | ((with_reducible refine isQE ?_); with_unfolding_all rfl) | assumption | omega) only [Bool.false_eq_true, Bool.not_false, Bool.not_true, List.map_cons, List.map_nil, List.map_toArray, List.set_cons_succ, List.set_cons_zero, Nat.reduceEqDiff, b_exit, b_exitN, b_normal, b_ret, e_alloc _ _ _ _ z55, e_ifF, e_ifT, e_stn _ _ i55 s55, ev_const, ev_tmp, fe_build _ bl55, fe_gtr, fe_lenS _ _ _ k9, fe_not, fe_pick, fo_assign, fo_bin, fo_build, fo_len, fo_move, fo_notV, fo_pick, init1, init2a, init2b, init3a, init3b, init3c, o_alloc, o_call _ _ _ _ _ _ _ c21, o_call _ _ _ _ _ _ _ c22, o_call _ _ _ _ _ _ _ c23, o_call _ _ _ _ _ _ _ c24, o_call _ _ _ _ _ _ _ c25, o_call _ _ _ _ _ _ _ c26, o_store, put_none, put_some, r_enter, r_skip, r_value, s_nil, s_none, s_someF, s_someT, sp_cons, sp_nil, t_exit, t_normal, t_ret, upd_app, ↓reduceIte] | (refine W_cond rfl (fun hc => ?_) (fun hc => ?_) <;> (try simp only [decide_eq_true_eq, decide_eq_false_iff_not, Bool.not_eq_true', Bool.not_eq_false', Int.not_lt, Int.not_le, Decidable.not_not] at hc) <;> (try contradiction) <;> (try (exfalso; omega))) | (refine G_split rfl rfl (fun hc => ?_) (fun hc => ?_) <;> (try simp only [decide_eq_true_eq, decide_eq_false_iff_not, Bool.not_eq_true', Bool.not_eq_false', Int.not_lt, Int.not_le, Decidable.not_not] at hc) <;> (try contradiction) <;> (try (exfalso; omega))) | (with_reducible (refine hK _ _ ?_); clear hK K) | go_step)
  refine lex_ok s (by omega) _ _ (fun a4 n4 c4 w4 g4 => ?_)
  have g4 := g4.nds
  rw [← hxs] at g4
  obtain ⟨H4, l4, hH4, t4⟩ := g4.keep hH3
  have l4n := g4.len
  repeat' (first | refine W_seq (fun K hK => ?_) | refine W_block ?_ | refine W_skip ?_ | refine W_exit ?_ | refine W_ret ?_ | refine W_region ?_ | simp (disch := first | (simp only [undef, want_some, upd_app, List.getElem?_cons_succ, List.getElem?_cons_zero, Option.join_some, e_bt, e_bf, Nat.reduceEqDiff, ↓reduceIte, Bool.not_true, Bool.not_false, ne_eq, not_false_eq_true]; done) | ((with_reducible refine pkE ?_); with_unfolding_all rfl) | ((with_reducible refine cszE ?_); with_unfolding_all rfl) | ((with_reducible refine isQE ?_); with_unfolding_all rfl) | assumption | omega) only [Bool.false_eq_true, Bool.not_false, Bool.not_true, List.map_cons, List.map_nil, List.map_toArray, List.set_cons_succ, List.set_cons_zero, Nat.reduceEqDiff, b_exit, b_exitN, b_normal, b_ret, e_alloc _ _ _ _ z55, e_ifF, e_ifT, e_stn _ _ i55 s55, ev_const, ev_tmp, fe_build _ bl55, fe_gtr, fe_lenS _ _ _ k9, fe_not, fe_pick, fo_assign, fo_bin, fo_build, fo_len, fo_move, fo_notV, fo_pick, init1, init2a, init2b, init3a, init3b, init3c, o_alloc, o_call _ _ _ _ _ _ _ c21, o_call _ _ _ _ _ _ _ c22, o_call _ _ _ _ _ _ _ c23, o_call _ _ _ _ _ _ _ c24, o_call _ _ _ _ _ _ _ c25, o_call _ _ _ _ _ _ _ c26, o_store, put_none, put_some, r_enter, r_skip, r_value, s_nil, s_none, s_someF, s_someT, sp_cons, sp_nil, t_exit, t_normal, t_ret, upd_app, ↓reduceIte] | (refine W_cond rfl (fun hc => ?_) (fun hc => ?_) <;> (try simp only [decide_eq_true_eq, decide_eq_false_iff_not, Bool.not_eq_true', Bool.not_eq_false', Int.not_lt, Int.not_le, Decidable.not_not] at hc) <;> (try contradiction) <;> (try (exfalso; omega))) | (refine G_split rfl rfl (fun hc => ?_) (fun hc => ?_) <;> (try simp only [decide_eq_true_eq, decide_eq_false_iff_not, Bool.not_eq_true', Bool.not_eq_false', Int.not_lt, Int.not_le, Decidable.not_not] at hc) <;> (try contradiction) <;> (try (exfalso; omega))) | (with_reducible (refine hK _ _ ?_); clear hK K) | go_step)
  refine cvToks_ok hH4 (t3.mono l4) (by omega) _ (fun a5 c5 w5 g5 => ?_)
  obtain ⟨H5, l5, hH5, t5⟩ := g5.keep hH4
  repeat' (first | refine W_seq (fun K hK => ?_) | refine W_block ?_ | refine W_skip ?_ | refine W_exit ?_ | refine W_ret ?_ | refine W_region ?_ | simp (disch := first | (simp only [undef, want_some, upd_app, List.getElem?_cons_succ, List.getElem?_cons_zero, Option.join_some, e_bt, e_bf, Nat.reduceEqDiff, ↓reduceIte, Bool.not_true, Bool.not_false, ne_eq, not_false_eq_true]; done) | ((with_reducible refine pkE ?_); with_unfolding_all rfl) | ((with_reducible refine cszE ?_); with_unfolding_all rfl) | ((with_reducible refine isQE ?_); with_unfolding_all rfl) | assumption | omega) only [Bool.false_eq_true, Bool.not_false, Bool.not_true, List.map_cons, List.map_nil, List.map_toArray, List.set_cons_succ, List.set_cons_zero, Nat.reduceEqDiff, b_exit, b_exitN, b_normal, b_ret, e_alloc _ _ _ _ z55, e_ifF, e_ifT, e_stn _ _ i55 s55, ev_const, ev_tmp, fe_build _ bl55, fe_gtr, fe_lenS _ _ _ k9, fe_not, fe_pick, fo_assign, fo_bin, fo_build, fo_len, fo_move, fo_notV, fo_pick, init1, init2a, init2b, init3a, init3b, init3c, o_alloc, o_call _ _ _ _ _ _ _ c21, o_call _ _ _ _ _ _ _ c22, o_call _ _ _ _ _ _ _ c23, o_call _ _ _ _ _ _ _ c24, o_call _ _ _ _ _ _ _ c25, o_call _ _ _ _ _ _ _ c26, o_store, put_none, put_some, r_enter, r_skip, r_value, s_nil, s_none, s_someF, s_someT, sp_cons, sp_nil, t_exit, t_normal, t_ret, upd_app, ↓reduceIte] | (refine W_cond rfl (fun hc => ?_) (fun hc => ?_) <;> (try simp only [decide_eq_true_eq, decide_eq_false_iff_not, Bool.not_eq_true', Bool.not_eq_false', Int.not_lt, Int.not_le, Decidable.not_not] at hc) <;> (try contradiction) <;> (try (exfalso; omega))) | (refine G_split rfl rfl (fun hc => ?_) (fun hc => ?_) <;> (try simp only [decide_eq_true_eq, decide_eq_false_iff_not, Bool.not_eq_true', Bool.not_eq_false', Int.not_lt, Int.not_le, Decidable.not_not] at hc) <;> (try contradiction) <;> (try (exfalso; omega))) | (with_reducible (refine hK _ _ ?_); clear hK K) | go_step)
  have l25 := (l3.trans l4).trans l5
  refine eqLT_ok hH5 t5 (t2.mono l25) (by omega) _ (fun q w6 hq f6 => ?_)
  obtain rfl : q = true := hq.2 rfl
  have hH6 := hH5.frN f6
  repeat' (first | refine W_seq (fun K hK => ?_) | refine W_block ?_ | refine W_skip ?_ | refine W_exit ?_ | refine W_ret ?_ | refine W_region ?_ | simp (disch := first | (simp only [undef, want_some, upd_app, List.getElem?_cons_succ, List.getElem?_cons_zero, Option.join_some, e_bt, e_bf, Nat.reduceEqDiff, ↓reduceIte, Bool.not_true, Bool.not_false, ne_eq, not_false_eq_true]; done) | ((with_reducible refine pkE ?_); with_unfolding_all rfl) | ((with_reducible refine cszE ?_); with_unfolding_all rfl) | ((with_reducible refine isQE ?_); with_unfolding_all rfl) | assumption | omega) only [Bool.false_eq_true, Bool.not_false, Bool.not_true, List.map_cons, List.map_nil, List.map_toArray, List.set_cons_succ, List.set_cons_zero, Nat.reduceEqDiff, b_exit, b_exitN, b_normal, b_ret, e_alloc _ _ _ _ z55, e_ifF, e_ifT, e_stn _ _ i55 s55, ev_const, ev_tmp, fe_build _ bl55, fe_gtr, fe_lenS _ _ _ k9, fe_not, fe_pick, fo_assign, fo_bin, fo_build, fo_len, fo_move, fo_notV, fo_pick, init1, init2a, init2b, init3a, init3b, init3c, o_alloc, o_call _ _ _ _ _ _ _ c21, o_call _ _ _ _ _ _ _ c22, o_call _ _ _ _ _ _ _ c23, o_call _ _ _ _ _ _ _ c24, o_call _ _ _ _ _ _ _ c25, o_call _ _ _ _ _ _ _ c26, o_store, put_none, put_some, r_enter, r_skip, r_value, s_nil, s_none, s_someF, s_someT, sp_cons, sp_nil, t_exit, t_normal, t_ret, upd_app, ↓reduceIte, Bool.not_true] | (refine W_cond rfl (fun hc => ?_) (fun hc => ?_) <;> (try simp only [decide_eq_true_eq, decide_eq_false_iff_not, Bool.not_eq_true', Bool.not_eq_false', Int.not_lt, Int.not_le, Decidable.not_not] at hc) <;> (try contradiction) <;> (try (exfalso; omega))) | (refine G_split rfl rfl (fun hc => ?_) (fun hc => ?_) <;> (try simp only [decide_eq_true_eq, decide_eq_false_iff_not, Bool.not_eq_true', Bool.not_eq_false', Int.not_lt, Int.not_le, Decidable.not_not] at hc) <;> (try contradiction) <;> (try (exfalso; omega))) | (with_reducible (refine hK _ _ ?_); clear hK K) | go_step)
  refine cvToks_ok hH6 (t4.mono l5) (by omega) _ (fun a7 c7 w7 g7 => ?_)
  obtain ⟨H7, l7, hH7, t7⟩ := g7.keep hH6
  repeat' (first | refine W_seq (fun K hK => ?_) | refine W_block ?_ | refine W_skip ?_ | refine W_exit ?_ | refine W_ret ?_ | refine W_region ?_ | simp (disch := first | (simp only [undef, want_some, upd_app, List.getElem?_cons_succ, List.getElem?_cons_zero, Option.join_some, e_bt, e_bf, Nat.reduceEqDiff, ↓reduceIte, Bool.not_true, Bool.not_false, ne_eq, not_false_eq_true]; done) | ((with_reducible refine pkE ?_); with_unfolding_all rfl) | ((with_reducible refine cszE ?_); with_unfolding_all rfl) | ((with_reducible refine isQE ?_); with_unfolding_all rfl) | assumption | omega) only [Bool.false_eq_true, Bool.not_false, Bool.not_true, List.map_cons, List.map_nil, List.map_toArray, List.set_cons_succ, List.set_cons_zero, Nat.reduceEqDiff, b_exit, b_exitN, b_normal, b_ret, e_alloc _ _ _ _ z55, e_ifF, e_ifT, e_stn _ _ i55 s55, ev_const, ev_tmp, fe_build _ bl55, fe_gtr, fe_lenS _ _ _ k9, fe_not, fe_pick, fo_assign, fo_bin, fo_build, fo_len, fo_move, fo_notV, fo_pick, init1, init2a, init2b, init3a, init3b, init3c, o_alloc, o_call _ _ _ _ _ _ _ c21, o_call _ _ _ _ _ _ _ c22, o_call _ _ _ _ _ _ _ c23, o_call _ _ _ _ _ _ _ c24, o_call _ _ _ _ _ _ _ c25, o_call _ _ _ _ _ _ _ c26, o_store, put_none, put_some, r_enter, r_skip, r_value, s_nil, s_none, s_someF, s_someT, sp_cons, sp_nil, t_exit, t_normal, t_ret, upd_app, ↓reduceIte, Bool.not_true] | (refine W_cond rfl (fun hc => ?_) (fun hc => ?_) <;> (try simp only [decide_eq_true_eq, decide_eq_false_iff_not, Bool.not_eq_true', Bool.not_eq_false', Int.not_lt, Int.not_le, Decidable.not_not] at hc) <;> (try contradiction) <;> (try (exfalso; omega))) | (refine G_split rfl rfl (fun hc => ?_) (fun hc => ?_) <;> (try simp only [decide_eq_true_eq, decide_eq_false_iff_not, Bool.not_eq_true', Bool.not_eq_false', Int.not_lt, Int.not_le, Decidable.not_not] at hc) <;> (try contradiction) <;> (try (exfalso; omega))) | (with_reducible (refine hK _ _ ?_); clear hK K) | go_step)
  refine eqLT_ok hH7 t7 (t2.mono (l25.trans l7)) (by omega) _ (fun q w8 hq f8 => ?_)
  obtain rfl : q = true := hq.2 rfl
  repeat' (first | with_reducible refine VC_stop _ ?_ | refine W_seq (fun K hK => ?_) | refine W_block ?_ | refine W_skip ?_ | refine W_exit ?_ | refine W_ret ?_ | refine W_region ?_ | simp (disch := first | (simp only [undef, want_some, upd_app, List.getElem?_cons_succ, List.getElem?_cons_zero, Option.join_some, e_bt, e_bf, Nat.reduceEqDiff, ↓reduceIte, Bool.not_true, Bool.not_false, ne_eq, not_false_eq_true]; done) | ((with_reducible refine pkE ?_); with_unfolding_all rfl) | ((with_reducible refine cszE ?_); with_unfolding_all rfl) | ((with_reducible refine isQE ?_); with_unfolding_all rfl) | assumption | omega) only [Bool.false_eq_true, Bool.not_false, Bool.not_true, List.map_cons, List.map_nil, List.map_toArray, List.set_cons_succ, List.set_cons_zero, Nat.reduceEqDiff, b_exit, b_exitN, b_normal, b_ret, e_alloc _ _ _ _ z55, e_ifF, e_ifT, e_stn _ _ i55 s55, ev_const, ev_tmp, fe_build _ bl55, fe_gtr, fe_lenS _ _ _ k9, fe_not, fe_pick, fo_assign, fo_bin, fo_build, fo_len, fo_move, fo_notV, fo_pick, init1, init2a, init2b, init3a, init3b, init3c, o_alloc, o_call _ _ _ _ _ _ _ c21, o_call _ _ _ _ _ _ _ c22, o_call _ _ _ _ _ _ _ c23, o_call _ _ _ _ _ _ _ c24, o_call _ _ _ _ _ _ _ c25, o_call _ _ _ _ _ _ _ c26, o_store, put_none, put_some, r_enter, r_skip, r_value, s_nil, s_none, s_someF, s_someT, sp_cons, sp_nil, t_exit, t_normal, t_ret, upd_app, ↓reduceIte, Bool.not_true] | (refine W_cond rfl (fun hc => ?_) (fun hc => ?_) <;> (try simp only [decide_eq_true_eq, decide_eq_false_iff_not, Bool.not_eq_true', Bool.not_eq_false', Int.not_lt, Int.not_le, Decidable.not_not] at hc) <;> (try contradiction) <;> (try (exfalso; omega))) | (refine G_split rfl rfl (fun hc => ?_) (fun hc => ?_) <;> (try simp only [decide_eq_true_eq, decide_eq_false_iff_not, Bool.not_eq_true', Bool.not_eq_false', Int.not_lt, Int.not_le, Decidable.not_not] at hc) <;> (try contradiction) <;> (try (exfalso; omega))) | (with_reducible (refine hK _ _ ?_); clear hK K) | go_step)
  refine ⟨?_⟩
  have F8 : Fr noB w4 w8 := ((g5.fr.no f6).no g7.fr).no f8
  have n2 : ∀ k, w2.heap.size ≤ k → ∀ o, H2 k o = none := fun k hk o => hH2.off hk o
  have hH28 : HS H2 w8 := hH2.frN ((g3.fr.no g4.fr).no F8)
  have o3 := g3.own.frN (g4.fr.no F8)
  have o4 := g4.own.frN F8
  have F08 : Fr noB w w8 := (((g1.fr.no g2.fr).no g3.fr).no g4.fr).no F8
  have S2 := (g1.fr.no g2.fr).size
  have S3 := g3.fr.size
  have S4 := g4.fr.size
  have S8 := F8.size
  have b3 : ∀ k, blkO a3 k → w2.heap.size ≤ k ∧ k < w3.heap.size := fun k e => ⟨g3.new k e, g3.own.lt e⟩
  have b4 : ∀ k, blkO a4 k → w3.heap.size ≤ k ∧ k < w4.heap.size := fun k e => ⟨g4.new k e, g4.own.lt e⟩
  have hB9 : Blk (w8.alloc (.cells (partsC (.slice none 0 0)).toArray 55)) w8.heap.size 55 (partsC (.slice none 0 0)) := Blk.new _ _ _
  have f9 : Fr noB w8 (w8.alloc (.cells (partsC (.slice none 0 0)).toArray 55)) := Fr.alloc _ _ _ _
  change VC _ _ _ _ (w8.alloc (.cells (partsC (.slice none 0 0)).toArray 55))
  generalize w8.alloc (.cells (partsC (.slice none 0 0)).toArray 55) = w9 at hB9 f9 ⊢
  obtain ⟨pb, hpb⟩ : ∃ pb, pb = w8.heap.size := ⟨_, rfl⟩
  rw [← hpb] at hB9 ⊢
  have S9 := f9.size
  clear hH1 hH3 hH4 hH5 hH6 hH7 t3 t4 t5 t7 l3 l4 l5 l25 l7
  repeat' (first | refine W_seq (fun K hK => ?_) | refine W_block ?_ | refine W_skip ?_ | refine W_exit ?_ | refine W_ret ?_ | refine W_region ?_ | simp (disch := first | (simp only [undef, want_some, upd_app, List.getElem?_cons_succ, List.getElem?_cons_zero, Option.join_some, e_bt, e_bf, Nat.reduceEqDiff, ↓reduceIte, Bool.not_true, Bool.not_false, ne_eq, not_false_eq_true]; done) | ((with_reducible refine pkE ?_); with_unfolding_all rfl) | ((with_reducible refine cszE ?_); with_unfolding_all rfl) | ((with_reducible refine isQE ?_); with_unfolding_all rfl) | assumption | omega) only [Bool.false_eq_true, Bool.not_false, Bool.not_true, List.map_cons, List.map_nil, List.map_toArray, List.set_cons_succ, List.set_cons_zero, Nat.reduceEqDiff, b_exit, b_exitN, b_normal, b_ret, e_alloc _ _ _ _ z55, e_ifF, e_ifT, e_stn _ _ i55 s55, ev_const, ev_tmp, fe_build _ bl55, fe_gtr, fe_lenS _ _ _ k9, fe_not, fe_pick, fo_assign, fo_bin, fo_build, fo_len, fo_move, fo_notV, fo_pick, init1, init2a, init2b, init3a, init3b, init3c, o_alloc, o_call _ _ _ _ _ _ _ c21, o_call _ _ _ _ _ _ _ c22, o_call _ _ _ _ _ _ _ c23, o_call _ _ _ _ _ _ _ c24, o_call _ _ _ _ _ _ _ c25, o_call _ _ _ _ _ _ _ c26, o_store, put_none, put_some, r_enter, r_skip, r_value, s_nil, s_none, s_someF, s_someT, sp_cons, sp_nil, t_exit, t_normal, t_ret, upd_app, ↓reduceIte] | (refine W_cond rfl (fun hc => ?_) (fun hc => ?_) <;> (try simp only [decide_eq_true_eq, decide_eq_false_iff_not, Bool.not_eq_true', Bool.not_eq_false', Int.not_lt, Int.not_le, Decidable.not_not] at hc) <;> (try contradiction) <;> (try (exfalso; omega))) | (refine G_split rfl rfl (fun hc => ?_) (fun hc => ?_) <;> (try simp only [decide_eq_true_eq, decide_eq_false_iff_not, Bool.not_eq_true', Bool.not_eq_false', Int.not_lt, Int.not_le, Decidable.not_not] at hc) <;> (try contradiction) <;> (try (exfalso; omega))) | (with_reducible (refine hK _ _ ?_); clear hK K) | go_step)
  refine addToks_ok ⟨a3, n3, c3⟩ (qs := []) hB9 (Own.nil _ _ _) (blkO_none _) (by omega) _ (fun w10 s10 c10 hB10 ho10 hd10 hf10 hn10 => ?_)
  have m10 : ∀ k, blkO s10 k → w9.heap.size ≤ k := fun k e => (hn10 k e).resolve_left (blkO_none k)
  have S10 := hf10.size
  repeat' (first | refine W_seq (fun K hK => ?_) | refine W_block ?_ | refine W_skip ?_ | refine W_exit ?_ | refine W_ret ?_ | refine W_region ?_ | simp (disch := first | (simp only [undef, want_some, upd_app, List.getElem?_cons_succ, List.getElem?_cons_zero, Option.join_some, e_bt, e_bf, Nat.reduceEqDiff, ↓reduceIte, Bool.not_true, Bool.not_false, ne_eq, not_false_eq_true]; done) | ((with_reducible refine pkE ?_); with_unfolding_all rfl) | ((with_reducible refine cszE ?_); with_unfolding_all rfl) | ((with_reducible refine isQE ?_); with_unfolding_all rfl) | assumption | omega) only [Bool.false_eq_true, Bool.not_false, Bool.not_true, List.map_cons, List.map_nil, List.map_toArray, List.set_cons_succ, List.set_cons_zero, Nat.reduceEqDiff, b_exit, b_exitN, b_normal, b_ret, e_alloc _ _ _ _ z55, e_ifF, e_ifT, e_stn _ _ i55 s55, ev_const, ev_tmp, fe_build _ bl55, fe_gtr, fe_lenS _ _ _ k9, fe_not, fe_pick, fo_assign, fo_bin, fo_build, fo_len, fo_move, fo_notV, fo_pick, init1, init2a, init2b, init3a, init3b, init3c, o_alloc, o_call _ _ _ _ _ _ _ c21, o_call _ _ _ _ _ _ _ c22, o_call _ _ _ _ _ _ _ c23, o_call _ _ _ _ _ _ _ c24, o_call _ _ _ _ _ _ _ c25, o_call _ _ _ _ _ _ _ c26, o_store, put_none, put_some, r_enter, r_skip, r_value, s_nil, s_none, s_someF, s_someT, sp_cons, sp_nil, t_exit, t_normal, t_ret, upd_app, ↓reduceIte] | (refine W_cond rfl (fun hc => ?_) (fun hc => ?_) <;> (try simp only [decide_eq_true_eq, decide_eq_false_iff_not, Bool.not_eq_true', Bool.not_eq_false', Int.not_lt, Int.not_le, Decidable.not_not] at hc) <;> (try contradiction) <;> (try (exfalso; omega))) | (refine G_split rfl rfl (fun hc => ?_) (fun hc => ?_) <;> (try simp only [decide_eq_true_eq, decide_eq_false_iff_not, Bool.not_eq_true', Bool.not_eq_false', Int.not_lt, Int.not_le, Decidable.not_not] at hc) <;> (try contradiction) <;> (try (exfalso; omega))) | (with_reducible (refine hK _ _ ?_); clear hK K) | go_step)
  refine addToks_ok ⟨a4, n4, c4⟩ (qs := [⟨a3, n3, c3⟩]) hB10 ho10 hd10 (by omega) _ (fun w11 s11 c11 hB11 ho11 hd11 hf11 hn11 => ?_)
  have m11 : ∀ k, blkO s11 k → w9.heap.size ≤ k := fun k e => by
    rcases hn11 k e with e | e
    · exact m10 k e
    · omega
  have S11 := hf11.size
  have out10 : ∀ k, k < w8.heap.size → ¬ (k = pb ∨ blkO none k) := fun k hk e => by
    rcases e with e | e
    · omega
    · exact blkO_none k e
  have out11 : ∀ k, k < w8.heap.size → ¬ (k = pb ∨ blkO s10 k) := fun k hk e => by
    rcases e with e | e
    · omega
    · have := m10 k e; omega
  have p3 := ((o3.frN f9).fr hf10 (fun k e => out10 k (by have := b3 k e; omega))).fr hf11 (fun k e => out11 k (by have := b3 k e; omega))
  have p4 := ((o4.frN f9).fr hf10 (fun k e => out10 k (by have := b4 k e; omega))).fr hf11 (fun k e => out11 k (by have := b4 k e; omega))
  have hH11 : HS H2 w11 := ((hH28.frN f9).fr hf10 (fun k e o => n2 k (by
      rcases e with e | e
      · omega
      · exact absurd e (blkO_none k)) o)).fr hf11 (fun k e o => n2 k (by
      rcases e with e | e
      · omega
      · have := m10 k e; omega) o)
  have F11 : Fr noB w w11 := ((F08.no f9).trans hf10 (fun k hk e => by
      rcases e with e | e
      · omega
      · exact absurd e (blkO_none k))).trans hf11 (fun k hk e => by
      rcases e with e | e
      · omega
      · have := m10 k e; omega)
  obtain ⟨Ha, la, hHa, hca, hna⟩ := hB11.keep hH11 (n2 pb (by omega))
  obtain ⟨Hb, lb, hHb, slb, hnb⟩ := ho11.keep hHa (fun k e o => (hna k (fun e2 => by subst e2; exact hd11 e) o).trans (n2 k (by have := m11 k e; omega) o))
  have hfb : ∀ k, famB [⟨a3, n3, c3⟩, ⟨a4, n4, c4⟩] k → w2.heap.size ≤ k ∧ k < w4.heap.size := fun k e => by
    rcases famB2 p3.isA p4.isA e with e | e
    · have := b3 k e; omega
    · have := b4 k e; omega
  repeat' (first | refine W_seq (fun K hK => ?_) | refine W_block ?_ | refine W_skip ?_ | refine W_exit ?_ | refine W_ret ?_ | refine W_region ?_ | simp (disch := first | (simp only [undef, want_some, upd_app, List.getElem?_cons_succ, List.getElem?_cons_zero, Option.join_some, e_bt, e_bf, Nat.reduceEqDiff, ↓reduceIte, Bool.not_true, Bool.not_false, ne_eq, not_false_eq_true]; done) | ((with_reducible refine pkE ?_); with_unfolding_all rfl) | ((with_reducible refine cszE ?_); with_unfolding_all rfl) | ((with_reducible refine isQE ?_); with_unfolding_all rfl) | assumption | omega) only [Bool.false_eq_true, Bool.not_false, Bool.not_true, List.map_cons, List.map_nil, List.map_toArray, List.set_cons_succ, List.set_cons_zero, Nat.reduceEqDiff, b_exit, b_exitN, b_normal, b_ret, e_alloc _ _ _ _ z55, e_ifF, e_ifT, e_stn _ _ i55 s55, ev_const, ev_tmp, fe_build _ bl55, fe_gtr, fe_lenS _ _ _ k9, fe_not, fe_pick, fo_assign, fo_bin, fo_build, fo_len, fo_move, fo_notV, fo_pick, init1, init2a, init2b, init3a, init3b, init3c, o_alloc, o_call _ _ _ _ _ _ _ c21, o_call _ _ _ _ _ _ _ c22, o_call _ _ _ _ _ _ _ c23, o_call _ _ _ _ _ _ _ c24, o_call _ _ _ _ _ _ _ c25, o_call _ _ _ _ _ _ _ c26, o_store, put_none, put_some, r_enter, r_skip, r_value, s_nil, s_none, s_someF, s_someT, sp_cons, sp_nil, t_exit, t_normal, t_ret, upd_app, ↓reduceIte] | (refine W_cond rfl (fun hc => ?_) (fun hc => ?_) <;> (try simp only [decide_eq_true_eq, decide_eq_false_iff_not, Bool.not_eq_true', Bool.not_eq_false', Int.not_lt, Int.not_le, Decidable.not_not] at hc) <;> (try contradiction) <;> (try (exfalso; omega))) | (refine G_split rfl rfl (fun hc => ?_) (fun hc => ?_) <;> (try simp only [decide_eq_true_eq, decide_eq_false_iff_not, Bool.not_eq_true', Bool.not_eq_false', Int.not_lt, Int.not_le, Decidable.not_not] at hc) <;> (try contradiction) <;> (try (exfalso; omega))) | (with_reducible (refine hK _ _ ?_); clear hK K) | go_step)
  refine ownT_ok hHb (pb := pb) (qs := [⟨a3, n3, c3⟩, ⟨a4, n4, c4⟩]) (a := s11) (c := c11) (fun q h1 h2 => lb _ _ _ ((hca q).trans ?_)) ⟨lb _ _ _ (hca 6), slb⟩ (fam2 p3 p4 (fun k e1 e2 => by have := b3 k e1; have := b4 k e2; omega)) (by simp) (by simp; omega)
    (fun b hb o => (hnb b (fun e => by have := m11 b e; have := hfb b hb; omega) o).trans ((hna b (by have := hfb b hb; omega) o).trans (n2 b (hfb b hb).1 o))) _ (fun w12 f12 => ?_)
  · have : q = 0 ∨ q = 1 ∨ q = 2 ∨ q = 3 ∨ q = 4 ∨ q = 5 ∨ q = 7 := by omega
    rcases this with rfl | rfl | rfl | rfl | rfl | rfl | rfl <;> rfl
  have hH12 := hH11.fr f12 (fun b hb o => n2 b (hfb b hb).1 o)
  have F12 : Fr noB w w12 := F11.trans f12 (fun k hk e => by have := hfb k e; omega)
  repeat' (first | refine W_seq (fun K hK => ?_) | refine W_block ?_ | refine W_skip ?_ | refine W_exit ?_ | refine W_ret ?_ | refine W_region ?_ | simp (disch := first | (simp only [undef, want_some, upd_app, List.getElem?_cons_succ, List.getElem?_cons_zero, Option.join_some, e_bt, e_bf, Nat.reduceEqDiff, ↓reduceIte, Bool.not_true, Bool.not_false, ne_eq, not_false_eq_true]; done) | ((with_reducible refine pkE ?_); with_unfolding_all rfl) | ((with_reducible refine cszE ?_); with_unfolding_all rfl) | ((with_reducible refine isQE ?_); with_unfolding_all rfl) | assumption | omega) only [Bool.false_eq_true, Bool.not_false, Bool.not_true, List.map_cons, List.map_nil, List.map_toArray, List.set_cons_succ, List.set_cons_zero, Nat.reduceEqDiff, b_exit, b_exitN, b_normal, b_ret, e_alloc _ _ _ _ z55, e_ifF, e_ifT, e_stn _ _ i55 s55, ev_const, ev_tmp, fe_build _ bl55, fe_gtr, fe_lenS _ _ _ k9, fe_not, fe_pick, fo_assign, fo_bin, fo_build, fo_len, fo_move, fo_notV, fo_pick, init1, init2a, init2b, init3a, init3b, init3c, o_alloc, o_call _ _ _ _ _ _ _ c21, o_call _ _ _ _ _ _ _ c22, o_call _ _ _ _ _ _ _ c23, o_call _ _ _ _ _ _ _ c24, o_call _ _ _ _ _ _ _ c25, o_call _ _ _ _ _ _ _ c26, o_store, put_none, put_some, r_enter, r_skip, r_value, s_nil, s_none, s_someF, s_someT, sp_cons, sp_nil, t_exit, t_normal, t_ret, upd_app, ↓reduceIte, Bool.not_true] | (refine W_cond rfl (fun hc => ?_) (fun hc => ?_) <;> (try simp only [decide_eq_true_eq, decide_eq_false_iff_not, Bool.not_eq_true', Bool.not_eq_false', Int.not_lt, Int.not_le, Decidable.not_not] at hc) <;> (try contradiction) <;> (try (exfalso; omega))) | (refine G_split rfl rfl (fun hc => ?_) (fun hc => ?_) <;> (try simp only [decide_eq_true_eq, decide_eq_false_iff_not, Bool.not_eq_true', Bool.not_eq_false', Int.not_lt, Int.not_le, Decidable.not_not] at hc) <;> (try contradiction) <;> (try (exfalso; omega))) | (with_reducible (refine hK _ _ ?_); clear hK K) | go_step)
  refine lex_ok s (by omega) _ _ (fun a13 n13 c13 w13 g13 => ?_)
  have g13 := g13.nds
  rw [← hxs] at g13
  obtain ⟨H13, l13, hH13, t13⟩ := g13.keep hH12
  have l13n := g13.len
  repeat' (first | refine W_seq (fun K hK => ?_) | refine W_block ?_ | refine W_skip ?_ | refine W_exit ?_ | refine W_ret ?_ | refine W_region ?_ | simp (disch := first | (simp only [undef, want_some, upd_app, List.getElem?_cons_succ, List.getElem?_cons_zero, Option.join_some, e_bt, e_bf, Nat.reduceEqDiff, ↓reduceIte, Bool.not_true, Bool.not_false, ne_eq, not_false_eq_true]; done) | ((with_reducible refine pkE ?_); with_unfolding_all rfl) | ((with_reducible refine cszE ?_); with_unfolding_all rfl) | ((with_reducible refine isQE ?_); with_unfolding_all rfl) | assumption | omega) only [Bool.false_eq_true, Bool.not_false, Bool.not_true, List.map_cons, List.map_nil, List.map_toArray, List.set_cons_succ, List.set_cons_zero, Nat.reduceEqDiff, b_exit, b_exitN, b_normal, b_ret, e_alloc _ _ _ _ z55, e_ifF, e_ifT, e_stn _ _ i55 s55, ev_const, ev_tmp, fe_build _ bl55, fe_gtr, fe_lenS _ _ _ k9, fe_not, fe_pick, fo_assign, fo_bin, fo_build, fo_len, fo_move, fo_notV, fo_pick, init1, init2a, init2b, init3a, init3b, init3c, o_alloc, o_call _ _ _ _ _ _ _ c21, o_call _ _ _ _ _ _ _ c22, o_call _ _ _ _ _ _ _ c23, o_call _ _ _ _ _ _ _ c24, o_call _ _ _ _ _ _ _ c25, o_call _ _ _ _ _ _ _ c26, o_store, put_none, put_some, r_enter, r_skip, r_value, s_nil, s_none, s_someF, s_someT, sp_cons, sp_nil, t_exit, t_normal, t_ret, upd_app, ↓reduceIte] | (refine W_cond rfl (fun hc => ?_) (fun hc => ?_) <;> (try simp only [decide_eq_true_eq, decide_eq_false_iff_not, Bool.not_eq_true', Bool.not_eq_false', Int.not_lt, Int.not_le, Decidable.not_not] at hc) <;> (try contradiction) <;> (try (exfalso; omega))) | (refine G_split rfl rfl (fun hc => ?_) (fun hc => ?_) <;> (try simp only [decide_eq_true_eq, decide_eq_false_iff_not, Bool.not_eq_true', Bool.not_eq_false', Int.not_lt, Int.not_le, Decidable.not_not] at hc) <;> (try contradiction) <;> (try (exfalso; omega))) | (with_reducible (refine hK _ _ ?_); clear hK K) | go_step)
  refine cvToks_ok hH13 t13 (by omega) _ (fun a14 c14 w14 g14 => ?_)
  obtain ⟨H14, l14, hH14, t14⟩ := g14.keep hH13
  repeat' (first | refine W_seq (fun K hK => ?_) | refine W_block ?_ | refine W_skip ?_ | refine W_exit ?_ | refine W_ret ?_ | refine W_region ?_ | simp (disch := first | (simp only [undef, want_some, upd_app, List.getElem?_cons_succ, List.getElem?_cons_zero, Option.join_some, e_bt, e_bf, Nat.reduceEqDiff, ↓reduceIte, Bool.not_true, Bool.not_false, ne_eq, not_false_eq_true]; done) | ((with_reducible refine pkE ?_); with_unfolding_all rfl) | ((with_reducible refine cszE ?_); with_unfolding_all rfl) | ((with_reducible refine isQE ?_); with_unfolding_all rfl) | assumption | omega) only [Bool.false_eq_true, Bool.not_false, Bool.not_true, List.map_cons, List.map_nil, List.map_toArray, List.set_cons_succ, List.set_cons_zero, Nat.reduceEqDiff, b_exit, b_exitN, b_normal, b_ret, e_alloc _ _ _ _ z55, e_ifF, e_ifT, e_stn _ _ i55 s55, ev_const, ev_tmp, fe_build _ bl55, fe_gtr, fe_lenS _ _ _ k9, fe_not, fe_pick, fo_assign, fo_bin, fo_build, fo_len, fo_move, fo_notV, fo_pick, init1, init2a, init2b, init3a, init3b, init3c, o_alloc, o_call _ _ _ _ _ _ _ c21, o_call _ _ _ _ _ _ _ c22, o_call _ _ _ _ _ _ _ c23, o_call _ _ _ _ _ _ _ c24, o_call _ _ _ _ _ _ _ c25, o_call _ _ _ _ _ _ _ c26, o_store, put_none, put_some, r_enter, r_skip, r_value, s_nil, s_none, s_someF, s_someT, sp_cons, sp_nil, t_exit, t_normal, t_ret, upd_app, ↓reduceIte] | (refine W_cond rfl (fun hc => ?_) (fun hc => ?_) <;> (try simp only [decide_eq_true_eq, decide_eq_false_iff_not, Bool.not_eq_true', Bool.not_eq_false', Int.not_lt, Int.not_le, Decidable.not_not] at hc) <;> (try contradiction) <;> (try (exfalso; omega))) | (refine G_split rfl rfl (fun hc => ?_) (fun hc => ?_) <;> (try simp only [decide_eq_true_eq, decide_eq_false_iff_not, Bool.not_eq_true', Bool.not_eq_false', Int.not_lt, Int.not_le, Decidable.not_not] at hc) <;> (try contradiction) <;> (try (exfalso; omega))) | (with_reducible (refine hK _ _ ?_); clear hK K) | go_step)
  refine eqLT_ok hH14 t14 (t2.mono (l13.trans l14)) (by omega) _ (fun q w15 hq f15 => ?_)
  obtain rfl : q = true := hq.2 rfl
  repeat' (first | refine W_seq (fun K hK => ?_) | refine W_block ?_ | refine W_skip ?_ | refine W_exit ?_ | refine W_ret ?_ | refine W_region ?_ | simp (disch := first | (simp only [undef, want_some, upd_app, List.getElem?_cons_succ, List.getElem?_cons_zero, Option.join_some, e_bt, e_bf, Nat.reduceEqDiff, ↓reduceIte, Bool.not_true, Bool.not_false, ne_eq, not_false_eq_true]; done) | ((with_reducible refine pkE ?_); with_unfolding_all rfl) | ((with_reducible refine cszE ?_); with_unfolding_all rfl) | ((with_reducible refine isQE ?_); with_unfolding_all rfl) | assumption | omega) only [Bool.false_eq_true, Bool.not_false, Bool.not_true, List.map_cons, List.map_nil, List.map_toArray, List.set_cons_succ, List.set_cons_zero, Nat.reduceEqDiff, b_exit, b_exitN, b_normal, b_ret, e_alloc _ _ _ _ z55, e_ifF, e_ifT, e_stn _ _ i55 s55, ev_const, ev_tmp, fe_build _ bl55, fe_gtr, fe_lenS _ _ _ k9, fe_not, fe_pick, fo_assign, fo_bin, fo_build, fo_len, fo_move, fo_notV, fo_pick, init1, init2a, init2b, init3a, init3b, init3c, o_alloc, o_call _ _ _ _ _ _ _ c21, o_call _ _ _ _ _ _ _ c22, o_call _ _ _ _ _ _ _ c23, o_call _ _ _ _ _ _ _ c24, o_call _ _ _ _ _ _ _ c25, o_call _ _ _ _ _ _ _ c26, o_store, put_none, put_some, r_enter, r_skip, r_value, s_nil, s_none, s_someF, s_someT, sp_cons, sp_nil, t_exit, t_normal, t_ret, upd_app, ↓reduceIte] | (refine W_cond rfl (fun hc => ?_) (fun hc => ?_) <;> (try simp only [decide_eq_true_eq, decide_eq_false_iff_not, Bool.not_eq_true', Bool.not_eq_false', Int.not_lt, Int.not_le, Decidable.not_not] at hc) <;> (try contradiction) <;> (try (exfalso; omega))) | (refine G_split rfl rfl (fun hc => ?_) (fun hc => ?_) <;> (try simp only [decide_eq_true_eq, decide_eq_false_iff_not, Bool.not_eq_true', Bool.not_eq_false', Int.not_lt, Int.not_le, Decidable.not_not] at hc) <;> (try contradiction) <;> (try (exfalso; omega))) | (with_reducible (refine hK _ _ ?_); clear hK K) | go_step)
  refine ret1 rfl ?_; simp (disch := first | (simp only [undef, want_some, upd_app, List.getElem?_cons_succ, List.getElem?_cons_zero, Option.join_some, e_bt, e_bf, Nat.reduceEqDiff, ↓reduceIte, Bool.not_true, Bool.not_false, ne_eq, not_false_eq_true]; done) | ((with_reducible refine pkE ?_); with_unfolding_all rfl) | ((with_reducible refine cszE ?_); with_unfolding_all rfl) | ((with_reducible refine isQE ?_); with_unfolding_all rfl) | assumption | omega) only [Bool.false_eq_true, Bool.not_false, Bool.not_true, List.map_cons, List.map_nil, List.map_toArray, List.set_cons_succ, List.set_cons_zero, Nat.reduceEqDiff, b_exit, b_exitN, b_normal, b_ret, e_alloc _ _ _ _ z55, e_ifF, e_ifT, e_stn _ _ i55 s55, ev_const, ev_tmp, fe_build _ bl55, fe_gtr, fe_lenS _ _ _ k9, fe_not, fe_pick, fo_assign, fo_bin, fo_build, fo_len, fo_move, fo_notV, fo_pick, init1, init2a, init2b, init3a, init3b, init3c, o_alloc, o_call _ _ _ _ _ _ _ c21, o_call _ _ _ _ _ _ _ c22, o_call _ _ _ _ _ _ _ c23, o_call _ _ _ _ _ _ _ c24, o_call _ _ _ _ _ _ _ c25, o_call _ _ _ _ _ _ _ c26, o_store, put_none, put_some, r_enter, r_skip, r_value, s_nil, s_none, s_someF, s_someT, sp_cons, sp_nil, t_exit, t_normal, t_ret, upd_app, ↓reduceIte]
  exact h _ (((F12.no g13.fr).no g14.fr).no f15)
end Go.Proofs.Ybzabw
