/-  (*parts).addLine and addLines, where the lists of lines are there, too.  -/
import Derived.Test.YbzacwLnsMem
import Derived.Test.YbzacwOwnB
import Derived.Test.YbzacwDraw2
namespace Go.Proofs.Ybzacw
open Go.Wf Go.Deep
set_option linter.unusedSimpArgs false
set_option linter.unusedVariables false

def partsS (v u l : Value) : List Value := [v, u, .slice none 0 0, .slice none 0 0, l, .slice none 0 0, .slice none 0 0, .slice none 0 0]
/-- The parts: the struct and its three rows of lists, all from lo on. -/
structure PtS (w : World) (lo pb : Nat) (sa : Option Addr) (sc : Nat) (ia : Option Addr) (ic : Nat) (la : Option Addr) (lc : Nat) (qs ps ls : List SlT) : Prop where
  blk : Blk w pb 43 (partsS (.slice sa qs.length sc) (.slice ia ps.length ic) (.slice la ls.length lc))
  on : Own w 29 1 sa qs.length sc (qs.map SlT.val)
  oi : Own w 25 1 ia ps.length ic (ps.map SlT.val)
  ol : Own w 48 1 la ls.length lc (ls.map SlT.val)
  nb : lo ≤ pb
  ns : ∀ k, blkO sa k → lo ≤ k
  ni : ∀ k, blkO ia k → lo ≤ k
  nl : ∀ k, blkO la k → lo ≤ k
theorem PtS.frN {w w' : World} {lo pb sc ic lc : Nat} {sa ia la : Option Addr} {qs ps ls : List SlT} (h : PtS w lo pb sa sc ia ic la lc qs ps ls) (hf : Fr noB w w') : PtS w' lo pb sa sc ia ic la lc qs ps ls := ⟨h.blk.frN hf, h.on.frN hf, h.oi.frN hf, h.ol.frN hf, h.nb, h.ns, h.ni, h.nl⟩
-- (*laws.parts).addLine
set_option maxHeartbeats 4000000 in
set_option maxRecDepth 20000 in
theorem addLineS_ok {w : World} {lo pb sc ic lc : Nat} {sa ia la : Option Addr} {qs ps ls : List SlT} (hP : PtS w lo pb sa sc ia ic la lc qs ps ls) (hn : qs.length ≤ 1048576) (hm : ps.length ≤ 1048576) (fa : Option Addr) (fc : Nat) (ra : Option Addr) (rc : Nat) (ln : Ln) (R : Value → World → Prop)
    (h : ∀ w' sa' sc' ia' ic', PtS w' lo pb sa' sc' ia' ic' la lc (qs ++ [⟨fa, ln.f.length, fc⟩]) (ps ++ [⟨ra, ln.refs.length, rc⟩]) ls → Fr (fun k => lo ≤ k) w w' → R (.tuple #[]) w') :
    CallsV Yaco.prog 14 #[.pointer (some ⟨pb, 0, none⟩), .agg (lnC fa fc ra rc ln).toArray] w R := by
  refine ent14 (by simp) ?_
  repeat' (first | with_reducible refine VC_stop _ ?_ | refine W_seq (fun K hK => ?_) | refine W_block ?_ | refine W_skip ?_ | refine W_exit ?_ | refine W_ret ?_ | refine W_region ?_ | simp (disch := first | (simp only [undef, want_some, upd_app, List.getElem?_cons_succ, List.getElem?_cons_zero, Option.join_some, e_bt, e_bf, Nat.reduceEqDiff, ↓reduceIte, Bool.not_true, Bool.not_false, ne_eq, not_false_eq_true]; done) | ((with_reducible refine pkE ?_); with_unfolding_all rfl) | ((with_reducible refine cszE ?_); with_unfolding_all rfl) | ((with_reducible refine isQE ?_); with_unfolding_all rfl) | assumption | omega) only [List.map_cons, List.map_nil, Nat.add_zero, Nat.reduceEqDiff, b_exit, b_exitN, b_normal, b_ret, c_agg, c_bool, c_int, c_sl, c_str, e34, e35, e_bs0 _ _ k34 ie34 ze34 se34, e_bs0 _ _ k35 ie35 ze35 se35, e_bs1 _ _ k34 ie34 ze34 se34 (by decide), e_bs1 _ _ k35 ie35 ze35 se35 (by decide), ev_const, ev_tmp, fe_fld _ o31_1, fe_fld _ o31_3, fe_fld _ o43_0, fe_fld _ o43_1, fe_nil, fo_fieldAddr, fo_load, fo_move, fo_nil, init1, init2a, init2b, init3a, init3b, init3c, o_append, o_box, o_buildSlice, o_store, put_none, put_some, r_skip, r_value, s_nil, s_none, t_exit, t_normal, t_ret, upd_app, ↓reduceIte] | (refine W_cond rfl (fun hc => ?_) (fun hc => ?_) <;> (try simp only [decide_eq_true_eq, decide_eq_false_iff_not, Bool.not_eq_true', Bool.not_eq_false', Int.not_lt, Int.not_le, Decidable.not_not] at hc) <;> (try contradiction) <;> (try (exfalso; omega))) | (refine G_split rfl rfl (fun hc => ?_) (fun hc => ?_) <;> (try simp only [decide_eq_true_eq, decide_eq_false_iff_not, Bool.not_eq_true', Bool.not_eq_false', Int.not_lt, Int.not_le, Decidable.not_not] at hc) <;> (try contradiction) <;> (try (exfalso; omega))) | (with_reducible (refine hK _ _ ?_); clear hK K) | go_step)
  refine ⟨?_⟩
  rw [show (Value.agg (lnC fa fc ra rc ln).toArray).cells = (lnC fa fc ra rc ln).toArray from rfl]
  refine VC_keep (emptyH_HS w) (fun w0 H0 l0 hH0 k0 f0 n0 => ?_)
  have hP0 := hP.frN f0
  have hpl := hP.blk.lt
  obtain ⟨ba, hba⟩ : ∃ ba, ba = w.heap.size := ⟨_, rfl⟩
  rw [← hba] at k0 n0 ⊢
  have hN : ∀ k, k < w.heap.size → ∀ o, H0 k o = none := fun k hk o => (n0 k (by omega) o).trans rfl
  obtain ⟨H1, l1, hH1, k1, n1⟩ := hP0.blk.keep hH0 (hN pb hpl)
  have g1 : H0 ba 1 = some (.slice fa ln.f.length fc) := k0 1
  have g3 : H0 ba 3 = some (.slice ra ln.refs.length rc) := k0 3
  have x1 := l1 _ _ _ g1
  have c0 : H1 pb 0 = some (.slice sa qs.length sc) := k1 0
  have ns1 : ∀ k, blkO sa k → ¬ k = pb := fun k e e2 => own_blkNe hP.on hP.blk (by decide) (e2 ▸ e)
  have ns2 : ∀ k, blkO ia k → ¬ k = pb := fun k e e2 => own_blkNe hP.oi hP.blk (by decide) (e2 ▸ e)
  have ns3 := own_own hP.on hP.oi (by decide)
  have ho1 : ∀ k, blkO sa k → ∀ o, H1 k o = none := fun k e o => (n1 k (ns1 k e) o).trans (hN k (hP.on.lt e) o)
  have z0 := f0.size
  repeat' (first | refine W_seq (fun K hK => ?_) | refine W_block ?_ | refine W_skip ?_ | refine W_exit ?_ | refine W_ret ?_ | refine W_region ?_ | simp (disch := first | (simp only [undef, want_some, upd_app, List.getElem?_cons_succ, List.getElem?_cons_zero, Option.join_some, e_bt, e_bf, Nat.reduceEqDiff, ↓reduceIte, Bool.not_true, Bool.not_false, ne_eq, not_false_eq_true]; done) | ((with_reducible refine pkE ?_); with_unfolding_all rfl) | ((with_reducible refine cszE ?_); with_unfolding_all rfl) | ((with_reducible refine isQE ?_); with_unfolding_all rfl) | assumption | omega) only [List.map_cons, List.map_nil, Nat.add_zero, Nat.reduceEqDiff, b_exit, b_exitN, b_normal, b_ret, c_agg, c_bool, c_int, c_sl, c_str, e34, e35, e_bs0 _ _ k34 ie34 ze34 se34, e_bs0 _ _ k35 ie35 ze35 se35, e_bs1 _ _ k34 ie34 ze34 se34 (by decide), e_bs1 _ _ k35 ie35 ze35 se35 (by decide), ev_const, ev_tmp, fe_fld _ o31_1, fe_fld _ o31_3, fe_fld _ o43_0, fe_fld _ o43_1, fe_nil, fo_fieldAddr, fo_load, fo_move, fo_nil, init1, init2a, init2b, init3a, init3b, init3c, o_append, o_box, o_buildSlice, o_store, put_none, put_some, r_skip, r_value, s_nil, s_none, t_exit, t_normal, t_ret, upd_app, ↓reduceIte, c0, x1, Nat.zero_add, List.map_cons, List.map_nil, d_loud, d_nil, d_quiet, d_someF, d_someT, e_ldH n25 hH1, e_ldH n29 hH1, e_ldH n34 hH1, e_ldH n35 hH1, l_enter, l_skip, l_val, q_ld n25 hH1, q_ld n29 hH1, q_ld n34 hH1, q_ld n35 hH1, q_val hH1] | refine ⟨.inl (hH1.frN (Fr.alloc _ _ _ _)), ?_⟩ | refine VL_of (V_app k34 e34 ze34 rfl se34 be34 (hP0.on.frN hw1) rfl (by simp [oneC]) (by unfold maxLen; omega) (by omega) (fun a' c' w2 ho2 hfr2 hnew2 => ⟨.inl (hH1.fr hfr2 ho1), ?_⟩)) | refine VL_of (V_store1 i34 s34 ((hP0.blk.frN hw1).fr hfr2 (fun e => ns1 _ e rfl)) rfl (by simp [partsS]) (fun w6 hB6 hf6 => ⟨.inr trivial, ?_⟩)) | refine W_drawH2 hH1 (by kernel_rfl) (by kernel_rfl) (fun w1 hw1 hH1 => ?_) | (refine D_split rfl rfl (fun hc => ?_) (fun hc => ?_) <;> (try simp only [decide_eq_true_eq, decide_eq_false_iff_not, Bool.not_eq_true', Bool.not_eq_false', Int.not_lt, Int.not_le, Decidable.not_not] at hc) <;> (try contradiction) <;> (try (exfalso; omega))) | (refine W_cond rfl (fun hc => ?_) (fun hc => ?_) <;> (try simp only [decide_eq_true_eq, decide_eq_false_iff_not, Bool.not_eq_true', Bool.not_eq_false', Int.not_lt, Int.not_le, Decidable.not_not] at hc) <;> (try contradiction) <;> (try (exfalso; omega))) | (refine G_split rfl rfl (fun hc => ?_) (fun hc => ?_) <;> (try simp only [decide_eq_true_eq, decide_eq_false_iff_not, Bool.not_eq_true', Bool.not_eq_false', Int.not_lt, Int.not_le, Decidable.not_not] at hc) <;> (try contradiction) <;> (try (exfalso; omega))) | (with_reducible (refine hK _ _ ?_); clear hK K) | go_step)
  have z1 := hw1.size
  have F1 := f0.no hw1
  have ns4 : ∀ k, blkO a' k → ¬ k = pb := fun k e e2 => by
    rcases hnew2 k e with e1 | e1
    · exact ns1 k e1 e2
    · omega
  have oi2 := (hP.oi.frN F1).fr hfr2 (fun k e1 e2 => ns3 k e2 e1)
  have oi6 := oi2.fr hf6 ns2
  have on6 := ho2.fr hf6 ns4
  replace hB6 : Blk w6 pb 43 (partsS (.slice a' (qs.length + 1) c') (.slice ia ps.length ic) (.slice la ls.length lc)) := hB6
  have hH6 : HS H0 w6 := ((hH0.frN hw1).fr hfr2 (fun k e o => hN k (hP.on.lt e) o)).fr hf6 (fun k e o => by subst e; exact hN k hpl o)
  have F6 : Fr (fun k => lo ≤ k) w w6 := ((F1.mono (fun _ _ e => e.elim)).trans hfr2 (fun k _ e => hP.ns k e)).trans hf6 (fun k _ e => by have := hP.nb; omega)
  have z6 := F6.size
  obtain ⟨H7, l7, hH7, k7, n7⟩ := hB6.keep hH6 (hN pb hpl)
  have x3 := l7 _ _ _ g3
  have c1' : H7 pb 1 = some (.slice ia ps.length ic) := k7 1
  have ho7 : ∀ k, blkO ia k → ∀ o, H7 k o = none := fun k e o => (n7 k (ns2 k e) o).trans (hN k (hP.oi.lt e) o)
  clear hH1 l1 k1 n1 x1 c0 ho1
  repeat' (first | refine W_seq (fun K hK => ?_) | refine W_block ?_ | refine W_skip ?_ | refine W_exit ?_ | refine W_ret ?_ | refine W_region ?_ | simp (disch := first | (simp only [undef, want_some, upd_app, List.getElem?_cons_succ, List.getElem?_cons_zero, Option.join_some, e_bt, e_bf, Nat.reduceEqDiff, ↓reduceIte, Bool.not_true, Bool.not_false, ne_eq, not_false_eq_true]; done) | ((with_reducible refine pkE ?_); with_unfolding_all rfl) | ((with_reducible refine cszE ?_); with_unfolding_all rfl) | ((with_reducible refine isQE ?_); with_unfolding_all rfl) | assumption | omega) only [List.map_cons, List.map_nil, Nat.add_zero, Nat.reduceEqDiff, b_exit, b_exitN, b_normal, b_ret, c_agg, c_bool, c_int, c_sl, c_str, e34, e35, e_bs0 _ _ k34 ie34 ze34 se34, e_bs0 _ _ k35 ie35 ze35 se35, e_bs1 _ _ k34 ie34 ze34 se34 (by decide), e_bs1 _ _ k35 ie35 ze35 se35 (by decide), ev_const, ev_tmp, fe_fld _ o31_1, fe_fld _ o31_3, fe_fld _ o43_0, fe_fld _ o43_1, fe_nil, fo_fieldAddr, fo_load, fo_move, fo_nil, init1, init2a, init2b, init3a, init3b, init3c, o_append, o_box, o_buildSlice, o_store, put_none, put_some, r_skip, r_value, s_nil, s_none, t_exit, t_normal, t_ret, upd_app, ↓reduceIte, c1', x3, Nat.zero_add, List.map_cons, List.map_nil, d_loud, d_nil, d_quiet, d_someF, d_someT, e_ldH n25 hH7, e_ldH n29 hH7, e_ldH n34 hH7, e_ldH n35 hH7, l_enter, l_skip, l_val, q_ld n25 hH7, q_ld n29 hH7, q_ld n34 hH7, q_ld n35 hH7, q_val hH7] | refine ⟨.inl (hH7.frN (Fr.alloc _ _ _ _)), ?_⟩ | refine VL_of (V_app k35 e35 ze35 rfl se35 be35 (oi6.frN hw1) rfl (by simp [oneC]) (by unfold maxLen; omega) (by omega) (fun a8 c8 w8 ho8 hfr8 hnew8 => ⟨.inl (hH7.fr hfr8 ho7), ?_⟩)) | refine VL_of (V_store1 i35 s35 ((hB6.frN hw1).fr hfr8 (fun e => ns2 _ e rfl)) rfl (by simp [partsS]) (fun w9 hB9 hf9 => ⟨.inr trivial, ?_⟩)) | refine W_drawH2 hH7 (by kernel_rfl) (by kernel_rfl) (fun w1 hw1 hH7 => ?_) | (refine D_split rfl rfl (fun hc => ?_) (fun hc => ?_) <;> (try simp only [decide_eq_true_eq, decide_eq_false_iff_not, Bool.not_eq_true', Bool.not_eq_false', Int.not_lt, Int.not_le, Decidable.not_not] at hc) <;> (try contradiction) <;> (try (exfalso; omega))) | (refine W_cond rfl (fun hc => ?_) (fun hc => ?_) <;> (try simp only [decide_eq_true_eq, decide_eq_false_iff_not, Bool.not_eq_true', Bool.not_eq_false', Int.not_lt, Int.not_le, Decidable.not_not] at hc) <;> (try contradiction) <;> (try (exfalso; omega))) | (refine G_split rfl rfl (fun hc => ?_) (fun hc => ?_) <;> (try simp only [decide_eq_true_eq, decide_eq_false_iff_not, Bool.not_eq_true', Bool.not_eq_false', Int.not_lt, Int.not_le, Decidable.not_not] at hc) <;> (try contradiction) <;> (try (exfalso; omega))) | (with_reducible (refine hK _ _ ?_); clear hK K) | go_step)
  have z7 := hw1.size
  have ns8 : ∀ k, blkO a8 k → ¬ k = pb := fun k e e2 => by
    rcases hnew8 k e with e1 | e1
    · exact ns2 k e1 e2
    · omega
  have ns5 := own_own on6 oi6 (by decide)
  have hlo := hP.nb
  have nl1 : ∀ k, blkO la k → ¬ k = pb := fun k e e2 => own_blkNe hP.ol hP.blk (by decide) (e2 ▸ e)
  have nl2 := own_own hP.ol hP.on (by decide)
  have nl3 := own_own hP.ol hP.oi (by decide)
  have ol9 := ((((hP.ol.frN F1).fr hfr2 nl2).fr hf6 nl1).frN hw1).fr hfr8 nl3
  have hlw : lo ≤ w.heap.size := by omega
  refine end0 rfl (h w9 a' c' a8 c8 ⟨?_, ?_, ?_, ol9.fr hf9 nl1, hlo, fun k e => ?_, fun k e => ?_, hP.nl⟩ ?_)
  · have : Blk w9 pb 43 (partsS (.slice a' (qs.length + 1) c') (.slice a8 (ps.length + 1) c8) (.slice la ls.length lc)) := hB9
    simpa using this
  · have := ((on6.frN hw1).fr hfr8 (fun k e1 e2 => ns5 k e1 e2)).fr hf9 ns4
    simpa [SlT.val] using this
  · have := ho8.fr hf9 ns8
    simpa [SlT.val] using this
  · rcases hnew2 k e with e | e
    · exact hP.ns k e
    · omega
  · rcases hnew8 k e with e | e
    · exact hP.ni k e
    · omega
  · exact ((F6.trans (hw1.mono (S' := fun k => lo ≤ k) (fun _ _ e => e.elim)) (fun k _ e => e)).trans hfr8 (fun k _ e => hP.ni k e)).trans hf9 (fun k _ e => by omega)
end Go.Proofs.Ybzacw
