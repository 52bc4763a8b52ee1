/-  impl.stepFits: the rules.  -/
import Derived.Test.YbzaawGreatJudgeS
namespace Go.Proofs.YbzaawGreat
open Go.Wf Go.Deep
set_option linter.unusedSimpArgs false
set_option linter.unusedVariables false

-- impl.stepFits
set_option maxHeartbeats 8000000 in
set_option maxRecDepth 20000 in
theorem stepFits7_ok {H : Heap} {w : World} (hH : HS H w) {fa ra sa aa ca pa ta : Option Addr} {fc rc k sc ac cc pn pc tn tc : Nat} {ln : Ln} {c : FT} {X K : Nat → FT} {U : Prop} (tC : FmH H fa ln.f.length c) (hrl : ln.rule = 7) (hk : 3 ≤ k) (hsA : IsA sa k) (haA : IsA aa k) (hcA : IsA ca k) (hfs0 : FsAt H sa 0 (X 0)) (has1 : FsAt H aa 1 (X 1)) (has2 : FsAt H aa 2 (X 2)) (hcs1 : FsAt H ca 1 (K 1)) (hcs2 : FsAt H ca 2 (K 2)) (R : Value → World → Prop)
    (h : ∀ (r : Bool) w', (r = true ↔ stepP 7 c X K U) → Fr noB w w' → R (.bool r) w') : CallsV Yaao.prog 88 #[.agg (lnC fa fc ra rc ln).toArray, .slice sa k sc, .slice aa k ac, .slice ca k cc, .slice pa pn pc, .slice ta tn tc] w R := by
  have hCA := tC.nd.sl.isA
  have hpos := tC.pos
  have hsm := tC.small
  have hti : ((ln.f.length : Int) - 1).toNat = ln.f.length - 1 := by omega
  refine ent88 (by simp) ?_
  repeat' (first | with_reducible refine VC_stop _ ?_ | refine W_seq (fun K hK => ?_) | refine W_block ?_ | refine W_skip ?_ | refine W_exit ?_ | refine W_ret ?_ | refine W_region ?_ | simp (disch := first | (simp only [undef, want_some, upd_app, List.getElem?_cons_succ, List.getElem?_cons_zero, Option.join_some, e_bt, e_bf, Nat.reduceEqDiff, ↓reduceIte, Bool.not_true, Bool.not_false, ne_eq, not_false_eq_true]; done) | ((with_reducible refine pkE ?_); with_unfolding_all rfl) | ((with_reducible refine cszE ?_); with_unfolding_all rfl) | ((with_reducible refine isQE ?_); with_unfolding_all rfl) | assumption | omega) only [Bool.false_eq_true, Bool.not_false, Bool.not_true, Int.reduceToNat, Int.toNat_natCast, List.map_cons, List.map_nil, List.map_toArray, Nat.add_zero, Nat.reduceEqDiff, Nat.zero_add, ablk_some, aoff_some, b_exit, b_exitN, b_normal, b_ret, e_alloc _ _ _ _ z113, e_alloc _ _ _ _ z30, e_alloc _ _ _ _ z94, e_ifF, e_ifT, e_make _ _ k166 ze166 se166 rfl (by decide) be166, e_stn _ _ i113 s113, e_stn _ _ i30 s30, e_stn _ _ i94 s94, ev_const, ev_tmp, fe_add, fe_eql, fe_fld _ o113_0, fe_fld _ o113_2, fe_fld _ o113_3, fe_fld _ o30_3, fe_fld _ o30_4, fe_fld _ o32_0, fe_fld _ o91_1, fe_fld _ o91_2, fe_fld _ o91_3, fe_fld _ o94_0, fe_fld _ o94_1, fe_fld _ o94_2, fe_ixo k23 ie23 se23, fe_ixo k27 ie27 se27, fe_ixo k28 ie28 se28, fe_ixo k56 ie56 se56, fe_ixo k57 ie57 se57, fe_ixo k76 ie76 se76, fe_ixo k89 ie89 se89, fe_len _ _ _ _ _ k27, fe_len _ _ _ _ _ k56, fe_lss, fe_neq, fe_not, fe_pick, fe_sub, fo_assign, fo_bin, fo_fieldAddr, fo_indexAddr, fo_len, fo_load, fo_move, fo_notV, fo_pick, init1, init2a, init2b, init3a, init3b, init3c, o_alloc, o_box, o_call _ _ _ _ _ _ _ c100, o_call _ _ _ _ _ _ _ c101, o_call _ _ _ _ _ _ _ c98, o_call _ _ _ _ _ _ _ c99, o_makeSlice, o_store, put_none, put_some, r_enter, r_skip, r_value, s_nil, s_none, s_someF, s_someT, t_exit, t_normal, t_ret, tn1, tn2, tn3, upd_app, wrapS, ↓reduceIte, in6a] | (refine W_cond rfl (fun hc => ?_) (fun hc => ?_) <;> (try simp only [decide_eq_true_eq, decide_eq_false_iff_not, Bool.not_eq_true', Bool.not_eq_false', Int.not_lt, Int.not_le, Decidable.not_not] at hc) <;> (try contradiction) <;> (try (exfalso; omega))) | (refine G_split rfl rfl (fun hc => ?_) (fun hc => ?_) <;> (try simp only [decide_eq_true_eq, decide_eq_false_iff_not, Bool.not_eq_true', Bool.not_eq_false', Int.not_lt, Int.not_le, Decidable.not_not] at hc) <;> (try contradiction) <;> (try (exfalso; omega))) | (with_reducible (refine hK _ _ ?_); clear hK K) | go_step)
  refine ⟨?_⟩
  rw [show (Value.agg (lnC fa fc ra rc ln).toArray).cells = (lnC fa fc ra rc ln).toArray from rfl]
  refine VC_keep hH (fun w1 H1 l1 hH1 k1 f1 _ => ?_)
  obtain ⟨ba, hba⟩ : ∃ ba, ba = w.heap.size := ⟨_, rfl⟩
  rw [← hba] at k1 ⊢
  have g1 : H1 ba 1 = some (.slice fa ln.f.length fc) := k1 1
  have g2 : H1 ba 2 = some (.int .i64 ln.rule) := k1 2
  have g3 : H1 ba 3 = some (.slice ra ln.refs.length rc) := k1 3
  rw [hrl] at g2
  have tC1 := tC.mono l1
  obtain ⟨lC, rC, p0, p1, p2, p3, _, _⟩ := tC1.cells
  repeat' (first | with_reducible refine VC_stop _ ?_ | refine W_seq (fun K hK => ?_) | refine W_block ?_ | refine W_skip ?_ | refine W_exit ?_ | refine W_ret ?_ | refine W_region ?_ | simp (disch := first | (simp only [undef, want_some, upd_app, List.getElem?_cons_succ, List.getElem?_cons_zero, Option.join_some, e_bt, e_bf, Nat.reduceEqDiff, ↓reduceIte, Bool.not_true, Bool.not_false, ne_eq, not_false_eq_true]; done) | ((with_reducible refine pkE ?_); with_unfolding_all rfl) | ((with_reducible refine cszE ?_); with_unfolding_all rfl) | ((with_reducible refine isQE ?_); with_unfolding_all rfl) | assumption | omega) only [Bool.false_eq_true, Bool.not_false, Bool.not_true, Int.reduceToNat, Int.toNat_natCast, List.map_cons, List.map_nil, List.map_toArray, Nat.add_zero, Nat.reduceEqDiff, Nat.zero_add, ablk_some, aoff_some, b_exit, b_exitN, b_normal, b_ret, e_alloc _ _ _ _ z113, e_alloc _ _ _ _ z30, e_alloc _ _ _ _ z94, e_ifF, e_ifT, e_make _ _ k166 ze166 se166 rfl (by decide) be166, e_stn _ _ i113 s113, e_stn _ _ i30 s30, e_stn _ _ i94 s94, ev_const, ev_tmp, fe_add, fe_eql, fe_fld _ o113_0, fe_fld _ o113_2, fe_fld _ o113_3, fe_fld _ o30_3, fe_fld _ o30_4, fe_fld _ o32_0, fe_fld _ o91_1, fe_fld _ o91_2, fe_fld _ o91_3, fe_fld _ o94_0, fe_fld _ o94_1, fe_fld _ o94_2, fe_ixo k23 ie23 se23, fe_ixo k27 ie27 se27, fe_ixo k28 ie28 se28, fe_ixo k56 ie56 se56, fe_ixo k57 ie57 se57, fe_ixo k76 ie76 se76, fe_ixo k89 ie89 se89, fe_len _ _ _ _ _ k27, fe_len _ _ _ _ _ k56, fe_lss, fe_neq, fe_not, fe_pick, fe_sub, fo_assign, fo_bin, fo_fieldAddr, fo_indexAddr, fo_len, fo_load, fo_move, fo_notV, fo_pick, init1, init2a, init2b, init3a, init3b, init3c, o_alloc, o_box, o_call _ _ _ _ _ _ _ c100, o_call _ _ _ _ _ _ _ c101, o_call _ _ _ _ _ _ _ c98, o_call _ _ _ _ _ _ _ c99, o_makeSlice, o_store, put_none, put_some, r_enter, r_skip, r_value, s_nil, s_none, s_someF, s_someT, t_exit, t_normal, t_ret, tn1, tn2, tn3, upd_app, wrapS, ↓reduceIte, in6a, in6b, in6c, in6d, in6e, in6f, g1, g2, g3, p0, p1, p2, p3, hti, Nat.zero_add, List.map_cons, List.map_nil, cells1, cells2, cells3, cells4, cells5, d_loud, d_nil, d_quiet, d_someF, d_someT, e_ldH n27 hH1, e_ldH n28 hH1, e_ldH n3 hH1, e_ldH n57 hH1, e_ldH n76 hH1, e_ldaH k113 i113 s113 hH1, e_ldaH k30 i30 s30 hH1, e_ldaH k94 i94 s94 hH1, l_enter, l_skip, l_val, q_ld n27 hH1, q_ld n28 hH1, q_ld n3 hH1, q_ld n57 hH1, q_ld n76 hH1, q_lda k113 i113 s113 hH1, q_lda k30 i30 s30 hH1, q_lda k94 i94 s94 hH1, q_val hH1] | refine lastOf_ok _ _ _ (by omega) _ _ ?_ | refine W_drawH hH1 (by kernel_rfl) (by kernel_rfl) (fun w1 hw1 hH1 => ?_) | (refine D_split rfl rfl (fun hc => ?_) (fun hc => ?_) <;> (try simp only [decide_eq_true_eq, decide_eq_false_iff_not, Bool.not_eq_true', Bool.not_eq_false', Int.not_lt, Int.not_le, Decidable.not_not] at hc) <;> (try contradiction) <;> (try (exfalso; omega))) | (refine W_cond rfl (fun hc => ?_) (fun hc => ?_) <;> (try simp only [decide_eq_true_eq, decide_eq_false_iff_not, Bool.not_eq_true', Bool.not_eq_false', Int.not_lt, Int.not_le, Decidable.not_not] at hc) <;> (try contradiction) <;> (try (exfalso; omega))) | (refine G_split rfl rfl (fun hc => ?_) (fun hc => ?_) <;> (try simp only [decide_eq_true_eq, decide_eq_false_iff_not, Bool.not_eq_true', Bool.not_eq_false', Int.not_lt, Int.not_le, Decidable.not_not] at hc) <;> (try contradiction) <;> (try (exfalso; omega))) | (with_reducible (refine hK _ _ ?_); clear hK K) | go_step)
  refine ⟨VC_keep hH1 (fun w2 H2 l2 hH2 k2 f2 _ => ?_)⟩
  obtain ⟨bc, hbc⟩ : ∃ bc, bc = w1.heap.size := ⟨_, rfl⟩
  rw [← hbc] at k2 ⊢
  have n0 : H2 bc 0 = some (.int .i64 (topO c)) := k2 0
  have nl2 : H2 bc 2 = some (.int .i64 lC) := k2 2
  have nr3 : H2 bc 3 = some (.int .i64 rC) := k2 3
  have G1 := l2 _ _ _ g1
  have G2 := l2 _ _ _ g2
  have G3 := l2 _ _ _ g3
  have L2 := l1.trans l2
  have tC2 := tC.mono L2
  have rootC := tC2.root
  obtain ⟨lC', rC', m0, m1, m2, m3, eLC, eRC⟩ := tC2.cells
  obtain rfl : lC' = lC := by have := (l2 _ _ _ p2).symm.trans m2; simpa using this.symm
  obtain rfl : rC' = rC := by have := (l2 _ _ _ p3).symm.trans m3; simpa using this.symm
  have hFr := f1.no f2
  have hH := hH2
  clear hH1 hH2 k1 k2 f1 f2
  obtain ⟨afs0, mfs0, dfs0, qfs0, tfs0⟩ := (hfs0.mono L2).ex
  have rfs0 := tfs0.root
  have sfs0 := tfs0.small
  have ofs0 := tfs0.pos
  have Afs0 := tfs0.nd.sl.isA
  have ifs0 : ((mfs0 : Int) - 1).toNat = mfs0 - 1 := by omega
  obtain ⟨lxfs0, rxfs0, u0fs0, u1fs0, u2fs0, u3fs0, eLfs0, eRfs0⟩ := tfs0.cells
  have qfs00 : H2 (ablk sa) (aoff sa) = some (.slice afs0 mfs0 dfs0) := by simpa using qfs0
  obtain ⟨aas1, mas1, das1, qas1, tas1⟩ := (has1.mono L2).ex
  have ras1 := tas1.root
  have sas1 := tas1.small
  have oas1 := tas1.pos
  have Aas1 := tas1.nd.sl.isA
  have ias1 : ((mas1 : Int) - 1).toNat = mas1 - 1 := by omega
  obtain ⟨lxas1, rxas1, u0as1, u1as1, u2as1, u3as1, eLas1, eRas1⟩ := tas1.cells
  obtain ⟨aas2, mas2, das2, qas2, tas2⟩ := (has2.mono L2).ex
  have ras2 := tas2.root
  have sas2 := tas2.small
  have oas2 := tas2.pos
  have Aas2 := tas2.nd.sl.isA
  have ias2 : ((mas2 : Int) - 1).toNat = mas2 - 1 := by omega
  obtain ⟨lxas2, rxas2, u0as2, u1as2, u2as2, u3as2, eLas2, eRas2⟩ := tas2.cells
  obtain ⟨acs1, mcs1, dcs1, qcs1, tcs1⟩ := (hcs1.mono L2).ex
  have rcs1 := tcs1.root
  have scs1 := tcs1.small
  have ocs1 := tcs1.pos
  have Acs1 := tcs1.nd.sl.isA
  have ics1 : ((mcs1 : Int) - 1).toNat = mcs1 - 1 := by omega
  obtain ⟨lxcs1, rxcs1, u0cs1, u1cs1, u2cs1, u3cs1, eLcs1, eRcs1⟩ := tcs1.cells
  obtain ⟨acs2, mcs2, dcs2, qcs2, tcs2⟩ := (hcs2.mono L2).ex
  have rcs2 := tcs2.root
  have scs2 := tcs2.small
  have ocs2 := tcs2.pos
  have Acs2 := tcs2.nd.sl.isA
  have ics2 : ((mcs2 : Int) - 1).toNat = mcs2 - 1 := by omega
  obtain ⟨lxcs2, rxcs2, u0cs2, u1cs2, u2cs2, u3cs2, eLcs2, eRcs2⟩ := tcs2.cells
  repeat' (first | with_reducible refine VC_stop _ ?_ | refine W_seq (fun K hK => ?_) | refine W_block ?_ | refine W_skip ?_ | refine W_exit ?_ | refine W_ret ?_ | refine W_region ?_ | simp (disch := first | (simp only [undef, want_some, upd_app, List.getElem?_cons_succ, List.getElem?_cons_zero, Option.join_some, e_bt, e_bf, Nat.reduceEqDiff, ↓reduceIte, Bool.not_true, Bool.not_false, ne_eq, not_false_eq_true]; done) | ((with_reducible refine pkE ?_); with_unfolding_all rfl) | ((with_reducible refine cszE ?_); with_unfolding_all rfl) | ((with_reducible refine isQE ?_); with_unfolding_all rfl) | assumption | omega) only [Bool.false_eq_true, Bool.not_false, Bool.not_true, Int.reduceToNat, Int.toNat_natCast, List.map_cons, List.map_nil, List.map_toArray, Nat.add_zero, Nat.reduceEqDiff, Nat.zero_add, ablk_some, aoff_some, b_exit, b_exitN, b_normal, b_ret, e_alloc _ _ _ _ z113, e_alloc _ _ _ _ z30, e_alloc _ _ _ _ z94, e_ifF, e_ifT, e_make _ _ k166 ze166 se166 rfl (by decide) be166, e_stn _ _ i113 s113, e_stn _ _ i30 s30, e_stn _ _ i94 s94, ev_const, ev_tmp, fe_add, fe_eql, fe_fld _ o113_0, fe_fld _ o113_2, fe_fld _ o113_3, fe_fld _ o30_3, fe_fld _ o30_4, fe_fld _ o32_0, fe_fld _ o91_1, fe_fld _ o91_2, fe_fld _ o91_3, fe_fld _ o94_0, fe_fld _ o94_1, fe_fld _ o94_2, fe_ixo k23 ie23 se23, fe_ixo k27 ie27 se27, fe_ixo k28 ie28 se28, fe_ixo k56 ie56 se56, fe_ixo k57 ie57 se57, fe_ixo k76 ie76 se76, fe_ixo k89 ie89 se89, fe_len _ _ _ _ _ k27, fe_len _ _ _ _ _ k56, fe_lss, fe_neq, fe_not, fe_pick, fe_sub, fo_assign, fo_bin, fo_fieldAddr, fo_indexAddr, fo_len, fo_load, fo_move, fo_notV, fo_pick, init1, init2a, init2b, init3a, init3b, init3c, o_alloc, o_box, o_call _ _ _ _ _ _ _ c100, o_call _ _ _ _ _ _ _ c101, o_call _ _ _ _ _ _ _ c98, o_call _ _ _ _ _ _ _ c99, o_makeSlice, o_store, put_none, put_some, r_enter, r_skip, r_value, s_nil, s_none, s_someF, s_someT, t_exit, t_normal, t_ret, tn1, tn2, tn3, upd_app, wrapS, ↓reduceIte, in6a, in6b, in6c, in6d, in6e, in6f, G1, G2, G3, n0, nl2, nr3, qfs0, u0fs0, u1fs0, u2fs0, u3fs0, qfs00, qas1, u0as1, u1as1, u2as1, u3as1, qas2, u0as2, u1as2, u2as2, u3as2, qcs1, u0cs1, u1cs1, u2cs1, u3cs1, qcs2, u0cs2, u1cs2, u2cs2, u3cs2, ifs0, ias1, ias2, ics1, ics2, hti, Nat.zero_add, Nat.add_zero, Nat.zero_mul, Nat.mul_one, Int.reduceToNat, List.map_cons, List.map_nil, cells1, cells2, cells3, cells4, cells5, d_loud, d_nil, d_quiet, d_someF, d_someT, e_ldH n27 hH, e_ldH n28 hH, e_ldH n3 hH, e_ldH n57 hH, e_ldH n76 hH, e_ldaH k113 i113 s113 hH, e_ldaH k30 i30 s30 hH, e_ldaH k94 i94 s94 hH, l_enter, l_skip, l_val, q_ld n27 hH, q_ld n28 hH, q_ld n3 hH, q_ld n57 hH, q_ld n76 hH, q_lda k113 i113 s113 hH, q_lda k30 i30 s30 hH, q_lda k94 i94 s94 hH, q_val hH] | refine lastOf_ok _ _ _ (by omega) _ _ ⟨.inl hH, ?_⟩ | refine lastOf_ok _ _ _ (by omega) _ _ ?_ | refine W_drawH3 hH (by kernel_rfl) (by kernel_rfl) (fun w1 hw1 hH => ?_) | (refine D_split rfl rfl (fun hc => ?_) (fun hc => ?_) <;> (try simp only [decide_eq_true_eq, decide_eq_false_iff_not, Bool.not_eq_true', Bool.not_eq_false', Int.not_lt, Int.not_le, Decidable.not_not] at hc) <;> (try contradiction) <;> (try (exfalso; omega))) | (refine W_cond rfl (fun hc => ?_) (fun hc => ?_) <;> (try simp only [decide_eq_true_eq, decide_eq_false_iff_not, Bool.not_eq_true', Bool.not_eq_false', Int.not_lt, Int.not_le, Decidable.not_not] at hc) <;> (try contradiction) <;> (try (exfalso; omega))) | (refine G_split rfl rfl (fun hc => ?_) (fun hc => ?_) <;> (try simp only [decide_eq_true_eq, decide_eq_false_iff_not, Bool.not_eq_true', Bool.not_eq_false', Int.not_lt, Int.not_le, Decidable.not_not] at hc) <;> (try contradiction) <;> (try (exfalso; omega))) | (with_reducible (refine hK _ _ ?_); clear hK K) | go_step)
  refine ⟨VC_keep (by first | exact hH | exact hH.frN hw1) (fun w3 H3 l3 hH3 k3 f3 _ => ?_)⟩
  obtain ⟨bx3, hbx3⟩ : ∃ b, b = w2.heap.size := ⟨_, rfl⟩
  rw [← hbx3] at k3 ⊢
  have v03 : H3 bx3 0 = some (.int .i64 (topO _)) := k3 0
  have v23 : H3 bx3 2 = some (.int .i64 lxfs0) := k3 2
  have v33 : H3 bx3 3 = some (.int .i64 rxfs0) := k3 3
  have hFr := hFr.no f3
  have hH := hH3
  clear hH3 k3 f3
  replace G1 := l3 _ _ _ G1
  replace G2 := l3 _ _ _ G2
  replace G3 := l3 _ _ _ G3
  replace n0 := l3 _ _ _ n0
  replace nl2 := l3 _ _ _ nl2
  replace nr3 := l3 _ _ _ nr3
  replace qfs0 := l3 _ _ _ qfs0
  replace u0fs0 := l3 _ _ _ u0fs0
  replace u1fs0 := l3 _ _ _ u1fs0
  replace u2fs0 := l3 _ _ _ u2fs0
  replace u3fs0 := l3 _ _ _ u3fs0
  replace qfs00 := l3 _ _ _ qfs00
  replace qas1 := l3 _ _ _ qas1
  replace u0as1 := l3 _ _ _ u0as1
  replace u1as1 := l3 _ _ _ u1as1
  replace u2as1 := l3 _ _ _ u2as1
  replace u3as1 := l3 _ _ _ u3as1
  replace qas2 := l3 _ _ _ qas2
  replace u0as2 := l3 _ _ _ u0as2
  replace u1as2 := l3 _ _ _ u1as2
  replace u2as2 := l3 _ _ _ u2as2
  replace u3as2 := l3 _ _ _ u3as2
  replace qcs1 := l3 _ _ _ qcs1
  replace u0cs1 := l3 _ _ _ u0cs1
  replace u1cs1 := l3 _ _ _ u1cs1
  replace u2cs1 := l3 _ _ _ u2cs1
  replace u3cs1 := l3 _ _ _ u3cs1
  replace qcs2 := l3 _ _ _ qcs2
  replace u0cs2 := l3 _ _ _ u0cs2
  replace u1cs2 := l3 _ _ _ u1cs2
  replace u2cs2 := l3 _ _ _ u2cs2
  replace u3cs2 := l3 _ _ _ u3cs2
  replace rootC := rootC.mono l3
  replace tC2 := tC2.mono l3
  replace rfs0 := rfs0.mono l3
  replace tfs0 := tfs0.mono l3
  replace ras1 := ras1.mono l3
  replace tas1 := tas1.mono l3
  replace ras2 := ras2.mono l3
  replace tas2 := tas2.mono l3
  replace rcs1 := rcs1.mono l3
  replace tcs1 := tcs1.mono l3
  replace rcs2 := rcs2.mono l3
  replace tcs2 := tcs2.mono l3
  replace eLC := fun hz => (eLC hz).mono l3
  replace eRC := fun hz => (eRC hz).mono l3
  replace eLfs0 := fun hz => (eLfs0 hz).mono l3
  replace eRfs0 := fun hz => (eRfs0 hz).mono l3
  replace eLas1 := fun hz => (eLas1 hz).mono l3
  replace eRas1 := fun hz => (eRas1 hz).mono l3
  replace eLas2 := fun hz => (eLas2 hz).mono l3
  replace eRas2 := fun hz => (eRas2 hz).mono l3
  replace eLcs1 := fun hz => (eLcs1 hz).mono l3
  replace eRcs1 := fun hz => (eRcs1 hz).mono l3
  replace eLcs2 := fun hz => (eLcs2 hz).mono l3
  replace eRcs2 := fun hz => (eRcs2 hz).mono l3
  repeat' (first | refine W_seq (fun K hK => ?_) | refine W_block ?_ | refine W_skip ?_ | refine W_exit ?_ | refine W_ret ?_ | refine W_region ?_ | simp (disch := first | (simp only [undef, want_some, upd_app, List.getElem?_cons_succ, List.getElem?_cons_zero, Option.join_some, e_bt, e_bf, Nat.reduceEqDiff, ↓reduceIte, Bool.not_true, Bool.not_false, ne_eq, not_false_eq_true]; done) | ((with_reducible refine pkE ?_); with_unfolding_all rfl) | ((with_reducible refine cszE ?_); with_unfolding_all rfl) | ((with_reducible refine isQE ?_); with_unfolding_all rfl) | assumption | omega) only [Bool.false_eq_true, Bool.not_false, Bool.not_true, Int.reduceToNat, Int.toNat_natCast, List.map_cons, List.map_nil, List.map_toArray, Nat.add_zero, Nat.reduceEqDiff, Nat.zero_add, ablk_some, aoff_some, b_exit, b_exitN, b_normal, b_ret, e_alloc _ _ _ _ z113, e_alloc _ _ _ _ z30, e_alloc _ _ _ _ z94, e_ifF, e_ifT, e_make _ _ k166 ze166 se166 rfl (by decide) be166, e_stn _ _ i113 s113, e_stn _ _ i30 s30, e_stn _ _ i94 s94, ev_const, ev_tmp, fe_add, fe_eql, fe_fld _ o113_0, fe_fld _ o113_2, fe_fld _ o113_3, fe_fld _ o30_3, fe_fld _ o30_4, fe_fld _ o32_0, fe_fld _ o91_1, fe_fld _ o91_2, fe_fld _ o91_3, fe_fld _ o94_0, fe_fld _ o94_1, fe_fld _ o94_2, fe_ixo k23 ie23 se23, fe_ixo k27 ie27 se27, fe_ixo k28 ie28 se28, fe_ixo k56 ie56 se56, fe_ixo k57 ie57 se57, fe_ixo k76 ie76 se76, fe_ixo k89 ie89 se89, fe_len _ _ _ _ _ k27, fe_len _ _ _ _ _ k56, fe_lss, fe_neq, fe_not, fe_pick, fe_sub, fo_assign, fo_bin, fo_fieldAddr, fo_indexAddr, fo_len, fo_load, fo_move, fo_notV, fo_pick, init1, init2a, init2b, init3a, init3b, init3c, o_alloc, o_box, o_call _ _ _ _ _ _ _ c100, o_call _ _ _ _ _ _ _ c101, o_call _ _ _ _ _ _ _ c98, o_call _ _ _ _ _ _ _ c99, o_makeSlice, o_store, put_none, put_some, r_enter, r_skip, r_value, s_nil, s_none, s_someF, s_someT, t_exit, t_normal, t_ret, tn1, tn2, tn3, upd_app, wrapS, ↓reduceIte, in6a, in6b, in6c, in6d, in6e, in6f, G1, G2, G3, n0, nl2, nr3, qfs0, u0fs0, u1fs0, u2fs0, u3fs0, qfs00, qas1, u0as1, u1as1, u2as1, u3as1, qas2, u0as2, u1as2, u2as2, u3as2, qcs1, u0cs1, u1cs1, u2cs1, u3cs1, qcs2, u0cs2, u1cs2, u2cs2, u3cs2, v03, v23, v33, ifs0, ias1, ias2, ics1, ics2, hti, Nat.zero_add, Nat.add_zero, Nat.zero_mul, Nat.mul_one, Int.reduceToNat, List.map_cons, List.map_nil, cells1, cells2, cells3, cells4, cells5, d_loud, d_nil, d_quiet, d_someF, d_someT, e_ldH n27 hH, e_ldH n28 hH, e_ldH n3 hH, e_ldH n57 hH, e_ldH n76 hH, e_ldaH k113 i113 s113 hH, e_ldaH k30 i30 s30 hH, e_ldaH k94 i94 s94 hH, l_enter, l_skip, l_val, q_ld n27 hH, q_ld n28 hH, q_ld n3 hH, q_ld n57 hH, q_ld n76 hH, q_lda k113 i113 s113 hH, q_lda k30 i30 s30 hH, q_lda k94 i94 s94 hH, q_val hH] | refine eqAt_ok5 hH hFr (by first | assumption | exact eLC (by omega) | exact eRC (by omega) | exact eLfs0 (by omega) | exact eRfs0 (by omega) | exact eLas1 (by omega) | exact eRas1 (by omega) | exact eLas2 (by omega) | exact eRas2 (by omega) | exact eLcs1 (by omega) | exact eRcs1 (by omega) | exact eLcs2 (by omega) | exact eRcs2 (by omega)) (by first | assumption | exact eLC (by omega) | exact eRC (by omega) | exact eLfs0 (by omega) | exact eRfs0 (by omega) | exact eLas1 (by omega) | exact eRas1 (by omega) | exact eLas2 (by omega) | exact eRas2 (by omega) | exact eLcs1 (by omega) | exact eRcs1 (by omega) | exact eLcs2 (by omega) | exact eRcs2 (by omega)) _ (fun he w3 hH hFr => ⟨.inl hH, ?_⟩) (fun he w3 hH hFr => ⟨.inl hH, ?_⟩) | refine eqAt_ok5 hH hFr (by first | assumption | exact eLC (by omega) | exact eRC (by omega) | exact eLfs0 (by omega) | exact eRfs0 (by omega) | exact eLas1 (by omega) | exact eRas1 (by omega) | exact eLas2 (by omega) | exact eRas2 (by omega) | exact eLcs1 (by omega) | exact eRcs1 (by omega) | exact eLcs2 (by omega) | exact eRcs2 (by omega)) (by first | assumption | exact eLC (by omega) | exact eRC (by omega) | exact eLfs0 (by omega) | exact eRfs0 (by omega) | exact eLas1 (by omega) | exact eRas1 (by omega) | exact eLas2 (by omega) | exact eRas2 (by omega) | exact eLcs1 (by omega) | exact eRcs1 (by omega) | exact eLcs2 (by omega) | exact eRcs2 (by omega)) _ (fun he w3 hH hFr => ?_) (fun he w3 hH hFr => ?_) | refine isBot_ok5 hH hFr (by assumption) _ (fun he w3 hH hFr => ⟨.inl hH, ?_⟩) (fun he w3 hH hFr => ⟨.inl hH, ?_⟩) | refine isBot_ok5 hH hFr (by assumption) _ (fun he w3 hH hFr => ?_) (fun he w3 hH hFr => ?_) | refine eqAt_ok5 hH (hFr.no hw1) (by first | assumption | exact eLC (by omega) | exact eRC (by omega) | exact eLfs0 (by omega) | exact eRfs0 (by omega) | exact eLas1 (by omega) | exact eRas1 (by omega) | exact eLas2 (by omega) | exact eRas2 (by omega) | exact eLcs1 (by omega) | exact eRcs1 (by omega) | exact eLcs2 (by omega) | exact eRcs2 (by omega)) (by first | assumption | exact eLC (by omega) | exact eRC (by omega) | exact eLfs0 (by omega) | exact eRfs0 (by omega) | exact eLas1 (by omega) | exact eRas1 (by omega) | exact eLas2 (by omega) | exact eRas2 (by omega) | exact eLcs1 (by omega) | exact eRcs1 (by omega) | exact eLcs2 (by omega) | exact eRcs2 (by omega)) _ (fun he w3 hH hFr => ⟨.inl hH, ?_⟩) (fun he w3 hH hFr => ⟨.inl hH, ?_⟩) | refine eqAt_ok5 hH (hFr.no hw1) (by first | assumption | exact eLC (by omega) | exact eRC (by omega) | exact eLfs0 (by omega) | exact eRfs0 (by omega) | exact eLas1 (by omega) | exact eRas1 (by omega) | exact eLas2 (by omega) | exact eRas2 (by omega) | exact eLcs1 (by omega) | exact eRcs1 (by omega) | exact eLcs2 (by omega) | exact eRcs2 (by omega)) (by first | assumption | exact eLC (by omega) | exact eRC (by omega) | exact eLfs0 (by omega) | exact eRfs0 (by omega) | exact eLas1 (by omega) | exact eRas1 (by omega) | exact eLas2 (by omega) | exact eRas2 (by omega) | exact eLcs1 (by omega) | exact eRcs1 (by omega) | exact eLcs2 (by omega) | exact eRcs2 (by omega)) _ (fun he w3 hH hFr => ?_) (fun he w3 hH hFr => ?_) | refine isBot_ok5 hH (hFr.no hw1) (by assumption) _ (fun he w3 hH hFr => ⟨.inl hH, ?_⟩) (fun he w3 hH hFr => ⟨.inl hH, ?_⟩) | refine isBot_ok5 hH (hFr.no hw1) (by assumption) _ (fun he w3 hH hFr => ?_) (fun he w3 hH hFr => ?_) | refine lastOf_ok _ _ _ (by omega) _ _ ⟨.inl hH, ?_⟩ | refine lastOf_ok _ _ _ (by omega) _ _ ?_ | refine W_drawH3 hH (by kernel_rfl) (by kernel_rfl) (fun w1 hw1 hH => ?_) | (refine D_split rfl rfl (fun hc => ?_) (fun hc => ?_) <;> (try simp only [decide_eq_true_eq, decide_eq_false_iff_not, Bool.not_eq_true', Bool.not_eq_false', Int.not_lt, Int.not_le, Decidable.not_not] at hc) <;> (try contradiction) <;> (try (exfalso; omega))) | (refine W_cond rfl (fun hc => ?_) (fun hc => ?_) <;> (try simp only [decide_eq_true_eq, decide_eq_false_iff_not, Bool.not_eq_true', Bool.not_eq_false', Int.not_lt, Int.not_le, Decidable.not_not] at hc) <;> (try contradiction) <;> (try (exfalso; omega))) | (refine G_split rfl rfl (fun hc => ?_) (fun hc => ?_) <;> (try simp only [decide_eq_true_eq, decide_eq_false_iff_not, Bool.not_eq_true', Bool.not_eq_false', Int.not_lt, Int.not_le, Decidable.not_not] at hc) <;> (try contradiction) <;> (try (exfalso; omega))) | (with_reducible (refine hK _ _ ?_); clear hK K) | go_step)
  all_goals
    refine ret1 rfl ?_; simp (disch := first | (simp only [undef, want_some, upd_app, List.getElem?_cons_succ, List.getElem?_cons_zero, Option.join_some, e_bt, e_bf, Nat.reduceEqDiff, ↓reduceIte, Bool.not_true, Bool.not_false, ne_eq, not_false_eq_true]; done) | ((with_reducible refine pkE ?_); with_unfolding_all rfl) | ((with_reducible refine cszE ?_); with_unfolding_all rfl) | ((with_reducible refine isQE ?_); with_unfolding_all rfl) | assumption | omega) only [Bool.false_eq_true, Bool.not_false, Bool.not_true, Int.reduceToNat, Int.toNat_natCast, List.map_cons, List.map_nil, List.map_toArray, Nat.add_zero, Nat.reduceEqDiff, Nat.zero_add, ablk_some, aoff_some, b_exit, b_exitN, b_normal, b_ret, e_alloc _ _ _ _ z113, e_alloc _ _ _ _ z30, e_alloc _ _ _ _ z94, e_ifF, e_ifT, e_make _ _ k166 ze166 se166 rfl (by decide) be166, e_stn _ _ i113 s113, e_stn _ _ i30 s30, e_stn _ _ i94 s94, ev_const, ev_tmp, fe_add, fe_eql, fe_fld _ o113_0, fe_fld _ o113_2, fe_fld _ o113_3, fe_fld _ o30_3, fe_fld _ o30_4, fe_fld _ o32_0, fe_fld _ o91_1, fe_fld _ o91_2, fe_fld _ o91_3, fe_fld _ o94_0, fe_fld _ o94_1, fe_fld _ o94_2, fe_ixo k23 ie23 se23, fe_ixo k27 ie27 se27, fe_ixo k28 ie28 se28, fe_ixo k56 ie56 se56, fe_ixo k57 ie57 se57, fe_ixo k76 ie76 se76, fe_ixo k89 ie89 se89, fe_len _ _ _ _ _ k27, fe_len _ _ _ _ _ k56, fe_lss, fe_neq, fe_not, fe_pick, fe_sub, fo_assign, fo_bin, fo_fieldAddr, fo_indexAddr, fo_len, fo_load, fo_move, fo_notV, fo_pick, init1, init2a, init2b, init3a, init3b, init3c, o_alloc, o_box, o_call _ _ _ _ _ _ _ c100, o_call _ _ _ _ _ _ _ c101, o_call _ _ _ _ _ _ _ c98, o_call _ _ _ _ _ _ _ c99, o_makeSlice, o_store, put_none, put_some, r_enter, r_skip, r_value, s_nil, s_none, s_someF, s_someT, t_exit, t_normal, t_ret, tn1, tn2, tn3, upd_app, wrapS, ↓reduceIte]
    first
      | (refine h true _ ⟨fun _ => ?_, fun _ => rfl⟩ (by first | exact hFr | exact hFr.no hw1)
         rw [st7]
         (repeat' apply And.intro) <;> first | assumption | omega)
      | (refine h false _ ⟨fun e => (by cases e), fun e => ?_⟩ (by first | exact hFr | exact hFr.no hw1)
         rw [st7] at e
         obtain ⟨e0w, e1w, e2w, e3w, e4w⟩ := e
         first | exact absurd e0w (by assumption) | exact absurd e1w (by assumption) | exact absurd e2w (by assumption) | exact absurd e3w (by assumption) | exact absurd e4w (by assumption) | omega)
-- impl.stepFits
set_option maxHeartbeats 8000000 in
set_option maxRecDepth 20000 in
theorem stepFits9_ok {H : Heap} {w : World} (hH : HS H w) {fa ra sa aa ca pa ta : Option Addr} {fc rc k sc ac cc pn pc tn tc : Nat} {ln : Ln} {c : FT} {X K : Nat → FT} {U : Prop} (tC : FmH H fa ln.f.length c) (hrl : ln.rule = 9) (hk : 2 ≤ k) (hsA : IsA sa k) (haA : IsA aa k) (hcA : IsA ca k) (hfs0 : FsAt H sa 0 (X 0)) (hfs1 : FsAt H sa 1 (X 1)) (R : Value → World → Prop)
    (h : ∀ (r : Bool) w', (r = true ↔ stepP 9 c X K U) → Fr noB w w' → R (.bool r) w') : CallsV Yaao.prog 88 #[.agg (lnC fa fc ra rc ln).toArray, .slice sa k sc, .slice aa k ac, .slice ca k cc, .slice pa pn pc, .slice ta tn tc] w R := by
  have hCA := tC.nd.sl.isA
  have hpos := tC.pos
  have hsm := tC.small
  have hti : ((ln.f.length : Int) - 1).toNat = ln.f.length - 1 := by omega
  refine ent88 (by simp) ?_
  repeat' (first | with_reducible refine VC_stop _ ?_ | refine W_seq (fun K hK => ?_) | refine W_block ?_ | refine W_skip ?_ | refine W_exit ?_ | refine W_ret ?_ | refine W_region ?_ | simp (disch := first | (simp only [undef, want_some, upd_app, List.getElem?_cons_succ, List.getElem?_cons_zero, Option.join_some, e_bt, e_bf, Nat.reduceEqDiff, ↓reduceIte, Bool.not_true, Bool.not_false, ne_eq, not_false_eq_true]; done) | ((with_reducible refine pkE ?_); with_unfolding_all rfl) | ((with_reducible refine cszE ?_); with_unfolding_all rfl) | ((with_reducible refine isQE ?_); with_unfolding_all rfl) | assumption | omega) only [Bool.false_eq_true, Bool.not_false, Bool.not_true, Int.reduceToNat, Int.toNat_natCast, List.map_cons, List.map_nil, List.map_toArray, Nat.add_zero, Nat.reduceEqDiff, Nat.zero_add, ablk_some, aoff_some, b_exit, b_exitN, b_normal, b_ret, e_alloc _ _ _ _ z113, e_alloc _ _ _ _ z30, e_alloc _ _ _ _ z94, e_ifF, e_ifT, e_make _ _ k166 ze166 se166 rfl (by decide) be166, e_stn _ _ i113 s113, e_stn _ _ i30 s30, e_stn _ _ i94 s94, ev_const, ev_tmp, fe_add, fe_eql, fe_fld _ o113_0, fe_fld _ o113_2, fe_fld _ o113_3, fe_fld _ o30_3, fe_fld _ o30_4, fe_fld _ o32_0, fe_fld _ o91_1, fe_fld _ o91_2, fe_fld _ o91_3, fe_fld _ o94_0, fe_fld _ o94_1, fe_fld _ o94_2, fe_ixo k23 ie23 se23, fe_ixo k27 ie27 se27, fe_ixo k28 ie28 se28, fe_ixo k56 ie56 se56, fe_ixo k57 ie57 se57, fe_ixo k76 ie76 se76, fe_ixo k89 ie89 se89, fe_len _ _ _ _ _ k27, fe_len _ _ _ _ _ k56, fe_lss, fe_neq, fe_not, fe_pick, fe_sub, fo_assign, fo_bin, fo_fieldAddr, fo_indexAddr, fo_len, fo_load, fo_move, fo_notV, fo_pick, init1, init2a, init2b, init3a, init3b, init3c, o_alloc, o_box, o_call _ _ _ _ _ _ _ c100, o_call _ _ _ _ _ _ _ c101, o_call _ _ _ _ _ _ _ c98, o_call _ _ _ _ _ _ _ c99, o_makeSlice, o_store, put_none, put_some, r_enter, r_skip, r_value, s_nil, s_none, s_someF, s_someT, t_exit, t_normal, t_ret, tn1, tn2, tn3, upd_app, wrapS, ↓reduceIte, in6a] | (refine W_cond rfl (fun hc => ?_) (fun hc => ?_) <;> (try simp only [decide_eq_true_eq, decide_eq_false_iff_not, Bool.not_eq_true', Bool.not_eq_false', Int.not_lt, Int.not_le, Decidable.not_not] at hc) <;> (try contradiction) <;> (try (exfalso; omega))) | (refine G_split rfl rfl (fun hc => ?_) (fun hc => ?_) <;> (try simp only [decide_eq_true_eq, decide_eq_false_iff_not, Bool.not_eq_true', Bool.not_eq_false', Int.not_lt, Int.not_le, Decidable.not_not] at hc) <;> (try contradiction) <;> (try (exfalso; omega))) | (with_reducible (refine hK _ _ ?_); clear hK K) | go_step)
  refine ⟨?_⟩
  rw [show (Value.agg (lnC fa fc ra rc ln).toArray).cells = (lnC fa fc ra rc ln).toArray from rfl]
  refine VC_keep hH (fun w1 H1 l1 hH1 k1 f1 _ => ?_)
  obtain ⟨ba, hba⟩ : ∃ ba, ba = w.heap.size := ⟨_, rfl⟩
  rw [← hba] at k1 ⊢
  have g1 : H1 ba 1 = some (.slice fa ln.f.length fc) := k1 1
  have g2 : H1 ba 2 = some (.int .i64 ln.rule) := k1 2
  have g3 : H1 ba 3 = some (.slice ra ln.refs.length rc) := k1 3
  rw [hrl] at g2
  have tC1 := tC.mono l1
  obtain ⟨lC, rC, p0, p1, p2, p3, _, _⟩ := tC1.cells
  repeat' (first | with_reducible refine VC_stop _ ?_ | refine W_seq (fun K hK => ?_) | refine W_block ?_ | refine W_skip ?_ | refine W_exit ?_ | refine W_ret ?_ | refine W_region ?_ | simp (disch := first | (simp only [undef, want_some, upd_app, List.getElem?_cons_succ, List.getElem?_cons_zero, Option.join_some, e_bt, e_bf, Nat.reduceEqDiff, ↓reduceIte, Bool.not_true, Bool.not_false, ne_eq, not_false_eq_true]; done) | ((with_reducible refine pkE ?_); with_unfolding_all rfl) | ((with_reducible refine cszE ?_); with_unfolding_all rfl) | ((with_reducible refine isQE ?_); with_unfolding_all rfl) | assumption | omega) only [Bool.false_eq_true, Bool.not_false, Bool.not_true, Int.reduceToNat, Int.toNat_natCast, List.map_cons, List.map_nil, List.map_toArray, Nat.add_zero, Nat.reduceEqDiff, Nat.zero_add, ablk_some, aoff_some, b_exit, b_exitN, b_normal, b_ret, e_alloc _ _ _ _ z113, e_alloc _ _ _ _ z30, e_alloc _ _ _ _ z94, e_ifF, e_ifT, e_make _ _ k166 ze166 se166 rfl (by decide) be166, e_stn _ _ i113 s113, e_stn _ _ i30 s30, e_stn _ _ i94 s94, ev_const, ev_tmp, fe_add, fe_eql, fe_fld _ o113_0, fe_fld _ o113_2, fe_fld _ o113_3, fe_fld _ o30_3, fe_fld _ o30_4, fe_fld _ o32_0, fe_fld _ o91_1, fe_fld _ o91_2, fe_fld _ o91_3, fe_fld _ o94_0, fe_fld _ o94_1, fe_fld _ o94_2, fe_ixo k23 ie23 se23, fe_ixo k27 ie27 se27, fe_ixo k28 ie28 se28, fe_ixo k56 ie56 se56, fe_ixo k57 ie57 se57, fe_ixo k76 ie76 se76, fe_ixo k89 ie89 se89, fe_len _ _ _ _ _ k27, fe_len _ _ _ _ _ k56, fe_lss, fe_neq, fe_not, fe_pick, fe_sub, fo_assign, fo_bin, fo_fieldAddr, fo_indexAddr, fo_len, fo_load, fo_move, fo_notV, fo_pick, init1, init2a, init2b, init3a, init3b, init3c, o_alloc, o_box, o_call _ _ _ _ _ _ _ c100, o_call _ _ _ _ _ _ _ c101, o_call _ _ _ _ _ _ _ c98, o_call _ _ _ _ _ _ _ c99, o_makeSlice, o_store, put_none, put_some, r_enter, r_skip, r_value, s_nil, s_none, s_someF, s_someT, t_exit, t_normal, t_ret, tn1, tn2, tn3, upd_app, wrapS, ↓reduceIte, in6a, in6b, in6c, in6d, in6e, in6f, g1, g2, g3, p0, p1, p2, p3, hti, Nat.zero_add, List.map_cons, List.map_nil, cells1, cells2, cells3, cells4, cells5, d_loud, d_nil, d_quiet, d_someF, d_someT, e_ldH n27 hH1, e_ldH n28 hH1, e_ldH n3 hH1, e_ldH n57 hH1, e_ldH n76 hH1, e_ldaH k113 i113 s113 hH1, e_ldaH k30 i30 s30 hH1, e_ldaH k94 i94 s94 hH1, l_enter, l_skip, l_val, q_ld n27 hH1, q_ld n28 hH1, q_ld n3 hH1, q_ld n57 hH1, q_ld n76 hH1, q_lda k113 i113 s113 hH1, q_lda k30 i30 s30 hH1, q_lda k94 i94 s94 hH1, q_val hH1] | refine lastOf_ok _ _ _ (by omega) _ _ ?_ | refine W_drawH hH1 (by kernel_rfl) (by kernel_rfl) (fun w1 hw1 hH1 => ?_) | (refine D_split rfl rfl (fun hc => ?_) (fun hc => ?_) <;> (try simp only [decide_eq_true_eq, decide_eq_false_iff_not, Bool.not_eq_true', Bool.not_eq_false', Int.not_lt, Int.not_le, Decidable.not_not] at hc) <;> (try contradiction) <;> (try (exfalso; omega))) | (refine W_cond rfl (fun hc => ?_) (fun hc => ?_) <;> (try simp only [decide_eq_true_eq, decide_eq_false_iff_not, Bool.not_eq_true', Bool.not_eq_false', Int.not_lt, Int.not_le, Decidable.not_not] at hc) <;> (try contradiction) <;> (try (exfalso; omega))) | (refine G_split rfl rfl (fun hc => ?_) (fun hc => ?_) <;> (try simp only [decide_eq_true_eq, decide_eq_false_iff_not, Bool.not_eq_true', Bool.not_eq_false', Int.not_lt, Int.not_le, Decidable.not_not] at hc) <;> (try contradiction) <;> (try (exfalso; omega))) | (with_reducible (refine hK _ _ ?_); clear hK K) | go_step)
  refine ⟨VC_keep hH1 (fun w2 H2 l2 hH2 k2 f2 _ => ?_)⟩
  obtain ⟨bc, hbc⟩ : ∃ bc, bc = w1.heap.size := ⟨_, rfl⟩
  rw [← hbc] at k2 ⊢
  have n0 : H2 bc 0 = some (.int .i64 (topO c)) := k2 0
  have nl2 : H2 bc 2 = some (.int .i64 lC) := k2 2
  have nr3 : H2 bc 3 = some (.int .i64 rC) := k2 3
  have G1 := l2 _ _ _ g1
  have G2 := l2 _ _ _ g2
  have G3 := l2 _ _ _ g3
  have L2 := l1.trans l2
  have tC2 := tC.mono L2
  have rootC := tC2.root
  obtain ⟨lC', rC', m0, m1, m2, m3, eLC, eRC⟩ := tC2.cells
  obtain rfl : lC' = lC := by have := (l2 _ _ _ p2).symm.trans m2; simpa using this.symm
  obtain rfl : rC' = rC := by have := (l2 _ _ _ p3).symm.trans m3; simpa using this.symm
  have hFr := f1.no f2
  have hH := hH2
  clear hH1 hH2 k1 k2 f1 f2
  obtain ⟨afs0, mfs0, dfs0, qfs0, tfs0⟩ := (hfs0.mono L2).ex
  have rfs0 := tfs0.root
  have sfs0 := tfs0.small
  have ofs0 := tfs0.pos
  have Afs0 := tfs0.nd.sl.isA
  have ifs0 : ((mfs0 : Int) - 1).toNat = mfs0 - 1 := by omega
  obtain ⟨lxfs0, rxfs0, u0fs0, u1fs0, u2fs0, u3fs0, eLfs0, eRfs0⟩ := tfs0.cells
  have qfs00 : H2 (ablk sa) (aoff sa) = some (.slice afs0 mfs0 dfs0) := by simpa using qfs0
  obtain ⟨afs1, mfs1, dfs1, qfs1, tfs1⟩ := (hfs1.mono L2).ex
  have rfs1 := tfs1.root
  have sfs1 := tfs1.small
  have ofs1 := tfs1.pos
  have Afs1 := tfs1.nd.sl.isA
  have ifs1 : ((mfs1 : Int) - 1).toNat = mfs1 - 1 := by omega
  obtain ⟨lxfs1, rxfs1, u0fs1, u1fs1, u2fs1, u3fs1, eLfs1, eRfs1⟩ := tfs1.cells
  repeat' (first | with_reducible refine VC_stop _ ?_ | refine W_seq (fun K hK => ?_) | refine W_block ?_ | refine W_skip ?_ | refine W_exit ?_ | refine W_ret ?_ | refine W_region ?_ | simp (disch := first | (simp only [undef, want_some, upd_app, List.getElem?_cons_succ, List.getElem?_cons_zero, Option.join_some, e_bt, e_bf, Nat.reduceEqDiff, ↓reduceIte, Bool.not_true, Bool.not_false, ne_eq, not_false_eq_true]; done) | ((with_reducible refine pkE ?_); with_unfolding_all rfl) | ((with_reducible refine cszE ?_); with_unfolding_all rfl) | ((with_reducible refine isQE ?_); with_unfolding_all rfl) | assumption | omega) only [Bool.false_eq_true, Bool.not_false, Bool.not_true, Int.reduceToNat, Int.toNat_natCast, List.map_cons, List.map_nil, List.map_toArray, Nat.add_zero, Nat.reduceEqDiff, Nat.zero_add, ablk_some, aoff_some, b_exit, b_exitN, b_normal, b_ret, e_alloc _ _ _ _ z113, e_alloc _ _ _ _ z30, e_alloc _ _ _ _ z94, e_ifF, e_ifT, e_make _ _ k166 ze166 se166 rfl (by decide) be166, e_stn _ _ i113 s113, e_stn _ _ i30 s30, e_stn _ _ i94 s94, ev_const, ev_tmp, fe_add, fe_eql, fe_fld _ o113_0, fe_fld _ o113_2, fe_fld _ o113_3, fe_fld _ o30_3, fe_fld _ o30_4, fe_fld _ o32_0, fe_fld _ o91_1, fe_fld _ o91_2, fe_fld _ o91_3, fe_fld _ o94_0, fe_fld _ o94_1, fe_fld _ o94_2, fe_ixo k23 ie23 se23, fe_ixo k27 ie27 se27, fe_ixo k28 ie28 se28, fe_ixo k56 ie56 se56, fe_ixo k57 ie57 se57, fe_ixo k76 ie76 se76, fe_ixo k89 ie89 se89, fe_len _ _ _ _ _ k27, fe_len _ _ _ _ _ k56, fe_lss, fe_neq, fe_not, fe_pick, fe_sub, fo_assign, fo_bin, fo_fieldAddr, fo_indexAddr, fo_len, fo_load, fo_move, fo_notV, fo_pick, init1, init2a, init2b, init3a, init3b, init3c, o_alloc, o_box, o_call _ _ _ _ _ _ _ c100, o_call _ _ _ _ _ _ _ c101, o_call _ _ _ _ _ _ _ c98, o_call _ _ _ _ _ _ _ c99, o_makeSlice, o_store, put_none, put_some, r_enter, r_skip, r_value, s_nil, s_none, s_someF, s_someT, t_exit, t_normal, t_ret, tn1, tn2, tn3, upd_app, wrapS, ↓reduceIte, in6a, in6b, in6c, in6d, in6e, in6f, G1, G2, G3, n0, nl2, nr3, qfs0, u0fs0, u1fs0, u2fs0, u3fs0, qfs00, qfs1, u0fs1, u1fs1, u2fs1, u3fs1, ifs0, ifs1, hti, Nat.zero_add, Nat.add_zero, Nat.zero_mul, Nat.mul_one, Int.reduceToNat, List.map_cons, List.map_nil, cells1, cells2, cells3, cells4, cells5, d_loud, d_nil, d_quiet, d_someF, d_someT, e_ldH n27 hH, e_ldH n28 hH, e_ldH n3 hH, e_ldH n57 hH, e_ldH n76 hH, e_ldaH k113 i113 s113 hH, e_ldaH k30 i30 s30 hH, e_ldaH k94 i94 s94 hH, l_enter, l_skip, l_val, q_ld n27 hH, q_ld n28 hH, q_ld n3 hH, q_ld n57 hH, q_ld n76 hH, q_lda k113 i113 s113 hH, q_lda k30 i30 s30 hH, q_lda k94 i94 s94 hH, q_val hH] | refine lastOf_ok _ _ _ (by omega) _ _ ⟨.inl hH, ?_⟩ | refine lastOf_ok _ _ _ (by omega) _ _ ?_ | refine W_drawH3 hH (by kernel_rfl) (by kernel_rfl) (fun w1 hw1 hH => ?_) | (refine D_split rfl rfl (fun hc => ?_) (fun hc => ?_) <;> (try simp only [decide_eq_true_eq, decide_eq_false_iff_not, Bool.not_eq_true', Bool.not_eq_false', Int.not_lt, Int.not_le, Decidable.not_not] at hc) <;> (try contradiction) <;> (try (exfalso; omega))) | (refine W_cond rfl (fun hc => ?_) (fun hc => ?_) <;> (try simp only [decide_eq_true_eq, decide_eq_false_iff_not, Bool.not_eq_true', Bool.not_eq_false', Int.not_lt, Int.not_le, Decidable.not_not] at hc) <;> (try contradiction) <;> (try (exfalso; omega))) | (refine G_split rfl rfl (fun hc => ?_) (fun hc => ?_) <;> (try simp only [decide_eq_true_eq, decide_eq_false_iff_not, Bool.not_eq_true', Bool.not_eq_false', Int.not_lt, Int.not_le, Decidable.not_not] at hc) <;> (try contradiction) <;> (try (exfalso; omega))) | (with_reducible (refine hK _ _ ?_); clear hK K) | go_step)
  refine ⟨VC_keep (by first | exact hH | exact hH.frN hw1) (fun w3 H3 l3 hH3 k3 f3 _ => ?_)⟩
  obtain ⟨bx3, hbx3⟩ : ∃ b, b = w2.heap.size := ⟨_, rfl⟩
  rw [← hbx3] at k3 ⊢
  have v03 : H3 bx3 0 = some (.int .i64 (topO _)) := k3 0
  have v23 : H3 bx3 2 = some (.int .i64 lxfs0) := k3 2
  have v33 : H3 bx3 3 = some (.int .i64 rxfs0) := k3 3
  have hFr := hFr.no f3
  have hH := hH3
  clear hH3 k3 f3
  replace G1 := l3 _ _ _ G1
  replace G2 := l3 _ _ _ G2
  replace G3 := l3 _ _ _ G3
  replace n0 := l3 _ _ _ n0
  replace nl2 := l3 _ _ _ nl2
  replace nr3 := l3 _ _ _ nr3
  replace qfs0 := l3 _ _ _ qfs0
  replace u0fs0 := l3 _ _ _ u0fs0
  replace u1fs0 := l3 _ _ _ u1fs0
  replace u2fs0 := l3 _ _ _ u2fs0
  replace u3fs0 := l3 _ _ _ u3fs0
  replace qfs00 := l3 _ _ _ qfs00
  replace qfs1 := l3 _ _ _ qfs1
  replace u0fs1 := l3 _ _ _ u0fs1
  replace u1fs1 := l3 _ _ _ u1fs1
  replace u2fs1 := l3 _ _ _ u2fs1
  replace u3fs1 := l3 _ _ _ u3fs1
  replace rootC := rootC.mono l3
  replace tC2 := tC2.mono l3
  replace rfs0 := rfs0.mono l3
  replace tfs0 := tfs0.mono l3
  replace rfs1 := rfs1.mono l3
  replace tfs1 := tfs1.mono l3
  replace eLC := fun hz => (eLC hz).mono l3
  replace eRC := fun hz => (eRC hz).mono l3
  replace eLfs0 := fun hz => (eLfs0 hz).mono l3
  replace eRfs0 := fun hz => (eRfs0 hz).mono l3
  replace eLfs1 := fun hz => (eLfs1 hz).mono l3
  replace eRfs1 := fun hz => (eRfs1 hz).mono l3
  repeat' (first | refine W_seq (fun K hK => ?_) | refine W_block ?_ | refine W_skip ?_ | refine W_exit ?_ | refine W_ret ?_ | refine W_region ?_ | simp (disch := first | (simp only [undef, want_some, upd_app, List.getElem?_cons_succ, List.getElem?_cons_zero, Option.join_some, e_bt, e_bf, Nat.reduceEqDiff, ↓reduceIte, Bool.not_true, Bool.not_false, ne_eq, not_false_eq_true]; done) | ((with_reducible refine pkE ?_); with_unfolding_all rfl) | ((with_reducible refine cszE ?_); with_unfolding_all rfl) | ((with_reducible refine isQE ?_); with_unfolding_all rfl) | assumption | omega) only [Bool.false_eq_true, Bool.not_false, Bool.not_true, Int.reduceToNat, Int.toNat_natCast, List.map_cons, List.map_nil, List.map_toArray, Nat.add_zero, Nat.reduceEqDiff, Nat.zero_add, ablk_some, aoff_some, b_exit, b_exitN, b_normal, b_ret, e_alloc _ _ _ _ z113, e_alloc _ _ _ _ z30, e_alloc _ _ _ _ z94, e_ifF, e_ifT, e_make _ _ k166 ze166 se166 rfl (by decide) be166, e_stn _ _ i113 s113, e_stn _ _ i30 s30, e_stn _ _ i94 s94, ev_const, ev_tmp, fe_add, fe_eql, fe_fld _ o113_0, fe_fld _ o113_2, fe_fld _ o113_3, fe_fld _ o30_3, fe_fld _ o30_4, fe_fld _ o32_0, fe_fld _ o91_1, fe_fld _ o91_2, fe_fld _ o91_3, fe_fld _ o94_0, fe_fld _ o94_1, fe_fld _ o94_2, fe_ixo k23 ie23 se23, fe_ixo k27 ie27 se27, fe_ixo k28 ie28 se28, fe_ixo k56 ie56 se56, fe_ixo k57 ie57 se57, fe_ixo k76 ie76 se76, fe_ixo k89 ie89 se89, fe_len _ _ _ _ _ k27, fe_len _ _ _ _ _ k56, fe_lss, fe_neq, fe_not, fe_pick, fe_sub, fo_assign, fo_bin, fo_fieldAddr, fo_indexAddr, fo_len, fo_load, fo_move, fo_notV, fo_pick, init1, init2a, init2b, init3a, init3b, init3c, o_alloc, o_box, o_call _ _ _ _ _ _ _ c100, o_call _ _ _ _ _ _ _ c101, o_call _ _ _ _ _ _ _ c98, o_call _ _ _ _ _ _ _ c99, o_makeSlice, o_store, put_none, put_some, r_enter, r_skip, r_value, s_nil, s_none, s_someF, s_someT, t_exit, t_normal, t_ret, tn1, tn2, tn3, upd_app, wrapS, ↓reduceIte, in6a, in6b, in6c, in6d, in6e, in6f, G1, G2, G3, n0, nl2, nr3, qfs0, u0fs0, u1fs0, u2fs0, u3fs0, qfs00, qfs1, u0fs1, u1fs1, u2fs1, u3fs1, v03, v23, v33, ifs0, ifs1, hti, Nat.zero_add, Nat.add_zero, Nat.zero_mul, Nat.mul_one, Int.reduceToNat, List.map_cons, List.map_nil, cells1, cells2, cells3, cells4, cells5, d_loud, d_nil, d_quiet, d_someF, d_someT, e_ldH n27 hH, e_ldH n28 hH, e_ldH n3 hH, e_ldH n57 hH, e_ldH n76 hH, e_ldaH k113 i113 s113 hH, e_ldaH k30 i30 s30 hH, e_ldaH k94 i94 s94 hH, l_enter, l_skip, l_val, q_ld n27 hH, q_ld n28 hH, q_ld n3 hH, q_ld n57 hH, q_ld n76 hH, q_lda k113 i113 s113 hH, q_lda k30 i30 s30 hH, q_lda k94 i94 s94 hH, q_val hH] | refine eqAt_ok5 hH hFr (by first | assumption | exact eLC (by omega) | exact eRC (by omega) | exact eLfs0 (by omega) | exact eRfs0 (by omega) | exact eLfs1 (by omega) | exact eRfs1 (by omega)) (by first | assumption | exact eLC (by omega) | exact eRC (by omega) | exact eLfs0 (by omega) | exact eRfs0 (by omega) | exact eLfs1 (by omega) | exact eRfs1 (by omega)) _ (fun he w3 hH hFr => ⟨.inl hH, ?_⟩) (fun he w3 hH hFr => ⟨.inl hH, ?_⟩) | refine eqAt_ok5 hH hFr (by first | assumption | exact eLC (by omega) | exact eRC (by omega) | exact eLfs0 (by omega) | exact eRfs0 (by omega) | exact eLfs1 (by omega) | exact eRfs1 (by omega)) (by first | assumption | exact eLC (by omega) | exact eRC (by omega) | exact eLfs0 (by omega) | exact eRfs0 (by omega) | exact eLfs1 (by omega) | exact eRfs1 (by omega)) _ (fun he w3 hH hFr => ?_) (fun he w3 hH hFr => ?_) | refine isBot_ok5 hH hFr (by assumption) _ (fun he w3 hH hFr => ⟨.inl hH, ?_⟩) (fun he w3 hH hFr => ⟨.inl hH, ?_⟩) | refine isBot_ok5 hH hFr (by assumption) _ (fun he w3 hH hFr => ?_) (fun he w3 hH hFr => ?_) | refine eqAt_ok5 hH (hFr.no hw1) (by first | assumption | exact eLC (by omega) | exact eRC (by omega) | exact eLfs0 (by omega) | exact eRfs0 (by omega) | exact eLfs1 (by omega) | exact eRfs1 (by omega)) (by first | assumption | exact eLC (by omega) | exact eRC (by omega) | exact eLfs0 (by omega) | exact eRfs0 (by omega) | exact eLfs1 (by omega) | exact eRfs1 (by omega)) _ (fun he w3 hH hFr => ⟨.inl hH, ?_⟩) (fun he w3 hH hFr => ⟨.inl hH, ?_⟩) | refine eqAt_ok5 hH (hFr.no hw1) (by first | assumption | exact eLC (by omega) | exact eRC (by omega) | exact eLfs0 (by omega) | exact eRfs0 (by omega) | exact eLfs1 (by omega) | exact eRfs1 (by omega)) (by first | assumption | exact eLC (by omega) | exact eRC (by omega) | exact eLfs0 (by omega) | exact eRfs0 (by omega) | exact eLfs1 (by omega) | exact eRfs1 (by omega)) _ (fun he w3 hH hFr => ?_) (fun he w3 hH hFr => ?_) | refine isBot_ok5 hH (hFr.no hw1) (by assumption) _ (fun he w3 hH hFr => ⟨.inl hH, ?_⟩) (fun he w3 hH hFr => ⟨.inl hH, ?_⟩) | refine isBot_ok5 hH (hFr.no hw1) (by assumption) _ (fun he w3 hH hFr => ?_) (fun he w3 hH hFr => ?_) | refine lastOf_ok _ _ _ (by omega) _ _ ⟨.inl hH, ?_⟩ | refine lastOf_ok _ _ _ (by omega) _ _ ?_ | refine W_drawH3 hH (by kernel_rfl) (by kernel_rfl) (fun w1 hw1 hH => ?_) | (refine D_split rfl rfl (fun hc => ?_) (fun hc => ?_) <;> (try simp only [decide_eq_true_eq, decide_eq_false_iff_not, Bool.not_eq_true', Bool.not_eq_false', Int.not_lt, Int.not_le, Decidable.not_not] at hc) <;> (try contradiction) <;> (try (exfalso; omega))) | (refine W_cond rfl (fun hc => ?_) (fun hc => ?_) <;> (try simp only [decide_eq_true_eq, decide_eq_false_iff_not, Bool.not_eq_true', Bool.not_eq_false', Int.not_lt, Int.not_le, Decidable.not_not] at hc) <;> (try contradiction) <;> (try (exfalso; omega))) | (refine G_split rfl rfl (fun hc => ?_) (fun hc => ?_) <;> (try simp only [decide_eq_true_eq, decide_eq_false_iff_not, Bool.not_eq_true', Bool.not_eq_false', Int.not_lt, Int.not_le, Decidable.not_not] at hc) <;> (try contradiction) <;> (try (exfalso; omega))) | (with_reducible (refine hK _ _ ?_); clear hK K) | go_step)
  all_goals
    refine ret1 rfl ?_; simp (disch := first | (simp only [undef, want_some, upd_app, List.getElem?_cons_succ, List.getElem?_cons_zero, Option.join_some, e_bt, e_bf, Nat.reduceEqDiff, ↓reduceIte, Bool.not_true, Bool.not_false, ne_eq, not_false_eq_true]; done) | ((with_reducible refine pkE ?_); with_unfolding_all rfl) | ((with_reducible refine cszE ?_); with_unfolding_all rfl) | ((with_reducible refine isQE ?_); with_unfolding_all rfl) | assumption | omega) only [Bool.false_eq_true, Bool.not_false, Bool.not_true, Int.reduceToNat, Int.toNat_natCast, List.map_cons, List.map_nil, List.map_toArray, Nat.add_zero, Nat.reduceEqDiff, Nat.zero_add, ablk_some, aoff_some, b_exit, b_exitN, b_normal, b_ret, e_alloc _ _ _ _ z113, e_alloc _ _ _ _ z30, e_alloc _ _ _ _ z94, e_ifF, e_ifT, e_make _ _ k166 ze166 se166 rfl (by decide) be166, e_stn _ _ i113 s113, e_stn _ _ i30 s30, e_stn _ _ i94 s94, ev_const, ev_tmp, fe_add, fe_eql, fe_fld _ o113_0, fe_fld _ o113_2, fe_fld _ o113_3, fe_fld _ o30_3, fe_fld _ o30_4, fe_fld _ o32_0, fe_fld _ o91_1, fe_fld _ o91_2, fe_fld _ o91_3, fe_fld _ o94_0, fe_fld _ o94_1, fe_fld _ o94_2, fe_ixo k23 ie23 se23, fe_ixo k27 ie27 se27, fe_ixo k28 ie28 se28, fe_ixo k56 ie56 se56, fe_ixo k57 ie57 se57, fe_ixo k76 ie76 se76, fe_ixo k89 ie89 se89, fe_len _ _ _ _ _ k27, fe_len _ _ _ _ _ k56, fe_lss, fe_neq, fe_not, fe_pick, fe_sub, fo_assign, fo_bin, fo_fieldAddr, fo_indexAddr, fo_len, fo_load, fo_move, fo_notV, fo_pick, init1, init2a, init2b, init3a, init3b, init3c, o_alloc, o_box, o_call _ _ _ _ _ _ _ c100, o_call _ _ _ _ _ _ _ c101, o_call _ _ _ _ _ _ _ c98, o_call _ _ _ _ _ _ _ c99, o_makeSlice, o_store, put_none, put_some, r_enter, r_skip, r_value, s_nil, s_none, s_someF, s_someT, t_exit, t_normal, t_ret, tn1, tn2, tn3, upd_app, wrapS, ↓reduceIte]
    first
      | (refine h true _ ⟨fun _ => ?_, fun _ => rfl⟩ (by first | exact hFr | exact hFr.no hw1)
         rw [st9]
         (repeat' apply And.intro) <;> first | assumption | omega)
      | (refine h false _ ⟨fun e => (by cases e), fun e => ?_⟩ (by first | exact hFr | exact hFr.no hw1)
         rw [st9] at e
         obtain ⟨e0w, e1w, e2w⟩ := e
         first | exact absurd e0w (by assumption) | exact absurd e1w (by assumption) | exact absurd e2w (by assumption) | omega)
-- impl.stepFits
set_option maxHeartbeats 8000000 in
set_option maxRecDepth 20000 in
theorem stepFits12_ok {H : Heap} {w : World} (hH : HS H w) {fa ra sa aa ca pa ta : Option Addr} {fc rc k sc ac cc pn pc tn tc : Nat} {ln : Ln} {c : FT} {X K : Nat → FT} {U : Prop} (tC : FmH H fa ln.f.length c) (hrl : ln.rule = 12) (hk : 1 ≤ k) (hsA : IsA sa k) (haA : IsA aa k) (hcA : IsA ca k) (hfs0 : FsAt H sa 0 (X 0)) (R : Value → World → Prop)
    (h : ∀ (r : Bool) w', (r = true ↔ stepP 12 c X K U) → Fr noB w w' → R (.bool r) w') : CallsV Yaao.prog 88 #[.agg (lnC fa fc ra rc ln).toArray, .slice sa k sc, .slice aa k ac, .slice ca k cc, .slice pa pn pc, .slice ta tn tc] w R := by
  have hCA := tC.nd.sl.isA
  have hpos := tC.pos
  have hsm := tC.small
  have hti : ((ln.f.length : Int) - 1).toNat = ln.f.length - 1 := by omega
  refine ent88 (by simp) ?_
  repeat' (first | with_reducible refine VC_stop _ ?_ | refine W_seq (fun K hK => ?_) | refine W_block ?_ | refine W_skip ?_ | refine W_exit ?_ | refine W_ret ?_ | refine W_region ?_ | simp (disch := first | (simp only [undef, want_some, upd_app, List.getElem?_cons_succ, List.getElem?_cons_zero, Option.join_some, e_bt, e_bf, Nat.reduceEqDiff, ↓reduceIte, Bool.not_true, Bool.not_false, ne_eq, not_false_eq_true]; done) | ((with_reducible refine pkE ?_); with_unfolding_all rfl) | ((with_reducible refine cszE ?_); with_unfolding_all rfl) | ((with_reducible refine isQE ?_); with_unfolding_all rfl) | assumption | omega) only [Bool.false_eq_true, Bool.not_false, Bool.not_true, Int.reduceToNat, Int.toNat_natCast, List.map_cons, List.map_nil, List.map_toArray, Nat.add_zero, Nat.reduceEqDiff, Nat.zero_add, ablk_some, aoff_some, b_exit, b_exitN, b_normal, b_ret, e_alloc _ _ _ _ z113, e_alloc _ _ _ _ z30, e_alloc _ _ _ _ z94, e_ifF, e_ifT, e_make _ _ k166 ze166 se166 rfl (by decide) be166, e_stn _ _ i113 s113, e_stn _ _ i30 s30, e_stn _ _ i94 s94, ev_const, ev_tmp, fe_add, fe_eql, fe_fld _ o113_0, fe_fld _ o113_2, fe_fld _ o113_3, fe_fld _ o30_3, fe_fld _ o30_4, fe_fld _ o32_0, fe_fld _ o91_1, fe_fld _ o91_2, fe_fld _ o91_3, fe_fld _ o94_0, fe_fld _ o94_1, fe_fld _ o94_2, fe_ixo k23 ie23 se23, fe_ixo k27 ie27 se27, fe_ixo k28 ie28 se28, fe_ixo k56 ie56 se56, fe_ixo k57 ie57 se57, fe_ixo k76 ie76 se76, fe_ixo k89 ie89 se89, fe_len _ _ _ _ _ k27, fe_len _ _ _ _ _ k56, fe_lss, fe_neq, fe_not, fe_pick, fe_sub, fo_assign, fo_bin, fo_fieldAddr, fo_indexAddr, fo_len, fo_load, fo_move, fo_notV, fo_pick, init1, init2a, init2b, init3a, init3b, init3c, o_alloc, o_box, o_call _ _ _ _ _ _ _ c100, o_call _ _ _ _ _ _ _ c101, o_call _ _ _ _ _ _ _ c98, o_call _ _ _ _ _ _ _ c99, o_makeSlice, o_store, put_none, put_some, r_enter, r_skip, r_value, s_nil, s_none, s_someF, s_someT, t_exit, t_normal, t_ret, tn1, tn2, tn3, upd_app, wrapS, ↓reduceIte, in6a] | (refine W_cond rfl (fun hc => ?_) (fun hc => ?_) <;> (try simp only [decide_eq_true_eq, decide_eq_false_iff_not, Bool.not_eq_true', Bool.not_eq_false', Int.not_lt, Int.not_le, Decidable.not_not] at hc) <;> (try contradiction) <;> (try (exfalso; omega))) | (refine G_split rfl rfl (fun hc => ?_) (fun hc => ?_) <;> (try simp only [decide_eq_true_eq, decide_eq_false_iff_not, Bool.not_eq_true', Bool.not_eq_false', Int.not_lt, Int.not_le, Decidable.not_not] at hc) <;> (try contradiction) <;> (try (exfalso; omega))) | (with_reducible (refine hK _ _ ?_); clear hK K) | go_step)
  refine ⟨?_⟩
  rw [show (Value.agg (lnC fa fc ra rc ln).toArray).cells = (lnC fa fc ra rc ln).toArray from rfl]
  refine VC_keep hH (fun w1 H1 l1 hH1 k1 f1 _ => ?_)
  obtain ⟨ba, hba⟩ : ∃ ba, ba = w.heap.size := ⟨_, rfl⟩
  rw [← hba] at k1 ⊢
  have g1 : H1 ba 1 = some (.slice fa ln.f.length fc) := k1 1
  have g2 : H1 ba 2 = some (.int .i64 ln.rule) := k1 2
  have g3 : H1 ba 3 = some (.slice ra ln.refs.length rc) := k1 3
  rw [hrl] at g2
  have tC1 := tC.mono l1
  obtain ⟨lC, rC, p0, p1, p2, p3, _, _⟩ := tC1.cells
  repeat' (first | with_reducible refine VC_stop _ ?_ | refine W_seq (fun K hK => ?_) | refine W_block ?_ | refine W_skip ?_ | refine W_exit ?_ | refine W_ret ?_ | refine W_region ?_ | simp (disch := first | (simp only [undef, want_some, upd_app, List.getElem?_cons_succ, List.getElem?_cons_zero, Option.join_some, e_bt, e_bf, Nat.reduceEqDiff, ↓reduceIte, Bool.not_true, Bool.not_false, ne_eq, not_false_eq_true]; done) | ((with_reducible refine pkE ?_); with_unfolding_all rfl) | ((with_reducible refine cszE ?_); with_unfolding_all rfl) | ((with_reducible refine isQE ?_); with_unfolding_all rfl) | assumption | omega) only [Bool.false_eq_true, Bool.not_false, Bool.not_true, Int.reduceToNat, Int.toNat_natCast, List.map_cons, List.map_nil, List.map_toArray, Nat.add_zero, Nat.reduceEqDiff, Nat.zero_add, ablk_some, aoff_some, b_exit, b_exitN, b_normal, b_ret, e_alloc _ _ _ _ z113, e_alloc _ _ _ _ z30, e_alloc _ _ _ _ z94, e_ifF, e_ifT, e_make _ _ k166 ze166 se166 rfl (by decide) be166, e_stn _ _ i113 s113, e_stn _ _ i30 s30, e_stn _ _ i94 s94, ev_const, ev_tmp, fe_add, fe_eql, fe_fld _ o113_0, fe_fld _ o113_2, fe_fld _ o113_3, fe_fld _ o30_3, fe_fld _ o30_4, fe_fld _ o32_0, fe_fld _ o91_1, fe_fld _ o91_2, fe_fld _ o91_3, fe_fld _ o94_0, fe_fld _ o94_1, fe_fld _ o94_2, fe_ixo k23 ie23 se23, fe_ixo k27 ie27 se27, fe_ixo k28 ie28 se28, fe_ixo k56 ie56 se56, fe_ixo k57 ie57 se57, fe_ixo k76 ie76 se76, fe_ixo k89 ie89 se89, fe_len _ _ _ _ _ k27, fe_len _ _ _ _ _ k56, fe_lss, fe_neq, fe_not, fe_pick, fe_sub, fo_assign, fo_bin, fo_fieldAddr, fo_indexAddr, fo_len, fo_load, fo_move, fo_notV, fo_pick, init1, init2a, init2b, init3a, init3b, init3c, o_alloc, o_box, o_call _ _ _ _ _ _ _ c100, o_call _ _ _ _ _ _ _ c101, o_call _ _ _ _ _ _ _ c98, o_call _ _ _ _ _ _ _ c99, o_makeSlice, o_store, put_none, put_some, r_enter, r_skip, r_value, s_nil, s_none, s_someF, s_someT, t_exit, t_normal, t_ret, tn1, tn2, tn3, upd_app, wrapS, ↓reduceIte, in6a, in6b, in6c, in6d, in6e, in6f, g1, g2, g3, p0, p1, p2, p3, hti, Nat.zero_add, List.map_cons, List.map_nil, cells1, cells2, cells3, cells4, cells5, d_loud, d_nil, d_quiet, d_someF, d_someT, e_ldH n27 hH1, e_ldH n28 hH1, e_ldH n3 hH1, e_ldH n57 hH1, e_ldH n76 hH1, e_ldaH k113 i113 s113 hH1, e_ldaH k30 i30 s30 hH1, e_ldaH k94 i94 s94 hH1, l_enter, l_skip, l_val, q_ld n27 hH1, q_ld n28 hH1, q_ld n3 hH1, q_ld n57 hH1, q_ld n76 hH1, q_lda k113 i113 s113 hH1, q_lda k30 i30 s30 hH1, q_lda k94 i94 s94 hH1, q_val hH1] | refine lastOf_ok _ _ _ (by omega) _ _ ?_ | refine W_drawH hH1 (by kernel_rfl) (by kernel_rfl) (fun w1 hw1 hH1 => ?_) | (refine D_split rfl rfl (fun hc => ?_) (fun hc => ?_) <;> (try simp only [decide_eq_true_eq, decide_eq_false_iff_not, Bool.not_eq_true', Bool.not_eq_false', Int.not_lt, Int.not_le, Decidable.not_not] at hc) <;> (try contradiction) <;> (try (exfalso; omega))) | (refine W_cond rfl (fun hc => ?_) (fun hc => ?_) <;> (try simp only [decide_eq_true_eq, decide_eq_false_iff_not, Bool.not_eq_true', Bool.not_eq_false', Int.not_lt, Int.not_le, Decidable.not_not] at hc) <;> (try contradiction) <;> (try (exfalso; omega))) | (refine G_split rfl rfl (fun hc => ?_) (fun hc => ?_) <;> (try simp only [decide_eq_true_eq, decide_eq_false_iff_not, Bool.not_eq_true', Bool.not_eq_false', Int.not_lt, Int.not_le, Decidable.not_not] at hc) <;> (try contradiction) <;> (try (exfalso; omega))) | (with_reducible (refine hK _ _ ?_); clear hK K) | go_step)
  refine ⟨VC_keep hH1 (fun w2 H2 l2 hH2 k2 f2 _ => ?_)⟩
  obtain ⟨bc, hbc⟩ : ∃ bc, bc = w1.heap.size := ⟨_, rfl⟩
  rw [← hbc] at k2 ⊢
  have n0 : H2 bc 0 = some (.int .i64 (topO c)) := k2 0
  have nl2 : H2 bc 2 = some (.int .i64 lC) := k2 2
  have nr3 : H2 bc 3 = some (.int .i64 rC) := k2 3
  have G1 := l2 _ _ _ g1
  have G2 := l2 _ _ _ g2
  have G3 := l2 _ _ _ g3
  have L2 := l1.trans l2
  have tC2 := tC.mono L2
  have rootC := tC2.root
  obtain ⟨lC', rC', m0, m1, m2, m3, eLC, eRC⟩ := tC2.cells
  obtain rfl : lC' = lC := by have := (l2 _ _ _ p2).symm.trans m2; simpa using this.symm
  obtain rfl : rC' = rC := by have := (l2 _ _ _ p3).symm.trans m3; simpa using this.symm
  have hFr := f1.no f2
  have hH := hH2
  clear hH1 hH2 k1 k2 f1 f2
  obtain ⟨afs0, mfs0, dfs0, qfs0, tfs0⟩ := (hfs0.mono L2).ex
  have rfs0 := tfs0.root
  have sfs0 := tfs0.small
  have ofs0 := tfs0.pos
  have Afs0 := tfs0.nd.sl.isA
  have ifs0 : ((mfs0 : Int) - 1).toNat = mfs0 - 1 := by omega
  obtain ⟨lxfs0, rxfs0, u0fs0, u1fs0, u2fs0, u3fs0, eLfs0, eRfs0⟩ := tfs0.cells
  have qfs00 : H2 (ablk sa) (aoff sa) = some (.slice afs0 mfs0 dfs0) := by simpa using qfs0
  repeat' (first | refine W_seq (fun K hK => ?_) | refine W_block ?_ | refine W_skip ?_ | refine W_exit ?_ | refine W_ret ?_ | refine W_region ?_ | simp (disch := first | (simp only [undef, want_some, upd_app, List.getElem?_cons_succ, List.getElem?_cons_zero, Option.join_some, e_bt, e_bf, Nat.reduceEqDiff, ↓reduceIte, Bool.not_true, Bool.not_false, ne_eq, not_false_eq_true]; done) | ((with_reducible refine pkE ?_); with_unfolding_all rfl) | ((with_reducible refine cszE ?_); with_unfolding_all rfl) | ((with_reducible refine isQE ?_); with_unfolding_all rfl) | assumption | omega) only [Bool.false_eq_true, Bool.not_false, Bool.not_true, Int.reduceToNat, Int.toNat_natCast, List.map_cons, List.map_nil, List.map_toArray, Nat.add_zero, Nat.reduceEqDiff, Nat.zero_add, ablk_some, aoff_some, b_exit, b_exitN, b_normal, b_ret, e_alloc _ _ _ _ z113, e_alloc _ _ _ _ z30, e_alloc _ _ _ _ z94, e_ifF, e_ifT, e_make _ _ k166 ze166 se166 rfl (by decide) be166, e_stn _ _ i113 s113, e_stn _ _ i30 s30, e_stn _ _ i94 s94, ev_const, ev_tmp, fe_add, fe_eql, fe_fld _ o113_0, fe_fld _ o113_2, fe_fld _ o113_3, fe_fld _ o30_3, fe_fld _ o30_4, fe_fld _ o32_0, fe_fld _ o91_1, fe_fld _ o91_2, fe_fld _ o91_3, fe_fld _ o94_0, fe_fld _ o94_1, fe_fld _ o94_2, fe_ixo k23 ie23 se23, fe_ixo k27 ie27 se27, fe_ixo k28 ie28 se28, fe_ixo k56 ie56 se56, fe_ixo k57 ie57 se57, fe_ixo k76 ie76 se76, fe_ixo k89 ie89 se89, fe_len _ _ _ _ _ k27, fe_len _ _ _ _ _ k56, fe_lss, fe_neq, fe_not, fe_pick, fe_sub, fo_assign, fo_bin, fo_fieldAddr, fo_indexAddr, fo_len, fo_load, fo_move, fo_notV, fo_pick, init1, init2a, init2b, init3a, init3b, init3c, o_alloc, o_box, o_call _ _ _ _ _ _ _ c100, o_call _ _ _ _ _ _ _ c101, o_call _ _ _ _ _ _ _ c98, o_call _ _ _ _ _ _ _ c99, o_makeSlice, o_store, put_none, put_some, r_enter, r_skip, r_value, s_nil, s_none, s_someF, s_someT, t_exit, t_normal, t_ret, tn1, tn2, tn3, upd_app, wrapS, ↓reduceIte, in6a, in6b, in6c, in6d, in6e, in6f, G1, G2, G3, n0, nl2, nr3, qfs0, u0fs0, u1fs0, u2fs0, u3fs0, qfs00, ifs0, hti, Nat.zero_add, Nat.add_zero, Nat.zero_mul, Nat.mul_one, Int.reduceToNat, List.map_cons, List.map_nil, cells1, cells2, cells3, cells4, cells5, d_loud, d_nil, d_quiet, d_someF, d_someT, e_ldH n27 hH, e_ldH n28 hH, e_ldH n3 hH, e_ldH n57 hH, e_ldH n76 hH, e_ldaH k113 i113 s113 hH, e_ldaH k30 i30 s30 hH, e_ldaH k94 i94 s94 hH, l_enter, l_skip, l_val, q_ld n27 hH, q_ld n28 hH, q_ld n3 hH, q_ld n57 hH, q_ld n76 hH, q_lda k113 i113 s113 hH, q_lda k30 i30 s30 hH, q_lda k94 i94 s94 hH, q_val hH] | refine eqAt_ok5 hH hFr (by first | assumption | exact eLC (by omega) | exact eRC (by omega) | exact eLfs0 (by omega) | exact eRfs0 (by omega)) (by first | assumption | exact eLC (by omega) | exact eRC (by omega) | exact eLfs0 (by omega) | exact eRfs0 (by omega)) _ (fun he w3 hH hFr => ⟨.inl hH, ?_⟩) (fun he w3 hH hFr => ⟨.inl hH, ?_⟩) | refine eqAt_ok5 hH hFr (by first | assumption | exact eLC (by omega) | exact eRC (by omega) | exact eLfs0 (by omega) | exact eRfs0 (by omega)) (by first | assumption | exact eLC (by omega) | exact eRC (by omega) | exact eLfs0 (by omega) | exact eRfs0 (by omega)) _ (fun he w3 hH hFr => ?_) (fun he w3 hH hFr => ?_) | refine isBot_ok5 hH hFr (by assumption) _ (fun he w3 hH hFr => ⟨.inl hH, ?_⟩) (fun he w3 hH hFr => ⟨.inl hH, ?_⟩) | refine isBot_ok5 hH hFr (by assumption) _ (fun he w3 hH hFr => ?_) (fun he w3 hH hFr => ?_) | refine eqAt_ok5 hH (hFr.no hw1) (by first | assumption | exact eLC (by omega) | exact eRC (by omega) | exact eLfs0 (by omega) | exact eRfs0 (by omega)) (by first | assumption | exact eLC (by omega) | exact eRC (by omega) | exact eLfs0 (by omega) | exact eRfs0 (by omega)) _ (fun he w3 hH hFr => ⟨.inl hH, ?_⟩) (fun he w3 hH hFr => ⟨.inl hH, ?_⟩) | refine eqAt_ok5 hH (hFr.no hw1) (by first | assumption | exact eLC (by omega) | exact eRC (by omega) | exact eLfs0 (by omega) | exact eRfs0 (by omega)) (by first | assumption | exact eLC (by omega) | exact eRC (by omega) | exact eLfs0 (by omega) | exact eRfs0 (by omega)) _ (fun he w3 hH hFr => ?_) (fun he w3 hH hFr => ?_) | refine isBot_ok5 hH (hFr.no hw1) (by assumption) _ (fun he w3 hH hFr => ⟨.inl hH, ?_⟩) (fun he w3 hH hFr => ⟨.inl hH, ?_⟩) | refine isBot_ok5 hH (hFr.no hw1) (by assumption) _ (fun he w3 hH hFr => ?_) (fun he w3 hH hFr => ?_) | refine lastOf_ok _ _ _ (by omega) _ _ ⟨.inl hH, ?_⟩ | refine lastOf_ok _ _ _ (by omega) _ _ ?_ | refine W_drawH3 hH (by kernel_rfl) (by kernel_rfl) (fun w1 hw1 hH => ?_) | (refine D_split rfl rfl (fun hc => ?_) (fun hc => ?_) <;> (try simp only [decide_eq_true_eq, decide_eq_false_iff_not, Bool.not_eq_true', Bool.not_eq_false', Int.not_lt, Int.not_le, Decidable.not_not] at hc) <;> (try contradiction) <;> (try (exfalso; omega))) | (refine W_cond rfl (fun hc => ?_) (fun hc => ?_) <;> (try simp only [decide_eq_true_eq, decide_eq_false_iff_not, Bool.not_eq_true', Bool.not_eq_false', Int.not_lt, Int.not_le, Decidable.not_not] at hc) <;> (try contradiction) <;> (try (exfalso; omega))) | (refine G_split rfl rfl (fun hc => ?_) (fun hc => ?_) <;> (try simp only [decide_eq_true_eq, decide_eq_false_iff_not, Bool.not_eq_true', Bool.not_eq_false', Int.not_lt, Int.not_le, Decidable.not_not] at hc) <;> (try contradiction) <;> (try (exfalso; omega))) | (with_reducible (refine hK _ _ ?_); clear hK K) | go_step)
  all_goals
    refine ret1 rfl ?_; simp (disch := first | (simp only [undef, want_some, upd_app, List.getElem?_cons_succ, List.getElem?_cons_zero, Option.join_some, e_bt, e_bf, Nat.reduceEqDiff, ↓reduceIte, Bool.not_true, Bool.not_false, ne_eq, not_false_eq_true]; done) | ((with_reducible refine pkE ?_); with_unfolding_all rfl) | ((with_reducible refine cszE ?_); with_unfolding_all rfl) | ((with_reducible refine isQE ?_); with_unfolding_all rfl) | assumption | omega) only [Bool.false_eq_true, Bool.not_false, Bool.not_true, Int.reduceToNat, Int.toNat_natCast, List.map_cons, List.map_nil, List.map_toArray, Nat.add_zero, Nat.reduceEqDiff, Nat.zero_add, ablk_some, aoff_some, b_exit, b_exitN, b_normal, b_ret, e_alloc _ _ _ _ z113, e_alloc _ _ _ _ z30, e_alloc _ _ _ _ z94, e_ifF, e_ifT, e_make _ _ k166 ze166 se166 rfl (by decide) be166, e_stn _ _ i113 s113, e_stn _ _ i30 s30, e_stn _ _ i94 s94, ev_const, ev_tmp, fe_add, fe_eql, fe_fld _ o113_0, fe_fld _ o113_2, fe_fld _ o113_3, fe_fld _ o30_3, fe_fld _ o30_4, fe_fld _ o32_0, fe_fld _ o91_1, fe_fld _ o91_2, fe_fld _ o91_3, fe_fld _ o94_0, fe_fld _ o94_1, fe_fld _ o94_2, fe_ixo k23 ie23 se23, fe_ixo k27 ie27 se27, fe_ixo k28 ie28 se28, fe_ixo k56 ie56 se56, fe_ixo k57 ie57 se57, fe_ixo k76 ie76 se76, fe_ixo k89 ie89 se89, fe_len _ _ _ _ _ k27, fe_len _ _ _ _ _ k56, fe_lss, fe_neq, fe_not, fe_pick, fe_sub, fo_assign, fo_bin, fo_fieldAddr, fo_indexAddr, fo_len, fo_load, fo_move, fo_notV, fo_pick, init1, init2a, init2b, init3a, init3b, init3c, o_alloc, o_box, o_call _ _ _ _ _ _ _ c100, o_call _ _ _ _ _ _ _ c101, o_call _ _ _ _ _ _ _ c98, o_call _ _ _ _ _ _ _ c99, o_makeSlice, o_store, put_none, put_some, r_enter, r_skip, r_value, s_nil, s_none, s_someF, s_someT, t_exit, t_normal, t_ret, tn1, tn2, tn3, upd_app, wrapS, ↓reduceIte]
    first
      | (refine h true _ ⟨fun _ => ?_, fun _ => rfl⟩ (by first | exact hFr | exact hFr.no hw1)
         rw [st12]
         (repeat' apply And.intro) <;> first | assumption | omega)
      | (refine h false _ ⟨fun e => (by cases e), fun e => ?_⟩ (by first | exact hFr | exact hFr.no hw1)
         rw [st12] at e
         have e0w := e
         first | exact absurd e0w (by assumption) | omega)
end Go.Proofs.YbzaawGreat
