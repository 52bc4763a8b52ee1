/-  spec: numbered lines and boxes; lines and boxes referred to.  -/
import Derived.Test.YbzaawGreatSJA
import Derived.Test.YbzaawGreatJudgeN
namespace Go.Proofs.YbzaawGreat
open Go.Wf Go.Deep
set_option linter.unusedSimpArgs false
set_option linter.unusedVariables false

/-- The slice reads, in H, as these numbered lines. -/
structure NrH (H : Heap) (a : Option Addr) (n : Nat) (xs : List NumA) : Prop where
  len : n = xs.length
  sl : SlH H 3 a n (encNums xs)
  f : ∀ x ∈ xs, FmH H x.fa x.n.f.length (trOf x.n.f)
  nm : ∀ x ∈ xs, NmOk (trOf x.n.f)
section
variable {H : Heap} {a : Option Addr} {n : Nat} {xs : List NumA}
theorem NrH.mono {H' : Heap} (h : NrH H a n xs) (hl : HLe H H') : NrH H' a n xs := ⟨h.len, h.sl.mono hl, fun x hx => (h.f x hx).mono hl, h.nm⟩
theorem NrH.at_ (h : NrH H a n xs) (i j : Nat) (hi : i < n) (v : Value) (hj : j < 3) (hv : (xs.getD i na0).enc[j]? = some v) : H (ablk a) (aoff a + i * 3 + j) = some v := by
  rw [Nat.add_assoc]
  refine h.sl.cell _ _ ?_
  have hi' : i < xs.length := by rw [← h.len]; exact hi
  have := flat_get NumA.enc 3 xs i j xs[i] (fun _ => rfl) (List.getElem?_eq_getElem hi') hj
  show (xs.flatMap NumA.enc)[i * 3 + j]? = _
  rw [this]
  rw [show xs.getD i na0 = xs[i] by simp [hi']] at hv
  exact hv
theorem NrH.c0 (h : NrH H a n xs) (r : Nat) (hr : r < n) : H (ablk a) (aoff a + r * 3) = some (.slice (xs.getD r na0).fa (xs.getD r na0).n.f.length (xs.getD r na0).fc) := h.at_ r 0 hr _ (by omega) rfl
theorem NrH.c1 (h : NrH H a n xs) (r : Nat) (hr : r < n) : H (ablk a) (aoff a + r * 3 + 1) = some (.int .i64 (xs.getD r na0).n.kind) := h.at_ r 1 hr _ (by omega) rfl
theorem NrH.c2 (h : NrH H a n xs) (r : Nat) (hr : r < n) : H (ablk a) (aoff a + r * 3 + 2) = some (.int .i64 (xs.getD r na0).n.box) := h.at_ r 2 hr _ (by omega) rfl
theorem NrH.fI (h : NrH H a n xs) (i : Nat) (hi : i < xs.length) : FmH H (xs.getD i na0).fa (xs.getD i na0).n.f.length (trOf (xs.getD i na0).n.f) ∧ NmOk (trOf (xs.getD i na0).n.f) := by
  have hm : xs.getD i na0 ∈ xs := by rw [show xs.getD i na0 = xs[i] by simp [hi]]; exact List.getElem_mem _
  exact ⟨h.f _ hm, h.nm _ hm⟩
end
def brE (b : Bx) : List Value := [.int .i64 b.parent, .bool b.opn]
def encBr (bs : List Bx) : List Value := bs.flatMap brE
theorem encBr_snoc (l : List Bx) (t : Bx) : encBr (l ++ [t]) = encBr l ++ brE t := by simp [encBr]
theorem encBr_length (l : List Bx) : (encBr l).length = l.length * 2 := by
  unfold encBr
  induction l with
  | nil => rfl
  | cons t r ih => simp only [List.flatMap_cons, List.length_append, ih, List.length_cons]; simp [brE]; omega
structure BrH (H : Heap) (a : Option Addr) (n : Nat) (bs : List Bx) : Prop where
  len : n = bs.length
  sl : SlH H 2 a n (encBr bs)
section
variable {H : Heap} {a : Option Addr} {n : Nat} {bs : List Bx}
theorem BrH.mono {H' : Heap} (h : BrH H a n bs) (hl : HLe H H') : BrH H' a n bs := ⟨h.len, h.sl.mono hl⟩
theorem BrH.at_ (h : BrH H a n bs) (i j : Nat) (hi : i < n) (v : Value) (hj : j < 2) (hv : (brE (bs.getD i bx0))[j]? = some v) : H (ablk a) (aoff a + i * 2 + j) = some v := by
  rw [Nat.add_assoc]
  refine h.sl.cell _ _ ?_
  have hi' : i < bs.length := by rw [← h.len]; exact hi
  have := flat_get brE 2 bs i j bs[i] (fun _ => rfl) (List.getElem?_eq_getElem hi') hj
  show (bs.flatMap brE)[i * 2 + j]? = _
  rw [this]
  rw [show bs.getD i bx0 = bs[i] by simp [hi']] at hv
  exact hv
theorem BrH.c0 (h : BrH H a n bs) (i : Nat) (hi : i < n) : H (ablk a) (aoff a + i * 2) = some (.int .i64 (bs.getD i bx0).parent) := h.at_ i 0 hi _ (by omega) rfl
theorem BrH.c1 (h : BrH H a n bs) (i : Nat) (hi : i < n) : H (ablk a) (aoff a + i * 2 + 1) = some (.bool (bs.getD i bx0).opn) := h.at_ i 1 hi _ (by omega) rfl
end
def lvP (st : JS) (r : Int) : Prop := 1 ≤ r ∧ r ≤ st.nums.length ∧ st.isOpen (st.num r).box
def bvP (st : JS) (r : Int) : Prop := 1 ≤ r ∧ r ≤ st.nums.length ∧ (st.num r).kind = 3 ∧ (st.bx (st.num r).box).opn = false ∧ st.isOpen (st.bx (st.num r).box).parent
theorem refOK_lv {st : JS} {rule i r : Int} (h : boxPos rule i ≠ true) : refOK st rule i r ↔ lvP st r := by unfold refOK lvP; rw [if_neg h]
theorem refOK_bv {st : JS} {rule i r : Int} (h : boxPos rule i = true) : refOK st rule i r ↔ bvP st r := by unfold refOK bvP; rw [if_pos h]
theorem jst_num0 {st : JS} {xs : List NumA} (hxs : st.nums = xs.map NumA.n) (r : Int) : st.num r = (xs.getD (r.toNat - 1) na0).n := by
  unfold JS.num; rw [hxs]; exact getD_map0 NumA.n na0 xs _
-- spec.lineValid
set_option maxRecDepth 20000 in
theorem lineValid_ok {H : Heap} {w : World} (hH : HS H w) {na ba : Option Addr} {nn nc bn bc : Nat} {st : JS} {xs : List NumA} (hxs : st.nums = xs.map NumA.n) (tN : NrH H na nn xs) (tB : BrH H ba bn st.boxes) (jo : JOk st) (hnn : nn ≤ 1048576) (k nz : Int) (hnz : nz = nn + 1) (R : Value → World → Prop)
    (h : ∀ r : Bool, (r = true ↔ lvP st k) → R (.bool r) w) : CallsV Yaao.prog 92 #[.int .i64 k, .int .i64 nz, .slice na nn nc, .slice ba bn bc] w R := by
  have hAN := tN.sl.isA
  have hAB := tB.sl.isA
  have hlN := tN.len
  have hlB := tB.len
  have hnx : st.nums.length = xs.length := by rw [hxs]; simp
  refine ent92 (by simp) ?_
  by_cases hk : 1 ≤ k ∧ k ≤ nn
  · obtain ⟨m, rfl⟩ : ∃ m : Nat, k = ((m + 1 : Nat) : Int) := ⟨k.toNat - 1, by omega⟩
    have cB := tN.c2 m (by omega)
    have hj := jo.boxI m (by omega)
    have hnum : st.nums.getD m num0 = (xs.getD m na0).n := by rw [hxs]; exact getD_map0 NumA.n na0 xs m
    have hnum1 : st.num ((m + 1 : Nat) : Int) = (xs.getD m na0).n := by rw [jst_num0 hxs, Int.toNat_natCast, Nat.add_sub_cancel]
    rw [hnum] at hj
    obtain ⟨x, hx⟩ : ∃ x, x = (xs.getD m na0).n := ⟨_, rfl⟩
    rw [← hx] at cB hj hnum1
    have hbo : 0 ≤ x.box → H (ablk ba) (aoff ba + x.box.toNat * 2 + 1) = some (.bool (st.boxes.getD x.box.toNat bx0).opn) := fun e => tB.c1 _ (by omega)
    have hP : lvP st ((m + 1 : Nat) : Int) ↔ (x.box < 0 ∨ (st.boxes.getD x.box.toNat bx0).opn = true) := by
      unfold lvP JS.isOpen JS.bx
      rw [hnum1]
      exact ⟨fun e => e.2.2, fun e => ⟨by omega, by omega, e⟩⟩
    have hix : (((m + 1 : Nat) : Int) - 1).toNat = m := by omega
    repeat' (first | refine W_seq (fun K hK => ?_) | refine W_block ?_ | refine W_skip ?_ | refine W_exit ?_ | refine W_ret ?_ | refine W_region ?_ | simp (disch := first | (simp only [undef, want_some, upd_app, List.getElem?_cons_succ, List.getElem?_cons_zero, Option.join_some, e_bt, e_bf, Nat.reduceEqDiff, ↓reduceIte, Bool.not_true, Bool.not_false, ne_eq, not_false_eq_true]; done) | ((with_reducible refine pkE ?_); with_unfolding_all rfl) | ((with_reducible refine cszE ?_); with_unfolding_all rfl) | ((with_reducible refine isQE ?_); with_unfolding_all rfl) | assumption | omega) only [Bool.false_eq_true, Bool.not_false, Bool.not_true, Int.reduceToNat, Int.toNat_natCast, List.map_cons, List.map_nil, Nat.add_zero, Nat.reduceEqDiff, Nat.zero_add, ablk_some, aoff_some, b_exit, b_exitN, b_normal, b_ret, e_ifF, e_ifT, ev_const, ev_tmp, fe_fld _ o145_2, fe_fld _ o147_1, fe_gtr, fe_ixo k142 ie142 se142, fe_ixo k143 ie143 se143, fe_lss, fe_pick, fe_sub, fo_assign, fo_bin, fo_fieldAddr, fo_indexAddr, fo_load, fo_move, fo_pick, init1, init2a, init2b, init3a, init3b, init3c, put_some, r_value, s_nil, s_none, s_someF, s_someT, t_exit, t_normal, t_ret, tn1, tn2, tn3, upd_app, wrapS, ↓reduceIte, in4a, in4b, in4c, in4d, cB, hbo, hix, Nat.zero_add, Nat.add_zero, Int.toNat_natCast, List.map_cons, List.map_nil, d_loud, d_nil, d_quiet, d_someF, d_someT, e_ldH n3 hH, e_ldH n4 hH, l_enter, l_skip, l_val, q_ld n3 hH, q_ld n4 hH, q_val hH] | refine W_drawH hH (by kernel_rfl) (by kernel_rfl) (fun w1 hw1 hH => ?_) | (refine D_split rfl rfl (fun hc => ?_) (fun hc => ?_) <;> (try simp only [decide_eq_true_eq, decide_eq_false_iff_not, Bool.not_eq_true', Bool.not_eq_false', Int.not_lt, Int.not_le, Decidable.not_not] at hc) <;> (try contradiction) <;> (try (exfalso; omega))) | (refine W_cond rfl (fun hc => ?_) (fun hc => ?_) <;> (try simp only [decide_eq_true_eq, decide_eq_false_iff_not, Bool.not_eq_true', Bool.not_eq_false', Int.not_lt, Int.not_le, Decidable.not_not] at hc) <;> (try contradiction) <;> (try (exfalso; omega))) | (refine G_split rfl rfl (fun hc => ?_) (fun hc => ?_) <;> (try simp only [decide_eq_true_eq, decide_eq_false_iff_not, Bool.not_eq_true', Bool.not_eq_false', Int.not_lt, Int.not_le, Decidable.not_not] at hc) <;> (try contradiction) <;> (try (exfalso; omega))) | (with_reducible (refine hK _ _ ?_); clear hK K) | go_step)
    all_goals
      refine ret1 rfl ?_; simp (disch := first | (simp only [undef, want_some, upd_app, List.getElem?_cons_succ, List.getElem?_cons_zero, Option.join_some, e_bt, e_bf, Nat.reduceEqDiff, ↓reduceIte, Bool.not_true, Bool.not_false, ne_eq, not_false_eq_true]; done) | ((with_reducible refine pkE ?_); with_unfolding_all rfl) | ((with_reducible refine cszE ?_); with_unfolding_all rfl) | ((with_reducible refine isQE ?_); with_unfolding_all rfl) | assumption | omega) only [Bool.false_eq_true, Bool.not_false, Bool.not_true, Int.reduceToNat, Int.toNat_natCast, List.map_cons, List.map_nil, Nat.add_zero, Nat.reduceEqDiff, Nat.zero_add, ablk_some, aoff_some, b_exit, b_exitN, b_normal, b_ret, e_ifF, e_ifT, ev_const, ev_tmp, fe_fld _ o145_2, fe_fld _ o147_1, fe_gtr, fe_ixo k142 ie142 se142, fe_ixo k143 ie143 se143, fe_lss, fe_pick, fe_sub, fo_assign, fo_bin, fo_fieldAddr, fo_indexAddr, fo_load, fo_move, fo_pick, init1, init2a, init2b, init3a, init3b, init3c, put_some, r_value, s_nil, s_none, s_someF, s_someT, t_exit, t_normal, t_ret, tn1, tn2, tn3, upd_app, wrapS, ↓reduceIte]
      first
        | exact h _ (by rw [hP]; exact ⟨fun e => .inr (by simpa using e), fun e => e.elim (fun e => by omega) (fun e => by simpa using e)⟩)
        | exact h _ (by rw [hP]; exact ⟨fun _ => .inl (by omega), fun _ => by simp⟩)
  · have hP : ¬ lvP st k := fun e => hk ⟨e.1, by have := e.2.1; omega⟩
    repeat' (first | refine W_seq (fun K hK => ?_) | refine W_block ?_ | refine W_skip ?_ | refine W_exit ?_ | refine W_ret ?_ | refine W_region ?_ | simp (disch := first | (simp only [undef, want_some, upd_app, List.getElem?_cons_succ, List.getElem?_cons_zero, Option.join_some, e_bt, e_bf, Nat.reduceEqDiff, ↓reduceIte, Bool.not_true, Bool.not_false, ne_eq, not_false_eq_true]; done) | ((with_reducible refine pkE ?_); with_unfolding_all rfl) | ((with_reducible refine cszE ?_); with_unfolding_all rfl) | ((with_reducible refine isQE ?_); with_unfolding_all rfl) | assumption | omega) only [Bool.false_eq_true, Bool.not_false, Bool.not_true, Int.reduceToNat, Int.toNat_natCast, List.map_cons, List.map_nil, Nat.add_zero, Nat.reduceEqDiff, Nat.zero_add, ablk_some, aoff_some, b_exit, b_exitN, b_normal, b_ret, e_ifF, e_ifT, ev_const, ev_tmp, fe_fld _ o145_2, fe_fld _ o147_1, fe_gtr, fe_ixo k142 ie142 se142, fe_ixo k143 ie143 se143, fe_lss, fe_pick, fe_sub, fo_assign, fo_bin, fo_fieldAddr, fo_indexAddr, fo_load, fo_move, fo_pick, init1, init2a, init2b, init3a, init3b, init3c, put_some, r_value, s_nil, s_none, s_someF, s_someT, t_exit, t_normal, t_ret, tn1, tn2, tn3, upd_app, wrapS, ↓reduceIte, in4a, in4b, in4c, in4d, Nat.zero_add, Nat.add_zero, Int.toNat_natCast, List.map_cons, List.map_nil, d_loud, d_nil, d_quiet, d_someF, d_someT, e_ldH n3 hH, e_ldH n4 hH, l_enter, l_skip, l_val, q_ld n3 hH, q_ld n4 hH, q_val hH] | refine W_drawH hH (by kernel_rfl) (by kernel_rfl) (fun w1 hw1 hH => ?_) | (refine D_split rfl rfl (fun hc => ?_) (fun hc => ?_) <;> (try simp only [decide_eq_true_eq, decide_eq_false_iff_not, Bool.not_eq_true', Bool.not_eq_false', Int.not_lt, Int.not_le, Decidable.not_not] at hc) <;> (try contradiction) <;> (try (exfalso; omega))) | (refine W_cond rfl (fun hc => ?_) (fun hc => ?_) <;> (try simp only [decide_eq_true_eq, decide_eq_false_iff_not, Bool.not_eq_true', Bool.not_eq_false', Int.not_lt, Int.not_le, Decidable.not_not] at hc) <;> (try contradiction) <;> (try (exfalso; omega))) | (refine G_split rfl rfl (fun hc => ?_) (fun hc => ?_) <;> (try simp only [decide_eq_true_eq, decide_eq_false_iff_not, Bool.not_eq_true', Bool.not_eq_false', Int.not_lt, Int.not_le, Decidable.not_not] at hc) <;> (try contradiction) <;> (try (exfalso; omega))) | (with_reducible (refine hK _ _ ?_); clear hK K) | go_step)
    all_goals
      refine ret1 rfl ?_; simp (disch := first | (simp only [undef, want_some, upd_app, List.getElem?_cons_succ, List.getElem?_cons_zero, Option.join_some, e_bt, e_bf, Nat.reduceEqDiff, ↓reduceIte, Bool.not_true, Bool.not_false, ne_eq, not_false_eq_true]; done) | ((with_reducible refine pkE ?_); with_unfolding_all rfl) | ((with_reducible refine cszE ?_); with_unfolding_all rfl) | ((with_reducible refine isQE ?_); with_unfolding_all rfl) | assumption | omega) only [Bool.false_eq_true, Bool.not_false, Bool.not_true, Int.reduceToNat, Int.toNat_natCast, List.map_cons, List.map_nil, Nat.add_zero, Nat.reduceEqDiff, Nat.zero_add, ablk_some, aoff_some, b_exit, b_exitN, b_normal, b_ret, e_ifF, e_ifT, ev_const, ev_tmp, fe_fld _ o145_2, fe_fld _ o147_1, fe_gtr, fe_ixo k142 ie142 se142, fe_ixo k143 ie143 se143, fe_lss, fe_pick, fe_sub, fo_assign, fo_bin, fo_fieldAddr, fo_indexAddr, fo_load, fo_move, fo_pick, init1, init2a, init2b, init3a, init3b, init3c, put_some, r_value, s_nil, s_none, s_someF, s_someT, t_exit, t_normal, t_ret, tn1, tn2, tn3, upd_app, wrapS, ↓reduceIte]
      exact h _ ⟨fun e => (by cases e), fun e => absurd e hP⟩
-- spec.boxValid
set_option maxRecDepth 20000 in
theorem boxValid_ok {H : Heap} {w : World} (hH : HS H w) {na ba : Option Addr} {nn nc bn bc : Nat} {st : JS} {xs : List NumA} (hxs : st.nums = xs.map NumA.n) (tN : NrH H na nn xs) (tB : BrH H ba bn st.boxes) (jo : JOk st) (hnn : nn ≤ 1048576) (k nz : Int) (hnz : nz = nn + 1) (R : Value → World → Prop)
    (h : ∀ (r : Bool) w', (r = true ↔ bvP st k) → Fr noB w w' → R (.bool r) w') : CallsV Yaao.prog 91 #[.int .i64 k, .int .i64 nz, .slice na nn nc, .slice ba bn bc] w R := by
  have hAN := tN.sl.isA
  have hAB := tB.sl.isA
  have hlN := tN.len
  have hlB := tB.len
  have hnx : st.nums.length = xs.length := by rw [hxs]; simp
  refine ent91 (by simp) ?_
  by_cases hk : 1 ≤ k ∧ k ≤ nn
  · obtain ⟨m, rfl⟩ : ∃ m : Nat, k = ((m + 1 : Nat) : Int) := ⟨k.toNat - 1, by omega⟩
    have cA := tN.c0 m (by omega)
    have cK := tN.c1 m (by omega)
    have cB := tN.c2 m (by omega)
    have hj := jo.boxI m (by omega)
    have hnum : st.nums.getD m num0 = (xs.getD m na0).n := by rw [hxs]; exact getD_map0 NumA.n na0 xs m
    have hnum1 : st.num ((m + 1 : Nat) : Int) = (xs.getD m na0).n := by rw [jst_num0 hxs, Int.toNat_natCast, Nat.add_sub_cancel]
    rw [hnum] at hj
    obtain ⟨y, hy⟩ : ∃ y, y = xs.getD m na0 := ⟨_, rfl⟩
    rw [← hy] at cA cK cB hj hnum1
    obtain ⟨hj1, hj2, hj3⟩ := hj
    have hix : (((m + 1 : Nat) : Int) - 1).toNat = m := by omega
    repeat' (first | with_reducible refine VC_stop _ ?_ | refine W_seq (fun K hK => ?_) | refine W_block ?_ | refine W_skip ?_ | refine W_exit ?_ | refine W_ret ?_ | refine W_region ?_ | simp (disch := first | (simp only [undef, want_some, upd_app, List.getElem?_cons_succ, List.getElem?_cons_zero, Option.join_some, e_bt, e_bf, Nat.reduceEqDiff, ↓reduceIte, Bool.not_true, Bool.not_false, ne_eq, not_false_eq_true]; done) | ((with_reducible refine pkE ?_); with_unfolding_all rfl) | ((with_reducible refine cszE ?_); with_unfolding_all rfl) | ((with_reducible refine isQE ?_); with_unfolding_all rfl) | assumption | omega) only [Bool.false_eq_true, Bool.not_false, Bool.not_true, Int.reduceToNat, Int.toNat_natCast, List.map_cons, List.map_nil, Nat.add_zero, Nat.reduceEqDiff, Nat.zero_add, ablk_some, aoff_some, b_exit, b_exitN, b_normal, b_ret, e_alloc _ _ _ _ z145, e_alloc _ _ _ _ z147, e_ifF, e_ifT, e_stn _ _ i145 s145, e_stn _ _ i147 s147, ev_const, ev_tmp, fe_fld _ o145_1, fe_fld _ o145_2, fe_fld _ o147_0, fe_fld _ o147_1, fe_gtr, fe_ixo k142 ie142 se142, fe_ixo k143 ie143 se143, fe_lss, fe_neq, fe_pick, fe_sub, fo_assign, fo_bin, fo_fieldAddr, fo_indexAddr, fo_load, fo_move, fo_pick, init1, init2a, init2b, init3a, init3b, init3c, o_alloc, o_store, put_none, put_some, r_skip, r_value, s_nil, s_none, s_someF, s_someT, t_exit, t_normal, t_ret, tn1, tn2, tn3, upd_app, wrapS, ↓reduceIte, in4a, in4b, in4c, in4d, cA, cK, cB, hix, Nat.zero_add, Nat.add_zero, Int.toNat_natCast, List.map_cons, List.map_nil, cells1, cells2, cells3, cells4, cells5, d_loud, d_nil, d_quiet, d_someF, d_someT, e_ldH n3 hH, e_ldH n4 hH, e_ldaH k145 i145 s145 hH, e_ldaH k147 i147 s147 hH, l_enter, l_skip, l_val, q_ld n3 hH, q_ld n4 hH, q_lda k145 i145 s145 hH, q_lda k147 i147 s147 hH, q_val hH] | refine W_drawH hH (by kernel_rfl) (by kernel_rfl) (fun w1 hw1 hH => ?_) | (refine D_split rfl rfl (fun hc => ?_) (fun hc => ?_) <;> (try simp only [decide_eq_true_eq, decide_eq_false_iff_not, Bool.not_eq_true', Bool.not_eq_false', Int.not_lt, Int.not_le, Decidable.not_not] at hc) <;> (try contradiction) <;> (try (exfalso; omega))) | (refine W_cond rfl (fun hc => ?_) (fun hc => ?_) <;> (try simp only [decide_eq_true_eq, decide_eq_false_iff_not, Bool.not_eq_true', Bool.not_eq_false', Int.not_lt, Int.not_le, Decidable.not_not] at hc) <;> (try contradiction) <;> (try (exfalso; omega))) | (refine G_split rfl rfl (fun hc => ?_) (fun hc => ?_) <;> (try simp only [decide_eq_true_eq, decide_eq_false_iff_not, Bool.not_eq_true', Bool.not_eq_false', Int.not_lt, Int.not_le, Decidable.not_not] at hc) <;> (try contradiction) <;> (try (exfalso; omega))) | (with_reducible (refine hK _ _ ?_); clear hK K) | go_step)
    refine ⟨VC_keep hH (fun w3 H3 l3 hH3 k3 f3 x3 => ?_)⟩
    obtain ⟨be, hbe⟩ : ∃ be, be = w.heap.size := ⟨_, rfl⟩
    rw [← hbe] at k3 x3 ⊢
    have y1 : H3 be 1 = some (.int .i64 y.n.kind) := k3 1
    have y2 : H3 be 2 = some (.int .i64 y.n.box) := k3 2
    clear k3
    have tB3 := tB.mono l3
    by_cases h3 : y.n.kind = 3
    · obtain ⟨b, hbn⟩ : ∃ b : Nat, y.n.box = (b : Int) := ⟨y.n.box.toNat, by have := hj3 h3; omega⟩
      rw [h3] at y1
      rw [hbn] at y2 hj2
      have v0 := tB3.c0 b (by omega)
      have v1 := tB3.c1 b (by omega)
      obtain ⟨hpa1, hpa2, _, _⟩ := jo.bxI b (by omega)
      obtain ⟨bx, hbx⟩ : ∃ bx, bx = st.boxes.getD b bx0 := ⟨_, rfl⟩
      have hbxe : st.bx y.n.box = bx := by unfold JS.bx; rw [hbn, Int.toNat_natCast, hbx]
      rw [← hbx] at v0 v1 hpa1 hpa2
      have hP : bvP st ((m + 1 : Nat) : Int) ↔ (bx.opn = false ∧ (bx.parent < 0 ∨ (st.boxes.getD bx.parent.toNat bx0).opn = true)) := by
        unfold bvP
        rw [hnum1, hbxe]
        exact ⟨fun e => e.2.2.2, fun e => ⟨by omega, by omega, h3, e⟩⟩
      repeat' (first | with_reducible refine VC_stop _ ?_ | refine W_seq (fun K hK => ?_) | refine W_block ?_ | refine W_skip ?_ | refine W_exit ?_ | refine W_ret ?_ | refine W_region ?_ | simp (disch := first | (simp only [undef, want_some, upd_app, List.getElem?_cons_succ, List.getElem?_cons_zero, Option.join_some, e_bt, e_bf, Nat.reduceEqDiff, ↓reduceIte, Bool.not_true, Bool.not_false, ne_eq, not_false_eq_true]; done) | ((with_reducible refine pkE ?_); with_unfolding_all rfl) | ((with_reducible refine cszE ?_); with_unfolding_all rfl) | ((with_reducible refine isQE ?_); with_unfolding_all rfl) | assumption | omega) only [Bool.false_eq_true, Bool.not_false, Bool.not_true, Int.reduceToNat, Int.toNat_natCast, List.map_cons, List.map_nil, Nat.add_zero, Nat.reduceEqDiff, Nat.zero_add, ablk_some, aoff_some, b_exit, b_exitN, b_normal, b_ret, e_alloc _ _ _ _ z145, e_alloc _ _ _ _ z147, e_ifF, e_ifT, e_stn _ _ i145 s145, e_stn _ _ i147 s147, ev_const, ev_tmp, fe_fld _ o145_1, fe_fld _ o145_2, fe_fld _ o147_0, fe_fld _ o147_1, fe_gtr, fe_ixo k142 ie142 se142, fe_ixo k143 ie143 se143, fe_lss, fe_neq, fe_pick, fe_sub, fo_assign, fo_bin, fo_fieldAddr, fo_indexAddr, fo_load, fo_move, fo_pick, init1, init2a, init2b, init3a, init3b, init3c, o_alloc, o_store, put_none, put_some, r_skip, r_value, s_nil, s_none, s_someF, s_someT, t_exit, t_normal, t_ret, tn1, tn2, tn3, upd_app, wrapS, ↓reduceIte, in4a, in4b, in4c, in4d, y1, y2, v0, v1, Nat.zero_add, Nat.add_zero, Int.toNat_natCast, List.map_cons, List.map_nil, cells1, cells2, cells3, cells4, cells5, d_loud, d_nil, d_quiet, d_someF, d_someT, e_ldH n3 hH3, e_ldH n4 hH3, e_ldaH k145 i145 s145 hH3, e_ldaH k147 i147 s147 hH3, l_enter, l_skip, l_val, q_ld n3 hH3, q_ld n4 hH3, q_lda k145 i145 s145 hH3, q_lda k147 i147 s147 hH3, q_val hH3] | refine W_drawH hH3 (by kernel_rfl) (by kernel_rfl) (fun w1 hw1 hH3 => ?_) | (refine D_split rfl rfl (fun hc => ?_) (fun hc => ?_) <;> (try simp only [decide_eq_true_eq, decide_eq_false_iff_not, Bool.not_eq_true', Bool.not_eq_false', Int.not_lt, Int.not_le, Decidable.not_not] at hc) <;> (try contradiction) <;> (try (exfalso; omega))) | (refine W_cond rfl (fun hc => ?_) (fun hc => ?_) <;> (try simp only [decide_eq_true_eq, decide_eq_false_iff_not, Bool.not_eq_true', Bool.not_eq_false', Int.not_lt, Int.not_le, Decidable.not_not] at hc) <;> (try contradiction) <;> (try (exfalso; omega))) | (refine G_split rfl rfl (fun hc => ?_) (fun hc => ?_) <;> (try simp only [decide_eq_true_eq, decide_eq_false_iff_not, Bool.not_eq_true', Bool.not_eq_false', Int.not_lt, Int.not_le, Decidable.not_not] at hc) <;> (try contradiction) <;> (try (exfalso; omega))) | (with_reducible (refine hK _ _ ?_); clear hK K) | go_step)
      refine ⟨VC_keep hH3 (fun w4 H4 l4 hH4 k4 f4 x4 => ?_)⟩
      obtain ⟨bg, hbg⟩ : ∃ bg, bg = w3.heap.size := ⟨_, rfl⟩
      rw [← hbg] at k4 x4 ⊢
      have p0 : H4 bg 0 = some (.int .i64 bx.parent) := k4 0
      have p1 : H4 bg 1 = some (.bool bx.opn) := k4 1
      clear k4
      have tB4 := tB3.mono l4
      have hpar : 0 ≤ bx.parent → H4 (ablk ba) (aoff ba + bx.parent.toNat * 2 + 1) = some (.bool (st.boxes.getD bx.parent.toNat bx0).opn) := fun e => tB4.c1 _ (by omega)
      repeat' (first | refine W_seq (fun K hK => ?_) | refine W_block ?_ | refine W_skip ?_ | refine W_exit ?_ | refine W_ret ?_ | refine W_region ?_ | simp (disch := first | (simp only [undef, want_some, upd_app, List.getElem?_cons_succ, List.getElem?_cons_zero, Option.join_some, e_bt, e_bf, Nat.reduceEqDiff, ↓reduceIte, Bool.not_true, Bool.not_false, ne_eq, not_false_eq_true]; done) | ((with_reducible refine pkE ?_); with_unfolding_all rfl) | ((with_reducible refine cszE ?_); with_unfolding_all rfl) | ((with_reducible refine isQE ?_); with_unfolding_all rfl) | assumption | omega) only [Bool.false_eq_true, Bool.not_false, Bool.not_true, Int.reduceToNat, Int.toNat_natCast, List.map_cons, List.map_nil, Nat.add_zero, Nat.reduceEqDiff, Nat.zero_add, ablk_some, aoff_some, b_exit, b_exitN, b_normal, b_ret, e_alloc _ _ _ _ z145, e_alloc _ _ _ _ z147, e_ifF, e_ifT, e_stn _ _ i145 s145, e_stn _ _ i147 s147, ev_const, ev_tmp, fe_fld _ o145_1, fe_fld _ o145_2, fe_fld _ o147_0, fe_fld _ o147_1, fe_gtr, fe_ixo k142 ie142 se142, fe_ixo k143 ie143 se143, fe_lss, fe_neq, fe_pick, fe_sub, fo_assign, fo_bin, fo_fieldAddr, fo_indexAddr, fo_load, fo_move, fo_pick, init1, init2a, init2b, init3a, init3b, init3c, o_alloc, o_store, put_none, put_some, r_skip, r_value, s_nil, s_none, s_someF, s_someT, t_exit, t_normal, t_ret, tn1, tn2, tn3, upd_app, wrapS, ↓reduceIte, in4a, in4b, in4c, in4d, p0, p1, hpar, Nat.zero_add, Nat.add_zero, Int.toNat_natCast, List.map_cons, List.map_nil, cells1, cells2, cells3, cells4, cells5, d_loud, d_nil, d_quiet, d_someF, d_someT, e_ldH n3 hH4, e_ldH n4 hH4, e_ldaH k145 i145 s145 hH4, e_ldaH k147 i147 s147 hH4, l_enter, l_skip, l_val, q_ld n3 hH4, q_ld n4 hH4, q_lda k145 i145 s145 hH4, q_lda k147 i147 s147 hH4, q_val hH4] | refine W_drawH hH4 (by kernel_rfl) (by kernel_rfl) (fun w1 hw1 hH4 => ?_) | (refine D_split rfl rfl (fun hc => ?_) (fun hc => ?_) <;> (try simp only [decide_eq_true_eq, decide_eq_false_iff_not, Bool.not_eq_true', Bool.not_eq_false', Int.not_lt, Int.not_le, Decidable.not_not] at hc) <;> (try contradiction) <;> (try (exfalso; omega))) | (refine W_cond rfl (fun hc => ?_) (fun hc => ?_) <;> (try simp only [decide_eq_true_eq, decide_eq_false_iff_not, Bool.not_eq_true', Bool.not_eq_false', Int.not_lt, Int.not_le, Decidable.not_not] at hc) <;> (try contradiction) <;> (try (exfalso; omega))) | (refine G_split rfl rfl (fun hc => ?_) (fun hc => ?_) <;> (try simp only [decide_eq_true_eq, decide_eq_false_iff_not, Bool.not_eq_true', Bool.not_eq_false', Int.not_lt, Int.not_le, Decidable.not_not] at hc) <;> (try contradiction) <;> (try (exfalso; omega))) | (with_reducible (refine hK _ _ ?_); clear hK K) | go_step)
      all_goals
        refine ret1 rfl ?_; simp (disch := first | (simp only [undef, want_some, upd_app, List.getElem?_cons_succ, List.getElem?_cons_zero, Option.join_some, e_bt, e_bf, Nat.reduceEqDiff, ↓reduceIte, Bool.not_true, Bool.not_false, ne_eq, not_false_eq_true]; done) | ((with_reducible refine pkE ?_); with_unfolding_all rfl) | ((with_reducible refine cszE ?_); with_unfolding_all rfl) | ((with_reducible refine isQE ?_); with_unfolding_all rfl) | assumption | omega) only [Bool.false_eq_true, Bool.not_false, Bool.not_true, Int.reduceToNat, Int.toNat_natCast, List.map_cons, List.map_nil, Nat.add_zero, Nat.reduceEqDiff, Nat.zero_add, ablk_some, aoff_some, b_exit, b_exitN, b_normal, b_ret, e_alloc _ _ _ _ z145, e_alloc _ _ _ _ z147, e_ifF, e_ifT, e_stn _ _ i145 s145, e_stn _ _ i147 s147, ev_const, ev_tmp, fe_fld _ o145_1, fe_fld _ o145_2, fe_fld _ o147_0, fe_fld _ o147_1, fe_gtr, fe_ixo k142 ie142 se142, fe_ixo k143 ie143 se143, fe_lss, fe_neq, fe_pick, fe_sub, fo_assign, fo_bin, fo_fieldAddr, fo_indexAddr, fo_load, fo_move, fo_pick, init1, init2a, init2b, init3a, init3b, init3c, o_alloc, o_store, put_none, put_some, r_skip, r_value, s_nil, s_none, s_someF, s_someT, t_exit, t_normal, t_ret, tn1, tn2, tn3, upd_app, wrapS, ↓reduceIte]
        first
          | exact h _ _ (by rw [hP]; exact ⟨fun e => (by cases e), fun e => (by rw [e.1] at hc; cases hc)⟩) (f3.no f4)
          | exact h _ _ (by rw [hP]; exact ⟨fun e => ⟨by simpa using hc, .inr (by simpa using e)⟩, fun e => e.2.elim (fun e => by omega) (fun e => by simpa using e)⟩) (f3.no f4)
          | exact h _ _ (by rw [hP]; exact ⟨fun e => ⟨by assumption, .inr (by simpa using e)⟩, fun e => e.2.elim (fun e => by omega) (fun e => by simpa using e)⟩) (f3.no f4)
          | exact h _ _ (by rw [hP]; exact ⟨fun _ => ⟨by assumption, .inl (by omega)⟩, fun _ => by simp⟩) (f3.no f4)
    · have hP : ¬ bvP st ((m + 1 : Nat) : Int) := by
        unfold bvP
        rw [hnum1]
        exact fun e => h3 e.2.2.1
      repeat' (first | refine W_seq (fun K hK => ?_) | refine W_block ?_ | refine W_skip ?_ | refine W_exit ?_ | refine W_ret ?_ | refine W_region ?_ | simp (disch := first | (simp only [undef, want_some, upd_app, List.getElem?_cons_succ, List.getElem?_cons_zero, Option.join_some, e_bt, e_bf, Nat.reduceEqDiff, ↓reduceIte, Bool.not_true, Bool.not_false, ne_eq, not_false_eq_true]; done) | ((with_reducible refine pkE ?_); with_unfolding_all rfl) | ((with_reducible refine cszE ?_); with_unfolding_all rfl) | ((with_reducible refine isQE ?_); with_unfolding_all rfl) | assumption | omega) only [Bool.false_eq_true, Bool.not_false, Bool.not_true, Int.reduceToNat, Int.toNat_natCast, List.map_cons, List.map_nil, Nat.add_zero, Nat.reduceEqDiff, Nat.zero_add, ablk_some, aoff_some, b_exit, b_exitN, b_normal, b_ret, e_alloc _ _ _ _ z145, e_alloc _ _ _ _ z147, e_ifF, e_ifT, e_stn _ _ i145 s145, e_stn _ _ i147 s147, ev_const, ev_tmp, fe_fld _ o145_1, fe_fld _ o145_2, fe_fld _ o147_0, fe_fld _ o147_1, fe_gtr, fe_ixo k142 ie142 se142, fe_ixo k143 ie143 se143, fe_lss, fe_neq, fe_pick, fe_sub, fo_assign, fo_bin, fo_fieldAddr, fo_indexAddr, fo_load, fo_move, fo_pick, init1, init2a, init2b, init3a, init3b, init3c, o_alloc, o_store, put_none, put_some, r_skip, r_value, s_nil, s_none, s_someF, s_someT, t_exit, t_normal, t_ret, tn1, tn2, tn3, upd_app, wrapS, ↓reduceIte, in4a, in4b, in4c, in4d, y1, y2, Nat.zero_add, Nat.add_zero, Int.toNat_natCast, List.map_cons, List.map_nil, cells1, cells2, cells3, cells4, cells5, d_loud, d_nil, d_quiet, d_someF, d_someT, e_ldH n3 hH3, e_ldH n4 hH3, e_ldaH k145 i145 s145 hH3, e_ldaH k147 i147 s147 hH3, l_enter, l_skip, l_val, q_ld n3 hH3, q_ld n4 hH3, q_lda k145 i145 s145 hH3, q_lda k147 i147 s147 hH3, q_val hH3] | refine W_drawH hH3 (by kernel_rfl) (by kernel_rfl) (fun w1 hw1 hH3 => ?_) | (refine D_split rfl rfl (fun hc => ?_) (fun hc => ?_) <;> (try simp only [decide_eq_true_eq, decide_eq_false_iff_not, Bool.not_eq_true', Bool.not_eq_false', Int.not_lt, Int.not_le, Decidable.not_not] at hc) <;> (try contradiction) <;> (try (exfalso; omega))) | (refine W_cond rfl (fun hc => ?_) (fun hc => ?_) <;> (try simp only [decide_eq_true_eq, decide_eq_false_iff_not, Bool.not_eq_true', Bool.not_eq_false', Int.not_lt, Int.not_le, Decidable.not_not] at hc) <;> (try contradiction) <;> (try (exfalso; omega))) | (refine G_split rfl rfl (fun hc => ?_) (fun hc => ?_) <;> (try simp only [decide_eq_true_eq, decide_eq_false_iff_not, Bool.not_eq_true', Bool.not_eq_false', Int.not_lt, Int.not_le, Decidable.not_not] at hc) <;> (try contradiction) <;> (try (exfalso; omega))) | (with_reducible (refine hK _ _ ?_); clear hK K) | go_step)
      refine ret1 rfl ?_; simp (disch := first | (simp only [undef, want_some, upd_app, List.getElem?_cons_succ, List.getElem?_cons_zero, Option.join_some, e_bt, e_bf, Nat.reduceEqDiff, ↓reduceIte, Bool.not_true, Bool.not_false, ne_eq, not_false_eq_true]; done) | ((with_reducible refine pkE ?_); with_unfolding_all rfl) | ((with_reducible refine cszE ?_); with_unfolding_all rfl) | ((with_reducible refine isQE ?_); with_unfolding_all rfl) | assumption | omega) only [Bool.false_eq_true, Bool.not_false, Bool.not_true, Int.reduceToNat, Int.toNat_natCast, List.map_cons, List.map_nil, Nat.add_zero, Nat.reduceEqDiff, Nat.zero_add, ablk_some, aoff_some, b_exit, b_exitN, b_normal, b_ret, e_alloc _ _ _ _ z145, e_alloc _ _ _ _ z147, e_ifF, e_ifT, e_stn _ _ i145 s145, e_stn _ _ i147 s147, ev_const, ev_tmp, fe_fld _ o145_1, fe_fld _ o145_2, fe_fld _ o147_0, fe_fld _ o147_1, fe_gtr, fe_ixo k142 ie142 se142, fe_ixo k143 ie143 se143, fe_lss, fe_neq, fe_pick, fe_sub, fo_assign, fo_bin, fo_fieldAddr, fo_indexAddr, fo_load, fo_move, fo_pick, init1, init2a, init2b, init3a, init3b, init3c, o_alloc, o_store, put_none, put_some, r_skip, r_value, s_nil, s_none, s_someF, s_someT, t_exit, t_normal, t_ret, tn1, tn2, tn3, upd_app, wrapS, ↓reduceIte]
      exact h _ _ ⟨fun e => (by cases e), fun e => absurd e hP⟩ f3
  · have hP : ¬ bvP st k := fun e => hk ⟨e.1, by have := e.2.1; omega⟩
    repeat' (first | refine W_seq (fun K hK => ?_) | refine W_block ?_ | refine W_skip ?_ | refine W_exit ?_ | refine W_ret ?_ | refine W_region ?_ | simp (disch := first | (simp only [undef, want_some, upd_app, List.getElem?_cons_succ, List.getElem?_cons_zero, Option.join_some, e_bt, e_bf, Nat.reduceEqDiff, ↓reduceIte, Bool.not_true, Bool.not_false, ne_eq, not_false_eq_true]; done) | ((with_reducible refine pkE ?_); with_unfolding_all rfl) | ((with_reducible refine cszE ?_); with_unfolding_all rfl) | ((with_reducible refine isQE ?_); with_unfolding_all rfl) | assumption | omega) only [Bool.false_eq_true, Bool.not_false, Bool.not_true, Int.reduceToNat, Int.toNat_natCast, List.map_cons, List.map_nil, Nat.add_zero, Nat.reduceEqDiff, Nat.zero_add, ablk_some, aoff_some, b_exit, b_exitN, b_normal, b_ret, e_alloc _ _ _ _ z145, e_alloc _ _ _ _ z147, e_ifF, e_ifT, e_stn _ _ i145 s145, e_stn _ _ i147 s147, ev_const, ev_tmp, fe_fld _ o145_1, fe_fld _ o145_2, fe_fld _ o147_0, fe_fld _ o147_1, fe_gtr, fe_ixo k142 ie142 se142, fe_ixo k143 ie143 se143, fe_lss, fe_neq, fe_pick, fe_sub, fo_assign, fo_bin, fo_fieldAddr, fo_indexAddr, fo_load, fo_move, fo_pick, init1, init2a, init2b, init3a, init3b, init3c, o_alloc, o_store, put_none, put_some, r_skip, r_value, s_nil, s_none, s_someF, s_someT, t_exit, t_normal, t_ret, tn1, tn2, tn3, upd_app, wrapS, ↓reduceIte, in4a, in4b, in4c, in4d, Nat.zero_add, Nat.add_zero, Int.toNat_natCast, List.map_cons, List.map_nil, cells1, cells2, cells3, cells4, cells5, d_loud, d_nil, d_quiet, d_someF, d_someT, e_ldH n3 hH, e_ldH n4 hH, e_ldaH k145 i145 s145 hH, e_ldaH k147 i147 s147 hH, l_enter, l_skip, l_val, q_ld n3 hH, q_ld n4 hH, q_lda k145 i145 s145 hH, q_lda k147 i147 s147 hH, q_val hH] | refine W_drawH hH (by kernel_rfl) (by kernel_rfl) (fun w1 hw1 hH => ?_) | (refine D_split rfl rfl (fun hc => ?_) (fun hc => ?_) <;> (try simp only [decide_eq_true_eq, decide_eq_false_iff_not, Bool.not_eq_true', Bool.not_eq_false', Int.not_lt, Int.not_le, Decidable.not_not] at hc) <;> (try contradiction) <;> (try (exfalso; omega))) | (refine W_cond rfl (fun hc => ?_) (fun hc => ?_) <;> (try simp only [decide_eq_true_eq, decide_eq_false_iff_not, Bool.not_eq_true', Bool.not_eq_false', Int.not_lt, Int.not_le, Decidable.not_not] at hc) <;> (try contradiction) <;> (try (exfalso; omega))) | (refine G_split rfl rfl (fun hc => ?_) (fun hc => ?_) <;> (try simp only [decide_eq_true_eq, decide_eq_false_iff_not, Bool.not_eq_true', Bool.not_eq_false', Int.not_lt, Int.not_le, Decidable.not_not] at hc) <;> (try contradiction) <;> (try (exfalso; omega))) | (with_reducible (refine hK _ _ ?_); clear hK K) | go_step)
    all_goals
      refine ret1 rfl ?_; simp (disch := first | (simp only [undef, want_some, upd_app, List.getElem?_cons_succ, List.getElem?_cons_zero, Option.join_some, e_bt, e_bf, Nat.reduceEqDiff, ↓reduceIte, Bool.not_true, Bool.not_false, ne_eq, not_false_eq_true]; done) | ((with_reducible refine pkE ?_); with_unfolding_all rfl) | ((with_reducible refine cszE ?_); with_unfolding_all rfl) | ((with_reducible refine isQE ?_); with_unfolding_all rfl) | assumption | omega) only [Bool.false_eq_true, Bool.not_false, Bool.not_true, Int.reduceToNat, Int.toNat_natCast, List.map_cons, List.map_nil, Nat.add_zero, Nat.reduceEqDiff, Nat.zero_add, ablk_some, aoff_some, b_exit, b_exitN, b_normal, b_ret, e_alloc _ _ _ _ z145, e_alloc _ _ _ _ z147, e_ifF, e_ifT, e_stn _ _ i145 s145, e_stn _ _ i147 s147, ev_const, ev_tmp, fe_fld _ o145_1, fe_fld _ o145_2, fe_fld _ o147_0, fe_fld _ o147_1, fe_gtr, fe_ixo k142 ie142 se142, fe_ixo k143 ie143 se143, fe_lss, fe_neq, fe_pick, fe_sub, fo_assign, fo_bin, fo_fieldAddr, fo_indexAddr, fo_load, fo_move, fo_pick, init1, init2a, init2b, init3a, init3b, init3c, o_alloc, o_store, put_none, put_some, r_skip, r_value, s_nil, s_none, s_someF, s_someT, t_exit, t_normal, t_ret, tn1, tn2, tn3, upd_app, wrapS, ↓reduceIte]
      exact h _ _ ⟨fun e => (by cases e), fun e => absurd e hP⟩ (Fr.refl _ _)
end Go.Proofs.YbzaawGreat
